/- Of a kind that is none nothing is read; each other one has just what it has. -/
import Derived.Test.YtfkbljanmjnefaaFrameAwake
import Derived.Test.YtfkbljanmjnefaaWireRefNum
namespace Go.Proofs.Ytfkbljanmjnefaa
open Go.RowKit
set_option linter.unusedVariables false
set_option linter.unusedSimpArgs false

theorem finSay_cases (r : Rd) (x : SayV) : finSay r x = (x, 0) ∨ (∃ e, ¬ e = 0 ∧ finSay r x = (noSay, e)) := by
  unfold finSay
  by_cases h : (rEnd r).err = 0
  · exact .inl (if_pos h)
  · exact .inr ⟨_, h, if_neg h⟩
/-- What a frame of kind k comes to. -/
theorem rFrame_kind (k : Nat) (hk : k < 256) (c : ByteArray) (hc : c.size ≤ 1000) :
    (¬ (1 ≤ k ∧ k ≤ 5) → rFrame (numB 1 k ++ c) = (noSay, 6)) ∧
    ((1 ≤ k ∧ k ≤ 5) → (∃ e, ¬ e = 0 ∧ rFrame (numB 1 k ++ c) = (noSay, e)) ∨ (∃ x : SayV, rFrame (numB 1 k ++ c) = (x, 0) ∧ x.kind = k ∧ (k = 1 ∨ k = 3 ∨ x.hashes.length = 0) ∧ (k = 2 ∨ x.nodes.length = 0) ∧ (k = 4 ∨ x.file = .empty ∧ x.at_ = 0) ∧ (k = 5 ∨ x.share.dig = .empty ∧ x.share.path.length = 0))) := by
  have h1 := rNumber_at .empty c 1 k (by omega)
  have e0 : ((ByteArray.empty.size : Nat) : Int) = 0 := rfl
  rw [e0, pow1, Nat.mod_eq_of_lt hk, opEmpty_app] at h1
  have h1' : rNumber ⟨numB 1 k ++ c, 0, 0⟩ 1 = (⟨numB 1 k ++ c, 0 + 2 * 1, 0⟩, k) := h1
  have hsz : (numB 1 k ++ c).size ≤ 65536 := by rw [ByteArray.size_append, numB_size]; omega
  have hF : rFrame (numB 1 k ++ c) = _ := if_neg (by omega)
  simp only [h1'] at hF
  constructor
  · intro hn
    rw [if_neg (by omega), if_neg (by omega), if_neg (by omega), if_neg (by omega)] at hF
    rw [hF]
    unfold finSay rFail
    rw [if_pos rfl]
    rfl
  · intro hy
    have fin : ∀ r x, rFrame (numB 1 k ++ c) = finSay r x → (∃ e, ¬ e = 0 ∧ rFrame (numB 1 k ++ c) = (noSay, e)) ∨ rFrame (numB 1 k ++ c) = (x, 0) := fun r x h => by
      rcases finSay_cases r x with e | ⟨e, he, e'⟩
      · exact .inr (h.trans e)
      · exact .inl ⟨e, he, h.trans e'⟩
    rcases (by omega : (k = 1 ∨ k = 3) ∨ k = 2 ∨ k = 4 ∨ k = 5) with h | rfl | rfl | rfl
    · rw [if_pos h] at hF
      rcases fin _ _ hF with e | e
      · exact .inl e
      · exact .inr ⟨_, e, rfl, by omega, .inr rfl, .inr ⟨rfl, rfl⟩, .inr ⟨rfl, rfl⟩⟩
    · rw [if_neg (by omega), if_pos rfl] at hF
      rcases fin _ _ hF with e | e
      · exact .inl e
      · exact .inr ⟨_, e, rfl, .inr (.inr rfl), .inl rfl, .inr ⟨rfl, rfl⟩, .inr ⟨rfl, rfl⟩⟩
    · rw [if_neg (by omega), if_neg (by omega), if_pos rfl] at hF
      rcases fin _ _ hF with e | e
      · exact .inl e
      · exact .inr ⟨_, e, rfl, .inr (.inr rfl), .inr rfl, .inl rfl, .inr ⟨rfl, rfl⟩⟩
    · rw [if_neg (by omega), if_neg (by omega), if_neg (by omega), if_pos rfl] at hF
      rcases fin _ _ hF with e | e
      · exact .inl e
      · exact .inr ⟨_, e, rfl, .inr (.inr rfl), .inr rfl, .inr ⟨rfl, rfl⟩, .inl rfl⟩
theorem hexs_num (k : Nat) : (⟨(hexs (2 * 1) k).toArray⟩ : ByteArray) = numB 1 k := rfl
set_option maxRecDepth 100000 in
set_option maxHeartbeats 8000000 in
theorem frameKinds_core (k : Nat) (hk : k < 256) (kind : Int) (hkk : bits .and .i64 kind 255 = (k : Int)) (rest c : ByteArray) (hc : (100 < rest.size ∧ c = rest.extract 0 100) ∨ (¬ 100 < rest.size ∧ c = rest)) (hrs : rest.size ≤ 140737488351232) (w : World) :
    Calls Try.prog 4 #[.int .i64 kind, .string rest] w fun e w' => e = .returned (.bool true) ∧ New w w' := by
  have hcs : c.size ≤ 100 := by
    rcases hc with ⟨h, rfl⟩ | ⟨h, rfl⟩
    · rw [ByteArray.size_extract]; omega
    · omega
  have hF := rFrame_kind k hk c (by omega)
  have HN := Lib.hid (fun ww => refNumber_core k (by omega) 1 1 (by omega) (by omega) ww)
  rw [hexs_num] at HN
  have HD : Hid (∀ ww, Calls Try.prog 7 #[.string (numB 1 k ++ c)] ww fun e w' => ∃ A c1 A2 c2 A3 c3, e = .returned (.tuple #[.agg (sayC (rFrame (numB 1 k ++ c)).1 A c1 A2 c2 A3 c3), .int .i64 (rFrame (numB 1 k ++ c)).2]) ∧ New ww w') :=
    fun ww => frDec_any _ (by rw [ByteArray.size_append, numB_size]; omega) ww
  have hnz : (numB 1 k).size ≤ 2 := by rw [numB_size]; omega
  obtain ⟨nb, hnb⟩ : ∃ nb, numB 1 k = nb := ⟨_, rfl⟩
  rw [hnb] at HN HD hF hnz
  have hk2 : (k : Int) < 256 := by omega
  clear hnb hcs
  by_cases hr : 1 ≤ k ∧ k ≤ 5
  · rcases hF.2 hr with ⟨e, he, hf⟩ | ⟨x, hf, hx0, hx1, hx2, hx3, hx4⟩
    · rw [hf] at HD
      have heb : (e != 0) = true := by rw [bne_iff_ne]; exact he
      obtain ⟨k1, k5⟩ := hr
      have i1 : (1 : Int) ≤ (k : Int) := by omega
      have i5 : (k : Int) ≤ 5 := by omega
      clear hF hf
      rcases hc with ⟨h, rfl⟩ | ⟨h, rfl⟩
      all_goals
        first | (have h2 : (100 : Int) < (rest.size : Int) := by omega) | (have h2 : ¬ (100 : Int) < (c.size : Int) := by omega)
        go_enter Try.func4, Try.ntmps4
        go_wp2_with fail
        refine (HN.out _).mono ?_
        rintro e w1 ⟨rfl, g1⟩
        go_wp2_with fail
        refine (HD.out _).mono ?_
        rintro e w2 ⟨A, c1, A2, c2, A3, c3, rfl, g2⟩
        go_wp2_with fail
        have n2 : New w (w2.alloc (.cells #[.int .i64 0, .slice A 0 c1, .slice A2 0 c2, .string ⟨#[]⟩, .int .i64 0, .string ⟨#[]⟩, .int .i64 0, .int .i64 0, .int .i64 0, .string ⟨#[]⟩, .slice A3 0 c3] 27)) := (g1.new_ g2).alloc _
        refine calls_world (fun W => Own W w2.heap.size 27 #[.int .i64 0, .slice A 0 c1, .slice A2 0 c2, .string ⟨#[]⟩, .int .i64 0, .string ⟨#[]⟩, .int .i64 0, .int .i64 0, .int .i64 0, .string ⟨#[]⟩, .slice A3 0 c3] ∧ New w W) ⟨Own.fresh _ _ _, n2⟩ ?_
        clear n2 g1 g2
        rintro w3 ⟨o3, n3⟩
        refine (awake19_any _).mono ?_
        rintro e w4 ⟨rfl, g4⟩
        have o4 := o3.new_ g4
        have n4 := n3.new_ g4
        obtain ⟨x0, x1, x2, x3, x4, x5, x6, x7, x8, x9, x10⟩ := cells11 o4
        clear o3 n3 g4 o4
        go_wp2
        go_ret
        exact ⟨rfl, n4⟩
    · obtain ⟨kd, hl, nl, fi, at_, ⟨dig, sz, many, sat, ch, pl⟩⟩ := x
      simp only at hx0 hx1 hx2 hx3 hx4
      subst hx0
      rw [hf] at HD
      clear hF hf
      rcases (by omega : k = 1 ∨ k = 2 ∨ k = 3 ∨ k = 4 ∨ k = 5) with rfl | rfl | rfl | rfl | rfl
      · have y2 : nl = [] := by rcases hx2 with e | e; (exact absurd e (by omega)); exact List.length_eq_zero_iff.1 e
        have y3 : fi = .empty ∧ at_ = 0 := by rcases hx3 with e | e; (exact absurd e (by omega)); exact e
        obtain ⟨rfl, rfl⟩ := y3
        have y4 : dig = .empty ∧ pl = [] := by rcases hx4 with e | e; (exact absurd e (by omega)); exact ⟨e.1, List.length_eq_zero_iff.1 e.2⟩
        obtain ⟨rfl, rfl⟩ := y4
        subst y2
        clear hx1 hx2 hx3 hx4
        rcases hc with ⟨h, rfl⟩ | ⟨h, rfl⟩
        all_goals
          first | (have h2 : (100 : Int) < (rest.size : Int) := by omega) | (have h2 : ¬ (100 : Int) < (c.size : Int) := by omega)
          go_enter Try.func4, Try.ntmps4
          go_wp2_with fail
          refine (HN.out _).mono ?_
          rintro e w1 ⟨rfl, g1⟩
          go_wp2_with fail
          refine (HD.out _).mono ?_
          rintro e w2 ⟨A, c1, A2, c2, A3, c3, rfl, g2⟩
          go_wp2_with fail
          have n2 : New w (w2.alloc (.cells #[.int .i64 1, .slice A hl.length c1, .slice A2 0 c2, .string ByteArray.empty, .int .i64 0, .string ByteArray.empty, .int .i64 sz, .int .i64 many, .int .i64 sat, .string ch, .slice A3 0 c3] 27)) := (g1.new_ g2).alloc _
          refine calls_world (fun W => Own W w2.heap.size 27 #[.int .i64 1, .slice A hl.length c1, .slice A2 0 c2, .string ByteArray.empty, .int .i64 0, .string ByteArray.empty, .int .i64 sz, .int .i64 many, .int .i64 sat, .string ch, .slice A3 0 c3] ∧ New w W) ⟨Own.fresh _ _ _, n2⟩ ?_
          clear n2 g1 g2
          rintro w3 ⟨o3, n3⟩
          refine (awake19_any _).mono ?_
          rintro e w4 ⟨rfl, g4⟩
          have o4 := o3.new_ g4
          have n4 := n3.new_ g4
          obtain ⟨x0, x1, x2, x3, x4, x5, x6, x7, x8, x9, x10⟩ := cells11 o4
          clear o3 n3 g4 o4
          go_wp2
          go_ret
          exact ⟨rfl, n4⟩
      · have y1 : hl = [] := by rcases hx1 with e | e | e; (exact absurd e (by omega)); (exact absurd e (by omega)); exact List.length_eq_zero_iff.1 e
        have y3 : fi = .empty ∧ at_ = 0 := by rcases hx3 with e | e; (exact absurd e (by omega)); exact e
        obtain ⟨rfl, rfl⟩ := y3
        have y4 : dig = .empty ∧ pl = [] := by rcases hx4 with e | e; (exact absurd e (by omega)); exact ⟨e.1, List.length_eq_zero_iff.1 e.2⟩
        obtain ⟨rfl, rfl⟩ := y4
        subst y1
        clear hx1 hx2 hx3 hx4
        rcases hc with ⟨h, rfl⟩ | ⟨h, rfl⟩
        all_goals
          first | (have h2 : (100 : Int) < (rest.size : Int) := by omega) | (have h2 : ¬ (100 : Int) < (c.size : Int) := by omega)
          go_enter Try.func4, Try.ntmps4
          go_wp2_with fail
          refine (HN.out _).mono ?_
          rintro e w1 ⟨rfl, g1⟩
          go_wp2_with fail
          refine (HD.out _).mono ?_
          rintro e w2 ⟨A, c1, A2, c2, A3, c3, rfl, g2⟩
          go_wp2_with fail
          have n2 : New w (w2.alloc (.cells #[.int .i64 2, .slice A 0 c1, .slice A2 nl.length c2, .string ByteArray.empty, .int .i64 0, .string ByteArray.empty, .int .i64 sz, .int .i64 many, .int .i64 sat, .string ch, .slice A3 0 c3] 27)) := (g1.new_ g2).alloc _
          refine calls_world (fun W => Own W w2.heap.size 27 #[.int .i64 2, .slice A 0 c1, .slice A2 nl.length c2, .string ByteArray.empty, .int .i64 0, .string ByteArray.empty, .int .i64 sz, .int .i64 many, .int .i64 sat, .string ch, .slice A3 0 c3] ∧ New w W) ⟨Own.fresh _ _ _, n2⟩ ?_
          clear n2 g1 g2
          rintro w3 ⟨o3, n3⟩
          refine (awake19_any _).mono ?_
          rintro e w4 ⟨rfl, g4⟩
          have o4 := o3.new_ g4
          have n4 := n3.new_ g4
          obtain ⟨x0, x1, x2, x3, x4, x5, x6, x7, x8, x9, x10⟩ := cells11 o4
          clear o3 n3 g4 o4
          go_wp2
          go_ret
          exact ⟨rfl, n4⟩
      · have y2 : nl = [] := by rcases hx2 with e | e; (exact absurd e (by omega)); exact List.length_eq_zero_iff.1 e
        have y3 : fi = .empty ∧ at_ = 0 := by rcases hx3 with e | e; (exact absurd e (by omega)); exact e
        obtain ⟨rfl, rfl⟩ := y3
        have y4 : dig = .empty ∧ pl = [] := by rcases hx4 with e | e; (exact absurd e (by omega)); exact ⟨e.1, List.length_eq_zero_iff.1 e.2⟩
        obtain ⟨rfl, rfl⟩ := y4
        subst y2
        clear hx1 hx2 hx3 hx4
        rcases hc with ⟨h, rfl⟩ | ⟨h, rfl⟩
        all_goals
          first | (have h2 : (100 : Int) < (rest.size : Int) := by omega) | (have h2 : ¬ (100 : Int) < (c.size : Int) := by omega)
          go_enter Try.func4, Try.ntmps4
          go_wp2_with fail
          refine (HN.out _).mono ?_
          rintro e w1 ⟨rfl, g1⟩
          go_wp2_with fail
          refine (HD.out _).mono ?_
          rintro e w2 ⟨A, c1, A2, c2, A3, c3, rfl, g2⟩
          go_wp2_with fail
          have n2 : New w (w2.alloc (.cells #[.int .i64 3, .slice A hl.length c1, .slice A2 0 c2, .string ByteArray.empty, .int .i64 0, .string ByteArray.empty, .int .i64 sz, .int .i64 many, .int .i64 sat, .string ch, .slice A3 0 c3] 27)) := (g1.new_ g2).alloc _
          refine calls_world (fun W => Own W w2.heap.size 27 #[.int .i64 3, .slice A hl.length c1, .slice A2 0 c2, .string ByteArray.empty, .int .i64 0, .string ByteArray.empty, .int .i64 sz, .int .i64 many, .int .i64 sat, .string ch, .slice A3 0 c3] ∧ New w W) ⟨Own.fresh _ _ _, n2⟩ ?_
          clear n2 g1 g2
          rintro w3 ⟨o3, n3⟩
          refine (awake19_any _).mono ?_
          rintro e w4 ⟨rfl, g4⟩
          have o4 := o3.new_ g4
          have n4 := n3.new_ g4
          obtain ⟨x0, x1, x2, x3, x4, x5, x6, x7, x8, x9, x10⟩ := cells11 o4
          clear o3 n3 g4 o4
          go_wp2
          go_ret
          exact ⟨rfl, n4⟩
      · have y1 : hl = [] := by rcases hx1 with e | e | e; (exact absurd e (by omega)); (exact absurd e (by omega)); exact List.length_eq_zero_iff.1 e
        have y2 : nl = [] := by rcases hx2 with e | e; (exact absurd e (by omega)); exact List.length_eq_zero_iff.1 e
        have y4 : dig = .empty ∧ pl = [] := by rcases hx4 with e | e; (exact absurd e (by omega)); exact ⟨e.1, List.length_eq_zero_iff.1 e.2⟩
        obtain ⟨rfl, rfl⟩ := y4
        subst y1
        subst y2
        clear hx1 hx2 hx3 hx4
        rcases hc with ⟨h, rfl⟩ | ⟨h, rfl⟩
        all_goals
          first | (have h2 : (100 : Int) < (rest.size : Int) := by omega) | (have h2 : ¬ (100 : Int) < (c.size : Int) := by omega)
          go_enter Try.func4, Try.ntmps4
          go_wp2_with fail
          refine (HN.out _).mono ?_
          rintro e w1 ⟨rfl, g1⟩
          go_wp2_with fail
          refine (HD.out _).mono ?_
          rintro e w2 ⟨A, c1, A2, c2, A3, c3, rfl, g2⟩
          go_wp2_with fail
          have n2 : New w (w2.alloc (.cells #[.int .i64 4, .slice A 0 c1, .slice A2 0 c2, .string fi, .int .i64 at_, .string ByteArray.empty, .int .i64 sz, .int .i64 many, .int .i64 sat, .string ch, .slice A3 0 c3] 27)) := (g1.new_ g2).alloc _
          refine calls_world (fun W => Own W w2.heap.size 27 #[.int .i64 4, .slice A 0 c1, .slice A2 0 c2, .string fi, .int .i64 at_, .string ByteArray.empty, .int .i64 sz, .int .i64 many, .int .i64 sat, .string ch, .slice A3 0 c3] ∧ New w W) ⟨Own.fresh _ _ _, n2⟩ ?_
          clear n2 g1 g2
          rintro w3 ⟨o3, n3⟩
          refine (awake19_any _).mono ?_
          rintro e w4 ⟨rfl, g4⟩
          have o4 := o3.new_ g4
          have n4 := n3.new_ g4
          obtain ⟨x0, x1, x2, x3, x4, x5, x6, x7, x8, x9, x10⟩ := cells11 o4
          clear o3 n3 g4 o4
          go_wp2
          go_ret
          exact ⟨rfl, n4⟩
      · have y1 : hl = [] := by rcases hx1 with e | e | e; (exact absurd e (by omega)); (exact absurd e (by omega)); exact List.length_eq_zero_iff.1 e
        have y2 : nl = [] := by rcases hx2 with e | e; (exact absurd e (by omega)); exact List.length_eq_zero_iff.1 e
        have y3 : fi = .empty ∧ at_ = 0 := by rcases hx3 with e | e; (exact absurd e (by omega)); exact e
        obtain ⟨rfl, rfl⟩ := y3
        subst y1
        subst y2
        clear hx1 hx2 hx3 hx4
        rcases hc with ⟨h, rfl⟩ | ⟨h, rfl⟩
        all_goals
          first | (have h2 : (100 : Int) < (rest.size : Int) := by omega) | (have h2 : ¬ (100 : Int) < (c.size : Int) := by omega)
          go_enter Try.func4, Try.ntmps4
          go_wp2_with fail
          refine (HN.out _).mono ?_
          rintro e w1 ⟨rfl, g1⟩
          go_wp2_with fail
          refine (HD.out _).mono ?_
          rintro e w2 ⟨A, c1, A2, c2, A3, c3, rfl, g2⟩
          go_wp2_with fail
          have n2 : New w (w2.alloc (.cells #[.int .i64 5, .slice A 0 c1, .slice A2 0 c2, .string ByteArray.empty, .int .i64 0, .string dig, .int .i64 sz, .int .i64 many, .int .i64 sat, .string ch, .slice A3 pl.length c3] 27)) := (g1.new_ g2).alloc _
          refine calls_world (fun W => Own W w2.heap.size 27 #[.int .i64 5, .slice A 0 c1, .slice A2 0 c2, .string ByteArray.empty, .int .i64 0, .string dig, .int .i64 sz, .int .i64 many, .int .i64 sat, .string ch, .slice A3 pl.length c3] ∧ New w W) ⟨Own.fresh _ _ _, n2⟩ ?_
          clear n2 g1 g2
          rintro w3 ⟨o3, n3⟩
          refine (awake19_any _).mono ?_
          rintro e w4 ⟨rfl, g4⟩
          have o4 := o3.new_ g4
          have n4 := n3.new_ g4
          obtain ⟨x0, x1, x2, x3, x4, x5, x6, x7, x8, x9, x10⟩ := cells11 o4
          clear o3 n3 g4 o4
          go_wp2
          go_ret
          exact ⟨rfl, n4⟩
  · have hf := hF.1 hr
    rw [hf] at HD
    have hkn : ((k : Int) < 1) ∨ (¬ (k : Int) < 1 ∧ 5 < (k : Int)) := by omega
    clear hF hf
    rcases hkn with hkn | ⟨hkn, hkm⟩
    all_goals
      rcases hc with ⟨h, rfl⟩ | ⟨h, rfl⟩
      all_goals
        first | (have h2 : (100 : Int) < (rest.size : Int) := by omega) | (have h2 : ¬ (100 : Int) < (c.size : Int) := by omega)
        go_enter Try.func4, Try.ntmps4
        go_wp2_with fail
        refine (HN.out _).mono ?_
        rintro e w1 ⟨rfl, g1⟩
        go_wp2_with fail
        refine (HD.out _).mono ?_
        rintro e w2 ⟨A, c1, A2, c2, A3, c3, rfl, g2⟩
        go_wp2_with fail
        have n2 : New w (w2.alloc (.cells #[.int .i64 0, .slice A 0 c1, .slice A2 0 c2, .string ⟨#[]⟩, .int .i64 0, .string ⟨#[]⟩, .int .i64 0, .int .i64 0, .int .i64 0, .string ⟨#[]⟩, .slice A3 0 c3] 27)) := (g1.new_ g2).alloc _
        refine calls_world (fun W => Own W w2.heap.size 27 #[.int .i64 0, .slice A 0 c1, .slice A2 0 c2, .string ⟨#[]⟩, .int .i64 0, .string ⟨#[]⟩, .int .i64 0, .int .i64 0, .int .i64 0, .string ⟨#[]⟩, .slice A3 0 c3] ∧ New w W) ⟨Own.fresh _ _ _, n2⟩ ?_
        clear n2 g1 g2
        rintro w3 ⟨o3, n3⟩
        refine (awake19_any _).mono ?_
        rintro e w4 ⟨rfl, g4⟩
        have o4 := o3.new_ g4
        have n4 := n3.new_ g4
        obtain ⟨x0, x1, x2, x3, x4, x5, x6, x7, x8, x9, x10⟩ := cells11 o4
        clear o3 n3 g4 o4
        go_wp2
        go_ret
        exact ⟨rfl, n4⟩
theorem frameKinds_walk (kind : Int) (hk : (Lit.int .i64 kind).wf = true) (rest : ByteArray) (hs : rest.size ≤ 140737488351232) (w : World) :
    Calls Try.prog 4 #[.int .i64 kind, .string rest] w fun e w' => e = .returned (.bool true) ∧ New w w' := by
  have h1 : bits .and .i64 kind 255 = ((kind % 256).toNat : Int) := by rw [i64_and255]; omega
  by_cases h : 100 < rest.size
  · exact frameKinds_core _ (by omega) kind h1 rest _ (.inl ⟨h, rfl⟩) hs w
  · exact frameKinds_core _ (by omega) kind h1 rest _ (.inr ⟨h, rfl⟩) hs w
end Go.Proofs.Ytfkbljanmjnefaa
