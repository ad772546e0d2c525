/- The reference's readers: Number. -/
import Derived.Test.YtlefmnoaejpllaaWireGet
namespace Go.Proofs.Ytlefmnoaejpllaa
open Go.RowKit
set_option linter.unusedVariables false

theorem value_any (c : UInt8) (w : World) : Calls Try.prog 79 #[.int .u8 c.toNat] w fun e w' => e = .returned (.int .u64 (hexv c : Nat)) ∧ w = w' := by
  have hc := c.toNat_lt
  rcases (by omega : c.toNat < 48 ∨ (48 ≤ c.toNat ∧ c.toNat ≤ 57) ∨ (57 < c.toNat ∧ c.toNat < 97) ∨ (97 ≤ c.toNat ∧ c.toNat ≤ 102) ∨ 102 < c.toNat) with h | ⟨h, h2⟩ | ⟨h, h2⟩ | ⟨h, h2⟩ | h
  all_goals
    have HV : Hid (hexv c = if 48 ≤ c.toNat ∧ c.toNat ≤ 57 then c.toNat - 48 else if 97 ≤ c.toNat ∧ c.toNat ≤ 102 then c.toNat - 87 else 16) := by
      show _ = _
      unfold hexv
      simp [UInt8.le_iff_toNat_le]
    go_enter Try.func79, Try.ntmps79
    go_wp2
    go_ret
    refine ⟨ret_int ?_, rfl⟩
    rw [HV.out]
    first
      | (rw [if_neg (by omega), if_neg (by omega)]; rfl)
      | (rw [if_pos (by omega)]; show _ = _; omega)
      | (rw [if_neg (by omega), if_pos (by omega)]; show _ = _; omega)

theorem refBytes_some (s : ByteArray) (pos err n : Int) (hz : (err == 0) = false) (w : World) :
    Calls Try.prog 46 #[.agg #[.string s, .int .i64 pos, .int .i64 err], .int .i64 n] w fun e w' => e = .returned (.tuple #[.agg #[.string s, .int .i64 pos, .int .i64 err], .string ⟨#[]⟩]) ∧ New w w' := by
  have hz2 : (err != 0) = true := by rw [bne_iff_ne]; simpa using hz
  go_enter Try.func46, Try.ntmps46
  go_wp2
  refine bodyPost_ret (v := .tuple #[.agg #[.string s, .int .i64 pos, .int .i64 err], .string ⟨#[]⟩]) (by simp [results, Try.results46, go_sem]) rfl ⟨rfl, ?_⟩
  repeat (first | with_reducible exact Fr.refl _ _ | with_reducible assumption | with_reducible refine Fr.drew ?_ | with_reducible refine Fr.drewN ?_ _ | with_reducible refine Fr.alloc ?_ _ | with_reducible refine Fr.set ?_ (by first | exact fun _ => rfl | (intro hlt; exfalso; simp at hlt; try omega) | (simp; omega)) _ | with_reducible refine Fr.new_ ?_ (by assumption))

set_option maxRecDepth 100000 in
set_option maxHeartbeats 2000000 in
theorem refRdNumber_core (r : Rd) (k : Int) (hb : ¬ (r.err = 0 ∧ (k < 0 ∨ 8 < k))) (r1 : Rd) (t : ByteArray) (hlim : t.size ≤ 16)
    (hB : ∀ w n, (r.err = 0 → n = 2 * k) → Calls Try.prog 46 #[r.val, .int .i64 n] w fun e w' => e = .returned (.tuple #[r1.val, .string t]) ∧ New w w')
    (r2 : Rd) (n2 : Nat) (HP : Hid ((match numL t.data.toList with | some n => (r1, n) | none => (r.withErr 6, 0)) = (r2, n2))) (w : World) :
    Calls Try.prog 32 #[r.val, .int .i64 k] w fun e w' => e = .returned (.tuple #[r2.val, .int .u64 n2]) ∧ New w w' := by
  obtain ⟨s, pos, err⟩ := r
  have HB := Lib.hid hB
  clear hB
  obtain ⟨kk, hk⟩ : ∃ kk, IntKind.i64.wrap (k + k) = kk := ⟨_, rfl⟩
  have hx : (err = 0 ∧ 0 ≤ k ∧ k ≤ 8) ∨ ((err == 0) = false) := by
    by_cases he : err = 0
    · left
      refine ⟨he, ?_⟩
      simp only [he, true_and] at hb
      omega
    · right
      rw [beq_eq_false_iff_ne]
      exact he
  clear hb
  have HK : Hid (err = 0 → kk = 2 * k) := by
    intro e
    rcases hx with ⟨_, h0, h1⟩ | h
    · rw [← hk, IntKind.wrap_i64]
      omega
    · simp [e] at h
  have hls : t.data.toList.length = t.size := by simp
  rcases hx with ⟨rfl, h0, h1⟩ | hz
  all_goals
    go_enter Try.func32, Try.ntmps32
    go_wp2_with fail
    refine (HB.out _ _ HK.out).mono ?_
    rintro e w1 ⟨rfl, hn1⟩
    obtain ⟨o1, o2, hn2⟩ := two_boxes hn1
    have hz1 := hn2.size
    go_wp2_with fail
    have p1 := o1.alloc (.cells #[.string r1.s, .int .i64 r1.pos, .int .i64 r1.err] 52)
    have p2 := o2.alloc (.cells #[.string r1.s, .int .i64 r1.pos, .int .i64 r1.err] 52)
    have p3 := Own.fresh w1 52 #[.string r1.s, .int .i64 r1.pos, .int .i64 r1.err]
    have hn3 : New w (w1.alloc (.cells #[.string r1.s, .int .i64 r1.pos, .int .i64 r1.err] 52)) := hn2.alloc _
    have hlt1 := o2.lt
    have O2 := Lib.hid o2
    clear o1 o2 hn1
    go_loopw [8, 9] (fun nv iv wr => ∃ i n : Nat, iv = .int .i64 i ∧ nv = .int .u64 n ∧ i ≤ t.size ∧ n < 16 ^ i ∧ wr = w1.alloc (.cells #[.string r1.s, .int .i64 r1.pos, .int .i64 r1.err] 52) ∧ Hid (numL (t.data.toList.take i) = some n)) (fun _ iv _ => t.size - (intOf iv).toNat)
    case atStart => exact ⟨0, 0, rfl, rfl, by omega, by simp, rfl, rfl⟩
    case round =>
      obtain ⟨i, n, rfl, rfl, hi, hn16, rfl, HN⟩ := hrel
      by_cases hlt : i < t.size
      · have hn60 : n ≤ 1152921504606846975 := by
          have h15 : 16 ^ i ≤ 16 ^ 15 := Nat.pow_le_pow_right (by omega) (by omega)
          have : (16 : Nat) ^ 15 = 1152921504606846976 := by decide
          omega
        have HS := take_snoc t i hlt
        obtain ⟨c, hcc⟩ : ∃ c, t[i] = c := ⟨_, rfl⟩
        rw [hcc] at HS
        have HS2 := Lib.hid HS
        have hcc2 : ∀ (h : i < t.size), t[i]'h = c := fun _ => hcc
        clear HS
        by_cases hd : hexv c < 16
        · obtain ⟨d, hdd⟩ : ∃ d, hexv c = d := ⟨_, rfl⟩
          have HD := Lib.hid hdd
          rw [hdd] at hd
          clear hdd
          go_wp2_with (go_at_call 79; refine (value_any c _).mono ?_; rw [HD.out]; rintro e w3 ⟨rfl, rfl⟩)
          go_roundw
          case rel =>
            refine ⟨i + 1, n * 16 + d, by go_num, by simp, by omega, ?_, trivial, ?_⟩
            · rw [Nat.pow_succ]; omega
            · show _ = _
              rw [HS2.out, numL_snoc, HN.out]
              unfold valStep
              simp [HD.out, hd]
          case measure => simp [intOf]; omega
        · have HZ : Hid ((r1, 0) = (r1, 0)) := rfl
          have HR := HP.out
          rw [numL_none (i + 1) (by rw [HS2.out, numL_snoc, HN.out]; unfold valStep; simp [hd])] at HR
          injection HR with e1 e2
          have E1 := Lib.hid e1
          have E2 := Lib.hid e2
          have hd' : (15 : Int) < (hexv c : Nat) := by omega
          clear e1 e2 HZ hd
          obtain ⟨a0, a1, a2, b0, b1, b2⟩ := p1.three
          go_wp2_with (go_at_call 79; refine (value_any c _).mono ?_; rintro e w3 ⟨rfl, rfl⟩)
          refine (with_any _ _ _ _ _).mono ?_
          rintro e w3 ⟨rfl, hn4⟩
          have p5 := p2.new_ hn4
          have hn5 := hn3.new_ hn4
          obtain ⟨c0, c1, c2, f0, f1, f2⟩ := p5.three
          have hz5 := hn5.size
          go_wp2_with fail
          refine bodyPost_ret (v := .tuple #[.agg #[.string s, .int .i64 pos, .int .i64 6], .int .u64 0]) (by simp [results, Try.results32, go_sem, *]) rfl ⟨?_, ?_⟩
          · rw [← E1.out, ← E2.out]; rfl
          · repeat (first | with_reducible exact Fr.refl _ _ | with_reducible assumption | with_reducible refine Fr.drew ?_ | with_reducible refine Fr.drewN ?_ _ | with_reducible refine Fr.alloc ?_ _ | with_reducible refine Fr.set ?_ (by first | exact fun _ => rfl | (intro hlt; exfalso; simp at hlt; try omega) | (simp; omega)) _ | with_reducible refine Fr.new_ ?_ (by assumption))
      · have HI : Hid (i = t.size) := by show _ = _; omega
        obtain ⟨c0, c1, c2, f0, f1, f2⟩ := (show Own w1 (w.heap.size + 1) _ _ from O2.out).three
        clear p1 p2 p3
        go_wp2_with fail
        have hz := HN.out
        rw [List.take_of_length_le (by rw [HI.out, hls]; omega)] at hz
        have HR := HP.out
        rw [hz] at HR
        injection HR with e1 e2
        subst e1 e2
        refine bodyPost_ret (v := .tuple #[.agg #[.string r1.s, .int .i64 r1.pos, .int .i64 r1.err], .int .u64 n]) (by simp [results, Try.results32, go_sem, *]) rfl ⟨rfl, ?_⟩
        repeat (first | with_reducible exact Fr.refl _ _ | with_reducible assumption | with_reducible refine Fr.drew ?_ | with_reducible refine Fr.drewN ?_ _ | with_reducible refine Fr.alloc ?_ _ | with_reducible refine Fr.set ?_ (by first | exact fun _ => rfl | (intro hlt; exfalso; simp at hlt; try omega) | (simp; omega)) _ | with_reducible refine Fr.new_ ?_ (by assumption))

theorem extract_le16 {s : ByteArray} {pos : Int} (k : Int) (h0 : 0 ≤ k) (h1 : k ≤ 8) (hp : 0 ≤ pos) : (s.extract pos.toNat (pos + 2 * k).toNat).size ≤ 16 := by
  rw [ByteArray.size_extract]
  omega

theorem refRdNumber_any (r : Rd) (hr : r.ok) (k : Int) (w : World) :
    Calls Try.prog 32 #[r.val, .int .i64 k] w fun e w' => e = .returned (.tuple #[(rNumber r k).1.val, .int .u64 (rNumber r k).2]) ∧ New w w' := by
  obtain ⟨s, pos, err⟩ := r
  by_cases he : err = 0
  · subst he
    obtain ⟨q0, q1, q2⟩ := id hr
    simp only at q0 q1 q2
    rcases (by omega : k < 0 ∨ (¬ k < 0 ∧ 8 < k) ∨ (0 ≤ k ∧ k ≤ 8 ∧ (s.size : Int) - pos < 2 * k) ∨ (0 ≤ k ∧ k ≤ 8 ∧ 2 * k ≤ s.size - pos)) with h0 | ⟨h0, h1⟩ | ⟨h0, h1, h2⟩ | ⟨h0, h1, h2⟩
    · have HP : Hid (rNumber ⟨s, pos, 0⟩ k = (⟨s, pos, 1⟩, 0)) := by
        show _ = _
        unfold rNumber
        rw [if_pos rfl, if_pos (.inl h0)]
        rfl
      go_enter Try.func32, Try.ntmps32
      go_wp2_with fail
      refine (with_any _ _ _ _ _).mono ?_
      rintro e w1 ⟨rfl, hn1⟩
      obtain ⟨o1, o2, hn2⟩ := two_boxes hn1
      obtain ⟨k0, k1, k2, k3, k4, k5⟩ := o2.three
      have hz := hn2.size
      go_wp2
      refine bodyPost_ret (v := .tuple #[.agg #[.string s, .int .i64 pos, .int .i64 1], .int .u64 0]) (by simp [results, Try.results32, go_sem, *]) rfl ⟨?_, ?_⟩
      · rw [HP.out]; rfl
      · repeat (first | with_reducible exact Fr.refl _ _ | with_reducible assumption | with_reducible refine Fr.drew ?_ | with_reducible refine Fr.drewN ?_ _ | with_reducible refine Fr.alloc ?_ _ | with_reducible refine Fr.set ?_ (by first | exact fun _ => rfl | (intro hlt; exfalso; simp at hlt; try omega) | (simp; omega)) _ | with_reducible refine Fr.new_ ?_ (by assumption))
    · have HP : Hid (rNumber ⟨s, pos, 0⟩ k = (⟨s, pos, 1⟩, 0)) := by
        show _ = _
        unfold rNumber
        rw [if_pos rfl, if_pos (.inr h1)]
        rfl
      go_enter Try.func32, Try.ntmps32
      go_wp2_with fail
      refine (with_any _ _ _ _ _).mono ?_
      rintro e w1 ⟨rfl, hn1⟩
      obtain ⟨o1, o2, hn2⟩ := two_boxes hn1
      obtain ⟨k0, k1, k2, k3, k4, k5⟩ := o2.three
      have hz := hn2.size
      go_wp2
      refine bodyPost_ret (v := .tuple #[.agg #[.string s, .int .i64 pos, .int .i64 1], .int .u64 0]) (by simp [results, Try.results32, go_sem, *]) rfl ⟨?_, ?_⟩
      · rw [HP.out]; rfl
      · repeat (first | with_reducible exact Fr.refl _ _ | with_reducible assumption | with_reducible refine Fr.drew ?_ | with_reducible refine Fr.drewN ?_ _ | with_reducible refine Fr.alloc ?_ _ | with_reducible refine Fr.set ?_ (by first | exact fun _ => rfl | (intro hlt; exfalso; simp at hlt; try omega) | (simp; omega)) _ | with_reducible refine Fr.new_ ?_ (by assumption))
    · refine refRdNumber_core ⟨s, pos, 0⟩ k (by simp only; omega) ⟨s, pos, 4⟩ .empty (by simp) ?_ _ _ ?_ w
      · intro w n hn
        obtain rfl := hn rfl
        refine (refBytes_any ⟨s, pos, 0⟩ hr (2 * k) (by omega) w).mono ?_
        rintro e w1 ⟨rfl, hn1⟩
        refine ⟨?_, hn1⟩
        unfold rBytes
        rw [if_pos rfl, if_neg (by omega), if_pos (by simp only; omega)]
        rfl
      · show _ = _
        unfold rNumber
        rw [if_pos rfl, if_neg (by omega), if_pos (by simp only; omega)]
        rfl
    · refine refRdNumber_core ⟨s, pos, 0⟩ k (by simp only; omega) ⟨s, pos + 2 * k, 0⟩ (s.extract pos.toNat (pos + 2 * k).toNat) (extract_le16 k h0 h1 q1) ?_ _ _ ?_ w
      · intro w n hn
        obtain rfl := hn rfl
        refine (refBytes_any ⟨s, pos, 0⟩ hr (2 * k) (by omega) w).mono ?_
        rintro e w1 ⟨rfl, hn1⟩
        refine ⟨?_, hn1⟩
        unfold rBytes
        rw [if_pos rfl, if_neg (by omega), if_neg (by simp only; omega)]
      · show _ = _
        unfold rNumber
        rw [if_pos rfl, if_neg (by omega), if_neg (by simp only; omega)]
        rfl
  · have hz : (err == 0) = false := by rw [beq_eq_false_iff_ne]; exact he
    refine refRdNumber_core ⟨s, pos, err⟩ k (by simp only; omega) ⟨s, pos, err⟩ .empty (by simp) ?_ _ _ ?_ w
    · intro w n hn
      exact refBytes_some s pos err n hz w
    · show _ = _
      unfold rNumber
      rw [if_neg he]
      rfl
theorem rNumber_ok {r : Rd} (h : r.ok) (k : Int) : (rNumber r k).1.ok := by
  obtain ⟨h0, h1, h2⟩ := h
  unfold rNumber
  split
  · split
    · exact ⟨h0, h1, h2⟩
    · split
      · exact ⟨h0, h1, h2⟩
      · split
        · refine ⟨h0, ?_, ?_⟩ <;> simp only <;> omega
        · exact ⟨h0, h1, h2⟩
  · exact ⟨h0, h1, h2⟩
theorem hexv_le (c : UInt8) : hexv c ≤ 16 := by
  have := c.toNat_lt
  unfold hexv
  split
  · rename_i h
    have := UInt8.le_iff_toNat_le.mp h.2
    simp at this
    omega
  · split
    · rename_i h
      have := UInt8.le_iff_toNat_le.mp h.2
      simp at this
      omega
    · omega
theorem numL_lt_rev (l : List UInt8) : ∀ n, numL l.reverse = some n → n < 16 ^ l.length := by
  induction l with
  | nil => intro n h; simp [numL] at h; subst h; simp
  | cons c l ih =>
    intro n h
    rw [List.reverse_cons, numL_snoc] at h
    unfold valStep at h
    cases hh : numL l.reverse with
    | none => rw [hh] at h; simp at h
    | some m =>
      rw [hh] at h
      have := ih m hh
      simp only [Option.bind_some] at h
      split at h
      · simp only [Option.some.injEq] at h
        rw [List.length_cons, Nat.pow_succ]
        omega
      · simp at h
theorem numL_lt {l : List UInt8} {n : Nat} (h : numL l = some n) : n < 16 ^ l.length := by
  have := numL_lt_rev l.reverse n (by rw [List.reverse_reverse]; exact h)
  simpa using this
theorem rNumber4 {r : Rd} (h : r.ok) (hz : r.err = 0) : ((rNumber r 4).1 = ⟨r.s, r.pos + 8, 0⟩ ∧ (rNumber r 4).2 < 4294967296) ∨ (∃ e, (e == 0) = false ∧ rNumber r 4 = (⟨r.s, r.pos, e⟩, 0)) := by
  obtain ⟨h0, h1, h2⟩ := h
  unfold rNumber
  rw [if_pos hz, if_neg (by omega)]
  by_cases hc : (r.s.size : Int) - r.pos < 2 * 4
  · right
    rw [if_pos hc]
    exact ⟨4, rfl, rfl⟩
  · rw [if_neg hc]
    cases hh : numL (r.s.extract r.pos.toNat (r.pos + 2 * 4).toNat).data.toList with
    | none => right; exact ⟨6, rfl, rfl⟩
    | some n =>
      left
      refine ⟨rfl, ?_⟩
      have := numL_lt hh
      have hl : (r.s.extract r.pos.toNat (r.pos + 2 * 4).toNat).data.toList.length = 8 := by
        have : (r.s.extract r.pos.toNat (r.pos + 2 * 4).toNat).size = 8 := by
          rw [ByteArray.size_extract]
          omega
        exact this
      rw [hl] at this
      simpa using this
end Go.Proofs.Ytlefmnoaejpllaa
