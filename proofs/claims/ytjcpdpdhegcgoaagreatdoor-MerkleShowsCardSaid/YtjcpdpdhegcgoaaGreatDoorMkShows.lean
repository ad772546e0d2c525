/- Each chunk of a file is shown by its share, with just the digests beside its way up. -/
import Derived.Test.YtjcpdpdhegcgoaaGreatDoorMkShowAny
import Derived.Test.YtjcpdpdhegcgoaaGreatDoorMkShownUp
import Derived.Test.YtjcpdpdhegcgoaaGreatDoorMkForth
import Derived.Test.YtjcpdpdhegcgoaaGreatDoorMkFew
import Derived.Test.YtjcpdpdhegcgoaaGreatDoorMkManOk
import Derived.Test.YtjcpdpdhegcgoaaGreatDoorOpen
namespace Go.Proofs.YtjcpdpdhegcgoaaGreatDoor
open Go.RowKit
set_option linter.unusedVariables false
set_option linter.unusedSimpArgs false

/-- One operation that may come up comes up; its slot is told. -/
theorem wpAnyH_takeD {P : Program} {md : Region.Mode} {ops : Array Oper} {Q : Exit → Act → World → Prop} {S : World → Prop} {i : Nat} {oi : Oper} {d : Option Tmp} {v : Value} {fuel : Nat} {listed : Array Bool} {a : Act} {w : World} (hi : ops[i]? = some oi) (hd : oi.dst = d)
    (hs : Region.noSelect ops = true) (hf : Region.free md ops listed i = true) (hr : (Region.ready md ops listed).contains i = true)
    (hQ : ∀ c a w, Q (.panic c) (a.put oi.dst v) w → Q (.panic c) a w) (hy : YieldsIf P ops S oi v a) (hS : S w)
    (h : wpAnyH P md ops Q S fuel (listed.setIfInBounds i true) (a.put d v) w) : wpAnyH P md ops Q S (fuel + 1) listed a w := by
  subst hd
  exact wpAnyH_take hi hs hf hr hQ hy hS h

theorem few_mod_small {n : Int} (h0 : 0 ≤ n) (h1 : n ≤ 1500) : ∃ k : Nat, (wrap64 (n.tmod 8194 + 8194)).tmod 8194 = (k : Int) ∧ k ≤ 1500 := by
  have e1 : n.tmod 8194 = n := by
    rw [Int.tmod_eq_emod, if_pos (.inl h0)]
    omega
  have h2 : wrap64 (n.tmod 8194 + 8194) = n + 8194 := by rw [e1]; unfold wrap64; omega
  rw [h2]
  have h3 := Int.tmod_eq_emod (a := n + 8194) (b := 8194)
  rw [if_pos (.inl (by omega))] at h3
  exact ⟨n.toNat, by omega, by omega⟩
set_option maxRecDepth 100000 in
set_option maxHeartbeats 2000000 in
theorem mfew_small {s : ByteArray} {x0 : W64} {n : Int} (h0 : 0 ≤ n) (h1 : n ≤ 1500) (hs : s.size ≤ 140737488351232) {w : World} :
    Calls Tryz.prog 8 #[.string s, U x0, .int .i64 n] w fun e W => ∃ t : ByteArray, e = .returned (.string t) ∧ t.size ≤ 2000 ∧ New w W := by
  have T := Lib.hid fun n hn (w : World) => lawtext_any (x0 := x0) (n := n) hn (w := w)
  have hs' : (s.size : Int) ≤ 140737488351232 := by omega
  obtain ⟨k, hk, hk2⟩ := few_mod_small h0 h1
  clear h0 h1
  unfold U at T ⊢
  by_cases h5 : s.size ≤ 500
  · have h5' : ¬ (500 : Int) < (s.size : Int) := by omega
    go_enter Tryz.func8, Tryz.ntmps8
    go_wp2_with fail
    clear hk
    refine (T.out k (by omega) _).mono ?_
    rintro e w1 ⟨t, rfl, ht, n1⟩
    have ht' : (t.size : Int) ≤ 1500 := by omega
    have h8' : ¬ (8193 : Int) < (s.size : Int) + (t.size : Int) := by omega
    have HT := Lib.hid (show s.size + t.size ≤ 2000 by omega)
    clear ht
    go_wp2_with fail
    go_ret
    exact ⟨s ++ t, by simp, by rw [ByteArray.size_append]; have := HT.out; omega, n1⟩
  · have h5' : (500 : Int) < (s.size : Int) := by omega
    have hz : (s.extract 0 500).size = 500 := by simp; omega
    obtain ⟨v, hv⟩ : ∃ v, v = s.extract 0 500 := ⟨_, rfl⟩
    rw [← hv] at hz
    have HV := Lib.hid hv
    go_enter Tryz.func8, Tryz.ntmps8
    go_wp2_with fail
    clear hk
    refine (T.out k (by omega) _).mono ?_
    rintro e w1 ⟨t, rfl, ht, n1⟩
    have ht' : (t.size : Int) ≤ 1500 := by omega
    have hz' : (v.size : Int) = 500 := by omega
    have h8' : ¬ (8193 : Int) < 500 + (t.size : Int) := by omega
    have HT := Lib.hid (show 500 + t.size ≤ 2000 by omega)
    clear ht
    go_wp2_with fail
    go_ret
    exact ⟨s.extract 0 500 ++ t, by simp, by rw [ByteArray.size_append]; have := HT.out; simp; omega, n1⟩
theorem pathB_each : ∀ (m : Nat) (l : List ByteArray) (i : Nat), l.length ≤ m → (∀ x ∈ l, x.size = 32) → ∀ y ∈ pathB l i, y.size = 32
  | 0, l, i, h1, h3, y, hy => by
    rw [pathB_nil i (by omega)] at hy
    cases hy
  | m + 1, l, i, h1, h3, y, hy => by
    by_cases hn : l.length ≤ 1
    · rw [pathB_nil i hn] at hy
      cases hy
    · have hs := splitN_lt (n := l.length) (by omega)
      by_cases hi : i < splitN l.length
      · rw [pathB_left (by omega) hi] at hy
        rcases List.mem_append.1 hy with hy | hy
        · exact pathB_each m _ _ (by simp only [List.length_take]; omega) (fun x hx => h3 x (List.mem_of_mem_take hx)) y hy
        · rw [List.mem_singleton.1 hy]
          exact rootB_32 _ fun x hx => h3 x (List.mem_of_mem_drop hx)
      · rw [pathB_right (by omega) (by omega)] at hy
        rcases List.mem_append.1 hy with hy | hy
        · exact pathB_each m _ _ (by simp only [List.length_drop]; omega) (fun x hx => h3 x (List.mem_of_mem_drop hx)) y hy
        · rw [List.mem_singleton.1 hy]
          exact rootB_32 _ fun x hx => h3 x (List.mem_of_mem_take hx)
theorem chunksB_each {s : ByteArray} (hs : s.size ≤ 8192) : ∀ x ∈ chunksB cutB s, 1 ≤ x.size ∧ x.size ≤ 512 := by
  obtain ⟨n, hn⟩ : ∃ n, n = s.size := ⟨_, rfl⟩
  induction n using Nat.strongRecOn generalizing s with
  | _ n ih =>
    subst hn
    rcases Nat.eq_zero_or_pos s.size with h | h
    · rw [chunksB_nil _ h]
      intro x hx
      cases hx
    · have h1 := cutC.ok.pos s h hs
      have h2 := cutC.ok.le s hs
      have h3 := cutB_least s
      rw [chunksB_cons cutC.ok h hs]
      intro x hx
      have hz : (s.extract (cutB s) s.size).size = s.size - cutB s := by simp
      rcases List.mem_cons.1 hx with rfl | hx
      · have hz2 : (s.extract 0 (cutB s)).size = cutB s := by simp; omega
        omega
      · exact ih (s.extract (cutB s) s.size).size (by omega) (by omega) rfl x hx
abbrev zeroSh : Array Value := #[.string ⟨#[]⟩, .int .i64 0, .int .i64 0, .int .i64 0, .string ⟨#[]⟩, .slice none 0 0]
theorem fr_setRow' (W : World) (g : Nat) (cs : Array Value) : Fr (fun k => k = g) W (W.setRow g cs) := ⟨rfl, rfl, rfl, by simp [World.setRow], fun k _ hk => setRow_other W g k cs hk⟩
set_option maxRecDepth 100000 in
set_option maxHeartbeats 1000000 in
theorem show_none {s : ByteArray} (hs : s.size ≤ 8192) {at_ : Int} (hat : ¬ (0 ≤ at_ ∧ at_ < ((chunksB cutB s).length : Nat))) {w : World} :
    Calls Tryz.prog 10 #[.string s, .int .i64 at_] w fun e W => e = .returned (.tuple #[.agg zeroSh, .int .i64 2]) ∧ New w W := by
  have MO := Lib.hid fun (w : World) => mk_of cutC (by omega) hs (w := w)
  have hlm : ((chunksB cutB s).map digB).length = (chunksB cutB s).length := List.length_map _
  rw [← hlm] at hat
  obtain ⟨l, hl⟩ : ∃ l, l = (chunksB cutB s).map digB := ⟨_, rfl⟩
  rw [← hl] at MO hat
  clear hl hlm
  go_enter Tryz.func10, Tryz.ntmps10
  go_wp2_with fail
  have hA0 := Own.fresh w 27 zeroSh
  have hN0 : New w (w.alloc (.cells zeroSh 27)) := (Fr.refl _ _).alloc _
  refine (MO.out _).mono ?_
  rintro e W1 ⟨v, rfl, ht, hN1⟩
  replace hA0 := hA0.new_ hN1
  replace hN0 := hN0.new_ hN1
  obtain ⟨A, cap, rfl⟩ := ht.form
  obtain ⟨m, hm⟩ : ∃ m, m = l.length := ⟨_, rfl⟩
  rw [← hm] at hat ht ⊢
  have hAa := hA0.alloc (.cells #[.int .i64 s.size, .slice A m cap] 38)
  have hNa := hN0.alloc (.cells #[.int .i64 s.size, .slice A m cap] 38)
  have HA := Lib.hid hAa
  have HN := Lib.hid hNa
  clear hm hA0 hN0 hN1 ht MO hAa hNa
  by_cases h0 : 0 ≤ at_
  · have h0' : ¬ at_ < 0 := by omega
    have h1' : (m : Int) ≤ at_ := by omega
    clear hat h0
    go_wp2_with (refine wpList_store_row rfl _ (.tmp 4) (.tmp 26) rfl w.heap.size zeroSh ?hx ?hy _ _ HA.out ?hi rfl ?h1 ?_)
    case hx => rfl
    case hy => rfl
    case hi => kernel_rfl
    case h1 => simp [Value.oneCell']
    have o7 : Own (World.setRow _ w.heap.size zeroSh) w.heap.size 27 zeroSh := setRow_heap _ _ _ _ _ _ HA.out
    have n7 := HN.out.trans (fr_setRow' _ w.heap.size zeroSh) (fun k hk e => by omega)
    generalize World.setRow _ _ _ = W7 at o7 n7 ⊢
    obtain ⟨⟨x0, x1, x2, x3, x4, x5⟩, -⟩ := own6s (show Own W7 w.heap.size 27 zeroSh from o7)
    clear o7
    have O7 := Lib.hid n7
    exact bodyPost_ret (v := .tuple #[.agg zeroSh, .int .i64 2]) (by simp [results, Tryz.results10, go_sem, *]) rfl ⟨rfl, O7.out⟩
  · have h0' : at_ < 0 := by omega
    clear hat h0
    go_wp2_with (refine wpList_store_row rfl _ (.tmp 4) (.tmp 26) rfl w.heap.size zeroSh ?hx ?hy _ _ HA.out ?hi rfl ?h1 ?_)
    case hx => rfl
    case hy => rfl
    case hi => kernel_rfl
    case h1 => simp [Value.oneCell']
    have o7 : Own (World.setRow _ w.heap.size zeroSh) w.heap.size 27 zeroSh := setRow_heap _ _ _ _ _ _ HA.out
    have n7 := HN.out.trans (fr_setRow' _ w.heap.size zeroSh) (fun k hk e => by omega)
    generalize World.setRow _ _ _ = W7 at o7 n7 ⊢
    obtain ⟨⟨x0, x1, x2, x3, x4, x5⟩, -⟩ := own6s (show Own W7 w.heap.size 27 zeroSh from o7)
    clear o7
    have O7 := Lib.hid n7
    exact bodyPost_ret (v := .tuple #[.agg zeroSh, .int .i64 2]) (by simp [results, Tryz.results10, go_sem, *]) rfl ⟨rfl, O7.out⟩
/-- What a walk keeps: a share in block x, three rows of texts. -/
structure ShK (w W : World) (x : Nat) (cs : Array Value) (va vb vd : Value) (l pl dl : List ByteArray) : Prop where
  o : Own W x 27 cs
  n : New w W
  a : TxL W 0 va l
  b : TxL W 0 vb pl
  d : TxL W 0 vd dl
theorem ShK.new_ {w W W' : World} {x : Nat} {cs : Array Value} {va vb vd : Value} {l pl dl : List ByteArray} (h : ShK w W x cs va vb vd l pl dl) (f : New W W') : ShK w W' x cs va vb vd l pl dl :=
  ⟨h.o.new_ f, h.n.new_ f, h.a.new_ f, h.b.new_ f, h.d.new_ f⟩
/-- The same, of a change from block N on, where all of it lies ahead of N. -/
theorem ShK.fr {w V W W' : World} {x : Nat} {cs : Array Value} {va vb vd : Value} {l pl dl : List ByteArray} (h : ShK w W x cs va vb vd l pl dl) (h0 : ShK w V x cs va vb vd l pl dl) (f : Fr (fun k => V.heap.size ≤ k) W W') : ShK w W' x cs va vb vd l pl dl := by
  have h1 := h0.o.lt
  have h2 := h0.n.size
  refine ⟨h.o.fr f (by omega), h.n.trans f fun k hk e => by omega, h.a.fr f ?_, h.b.fr f ?_, h.d.fr f ?_⟩
  · intro k hk e
    have := (h0.a.base hk).2
    omega
  · intro k hk e
    have := (h0.b.base hk).2
    omega
  · intro k hk e
    have := (h0.d.base hk).2
    omega
/-- What the last lines keep: besides, another share in block by_, its row, a reader at the end of its bytes. -/
structure ShTwo (w W : World) (bx by_ br : Nat) (cs ys : Array Value) (va vb vd vy : Value) (l pl dl : List ByteArray) (TT : ByteArray) (B1 : Nat) : Prop where
  k : ShK w W bx cs va vb vd l pl dl
  y : Own W by_ 27 ys
  ty : TxL W B1 vy pl
  r : OwnR W br ⟨TT, TT.size, 0⟩
  b1 : br < B1
  b2 : by_ ≠ br
theorem ShTwo.new_ {w W W' : World} {bx by_ br : Nat} {cs ys : Array Value} {va vb vd vy : Value} {l pl dl : List ByteArray} {TT : ByteArray} {B1 : Nat} (h : ShTwo w W bx by_ br cs ys va vb vd vy l pl dl TT B1) (f : New W W') : ShTwo w W' bx by_ br cs ys va vb vd vy l pl dl TT B1 :=
  ⟨h.k.new_ f, h.y.new_ f, h.ty.new_ f, Own.new_ h.r f, h.b1, h.b2⟩
theorem ShTwo.read {w V W W' : World} {bx by_ br : Nat} {cs ys : Array Value} {va vb vd vy : Value} {l pl dl : List ByteArray} {TT : ByteArray} {B1 : Nat} (h : ShTwo w W bx by_ br cs ys va vb vd vy l pl dl TT B1) (h0 : ShK w V bx cs va vb vd l pl dl) (hv : V.heap.size ≤ br)
    (q : OwnR W' br ⟨TT, TT.size, 0⟩) (f : Fr (fun k => k = br) W W') : ShTwo w W' bx by_ br cs ys va vb vd vy l pl dl TT B1 :=
  ⟨h.k.fr h0 (f.mono fun k e => by have e : k = br := e; omega), h.y.fr f (fun e => h.b2 e), h.ty.fr f (fun k hk e => by have e : k = br := e; have h1 := (h.ty.base hk).1; have h2 := h.b1; omega), q, h.b1, h.b2⟩
theorem ShTwo.at_ {w W : World} {bx by_ br : Nat} {cs ys : Array Value} {bA m cap : Nat} {vb vd vy : Value} {l pl dl : List ByteArray} {TT : ByteArray} {B1 : Nat} (h : ShTwo w W bx by_ br cs ys (.slice (some ⟨bA, 0, none⟩) m cap) vb vd vy l pl dl TT B1) {a : Nat} {ch : ByteArray} (hm : m = l.length) (hl : l.length ≤ maxLen) (hch : ch = l.getD a .empty) (ha : a < m) :
    W.cell? ⟨bA, a, none⟩ = some (.string ch) := by
  obtain ⟨b, o, e, hc⟩ := (SlT.of_txl h.k.a hl).2.2 a ha
  cases e
  have := hc 0 _ rfl
  rw [hch]
  simpa using this
theorem u64_tmod (x : W64) : ∃ k : Nat, (x.toNat : Int).tmod 1500 = (k : Int) ∧ k ≤ 1500 := by
  refine ⟨x.toNat % 1500, ?_, by omega⟩
  rw [Int.tmod_eq_emod, if_pos (.inl (by omega))]
  omega
set_option maxRecDepth 1000000 in
set_option maxHeartbeats 64000000 in
theorem merkleShows_core {w : World} {s : ByteArray} {x0 : W64} {at_ : Int} (hat0 : (Lit.int .i64 at_).wf = true) (hs : s.size ≤ 140737488351232) :
    Calls Tryz.prog 5 #[.string s, U x0, .int .i64 at_] w fun e W => e = .returned (.bool true) ∧ New w W := by
  obtain ⟨k, hk, hk2⟩ := u64_tmod x0
  have hx0 := blt x0
  have F := Lib.hid (mfew_small (x0 := x0) (n := k) (by omega) (by omega) hs (w := w))
  have hki : (k : Int) ≤ 1500 := by omega
  go_enter Tryz.func5, Tryz.ntmps5
  unfold U at F ⊢
  go_wp2_with fail
  refine F.out.mono ?_
  rintro e W1 ⟨t, rfl, ht, n1⟩
  clear hk hk2 hki F
  have h8 : t.size ≤ 8192 := by omega
  have h8' : ¬ (8192 : Int) < (t.size : Int) := by omega
  have hcnt := chunksB_count h8
  have hcl := chunksB_each h8
  have RL := Lib.hid fun (w : World) => ref_list h8 (w := w)
  have RO := Lib.hid fun (w : World) => ref_of h8 (w := w)
  have SI := Lib.hid fun (a : Nat) (ha : a < (chunksB cutB t).length) (w : World) => show_in h8 ha (w := w)
  have SN := Lib.hid fun (ha : ¬ (0 ≤ at_ ∧ at_ < ((chunksB cutB t).length : Nat))) (w : World) => show_none h8 ha (w := w)
  have hdl : ∀ x ∈ (chunksB cutB t).map digB, x.size = 32 := fun x hx => by
    obtain ⟨y, _, rfl⟩ := List.mem_map.1 hx
    exact digB_size y
  obtain ⟨l, hl⟩ : ∃ l, l = chunksB cutB t := ⟨_, rfl⟩
  rw [← hl] at RL RO SI SN hcnt hcl hdl
  have HL := Lib.hid (And.intro hcnt (And.intro hcl hdl))
  clear hcnt hcl hdl hl
  go_wp2_with fail
  refine (RL.out _).mono ?_
  rintro e W2 ⟨v, rfl, t2, n2⟩
  obtain ⟨A, cap, rfl⟩ := t2.form
  have hc := t2.cap
  have hsl := SlT.of_txl t2 (by have := HL.out.1.1; simp [maxLen]; omega)
  have H2 := Lib.hid (And.intro (n1.new_ n2) (And.intro hsl (t2.mono (Nat.zero_le _))))
  clear n1 n2 t2 hsl
  obtain ⟨m, hm⟩ : ∃ m, m = l.length := ⟨_, rfl⟩
  rw [← hm] at hc H2 SI SN ⊢
  have hm1 : (m : Int) ≤ 255 := by have := HL.out.1.1; omega
  have hmc : (m : Int) ≤ (cap : Int) := by omega
  have HM := Lib.hid hm
  clear hm
  by_cases hat : 0 ≤ at_ ∧ at_ < (m : Nat)
  · obtain ⟨a, rfl⟩ := Int.eq_ofNat_of_zero_le hat.1
    have ha : a < m := by omega
    have ha' : (a : Int) < (m : Int) := by omega
    have ha0 : ¬ (a : Int) < 0 := by omega
    have SA := Lib.hid fun (w : World) => SI.out a ha w
    have hpe := pathB_each _ _ a (Nat.le_refl _) HL.out.2.2
    have hpl := pathB_length (l.map digB) a
    rw [List.length_map, ← HM.out] at hpl
    have hup := up_path _ (l.map digB) a (Nat.le_refl _) (by rw [List.length_map, ← HM.out]; exact ha) HL.out.2.2
    have hch : (l.map digB).getD a .empty = digB (l.getD a .empty) := by
      simp only [List.getD, List.getElem?_map]
      rw [List.getElem?_eq_getElem (by rw [← HM.out]; exact ha)]
      rfl
    have hce := HL.out.2.1 (l.getD a .empty) (by
      rw [List.getD_eq_getElem?_getD, List.getElem?_eq_getElem (by rw [← HM.out]; exact ha)]
      exact List.getElem_mem _)
    rw [hch, List.length_map, ← HM.out] at hup
    have RP := Lib.hid fun (A : Option Addr) (n cap : Nat) (w : World) h1 h2 h3 h4 => ref_path n A n cap (l.map digB) a w (Nat.le_refl _) h1 h2 h3 h4 (by omega) (fun x hx => by have := HL.out.2.2 x hx; omega)
    have RF := Lib.hid fun (A : Option Addr) (n cap : Nat) (w : World) h1 h2 h3 h4 => ref_file (z := t.size) (l := l.map digB) (A := A) (n := n) (cap := cap) (w := w) (by omega) h1 h2 h3 h4 (fun x hx => by have := HL.out.2.2 x hx; omega)
    obtain ⟨dl, hdl⟩ : ∃ dl, dl = l.map digB := ⟨_, rfl⟩
    have hdm : m = dl.length := by rw [hdl, List.length_map, ← HM.out]
    rw [← hdl] at SA hpe hpl hup RP RF RO
    obtain ⟨pl, hpl0⟩ : ∃ pl, pl = pathB dl a := ⟨_, rfl⟩
    rw [← hpl0] at SA hpe hpl hup RP
    obtain ⟨ch, hch0⟩ : ∃ ch, ch = l.getD a .empty := ⟨_, rfl⟩
    rw [← hch0] at SA hup hce
    obtain ⟨fb, hfb⟩ : ∃ fb, fb = fileB t.size m (rootB dl) := ⟨_, rfl⟩
    have hfz : fb.size = 32 := by rw [hfb]; exact shaB_size _
    have SA' := SA.out
    rw [← hfb] at SA'
    have SB := Lib.hid SA'
    have HF := Lib.hid hfb
    have HP := Lib.hid (And.intro hpe (And.intro hpl (And.intro hup (And.intro hce (And.intro hdm (And.intro hfz hch0))))))
    clear hpe hpl hup hce hch hdl hdm hpl0 hch0 hfb hfz SA SA' SI SN hat
    go_wp2_with fail
    refine (SB.out _).mono ?_
    rintro e W3 ⟨v3, rfl, t3, n3⟩
    obtain ⟨B, cap3, rfl⟩ := t3.form
    have hc3 := t3.cap
    obtain ⟨q, hq⟩ : ∃ q, q = pl.length := ⟨_, rfl⟩
    rw [← hq] at t3 hc3 ⊢
    have hq3 : (q : Int) ≤ (cap3 : Int) := by omega
    have hqm : (q : Int) ≤ 255 := by have := HP.out.2.1; omega
    have HQ := Lib.hid hq
    have HK := Lib.hid (ShK.mk (Own.fresh W3 27 #[.string fb, .int .i64 t.size, .int .i64 m, .int .i64 a, .string ch, .slice B q cap3]) ((H2.out.1.new_ n3).alloc _) ((H2.out.2.2.new_ n3).new_ ((Fr.refl _ W3).alloc _)) ((t3.mono (Nat.zero_le _)).new_ ((Fr.refl _ W3).alloc _)) (TxL.nil _ 0))
    clear hq n3 t3 H2
    go_wp2_with fail
    refine merkle_awake.mono ?_
    rintro e W4 ⟨rfl, n4⟩
    have K4 := Lib.hid (HK.out.new_ n4)
    clear n4 HK
    have h9 : ¬ (8192 : Int) < (t.size : Int) := by omega
    have h10 : ¬ (a : Int) < 0 := by omega
    have h11 : ¬ (m : Int) ≤ (a : Int) := by omega
    go_simp
    go_wp2_with fail
    refine (RO.out _).mono ?_
    rintro e W5 ⟨vd, rfl, t5, n5⟩
    obtain ⟨Dd, capd, rfl⟩ := t5.form
    have hcd := t5.cap
    rw [← HP.out.2.2.2.2.1] at t5 hcd ⊢
    have K5 := Lib.hid (ShK.mk (K4.out.o.new_ n5) (K4.out.n.new_ n5) (K4.out.a.new_ n5) (K4.out.b.new_ n5) (t5.mono (Nat.zero_le _)))
    clear n5 t5 K4 h9 h10 h11
    go_simp
    go_wp2_with fail
    refine (newWriterF W5).mono ?_
    rintro e W6 ⟨rfl, h6, g6⟩
    have K6 := Lib.hid (K5.out.new_ g6)
    have B6 := Lib.hid g6.size
    have hw6 := Lib.hid h6
    clear g6 h6
    obtain ⟨⟨x0, x1, x2, x3, x4, x5⟩, -⟩ := own6s K6.out.o
    go_simp
    go_wp2_with fail
    refine (put_share hw6.out (by decide) fb ch t.size m a pl B q cap3 (by have := HP.out.2.2.2.2.2.1; omega) (by have := HP.out.2.2.2.1; omega) (by omega) (by omega) (by omega) (SlT.of_txl K6.out.b (by rw [← HQ.out]; simp [maxLen]; omega)) (by omega) hc3.1 (fun y hy => by have := HP.out.1 y hy; omega) (fun ad e => by
      subst e
      have h1 := (K5.out.b.base (k := ad.block) rfl).2
      have h2 := (K6.out.b.base (k := ad.block) rfl).2
      exact ⟨by omega, h2⟩)).mono ?_
    rintro e W7 ⟨rfl, h7, f7⟩
    have K7 := Lib.hid (K6.out.fr K5.out f7)
    have B7 := Lib.hid f7.size
    have HS : ShFit ⟨fb, (t.size : Int), (m : Int), (a : Int), ch, pl⟩ := ⟨HP.out.2.2.2.2.2.1, ⟨by simp only; omega, by simp only; omega⟩, ⟨by simp only; omega, by simp only; omega⟩, ⟨by simp only; omega, by simp only; omega⟩, by simp only; have := HP.out.2.2.2.1; omega, by simp only; rw [← HQ.out]; omega, HP.out.1⟩
    obtain ⟨TT, hTT⟩ : ∃ TT, TT = shareB ⟨fb, (t.size : Int), (m : Int), (a : Int), ch, pl⟩ := ⟨_, rfl⟩
    have hfo := share_forth HS
    rw [← hTT] at hfo
    have hzT : TT.size ≤ 100000 := by
      have h1 := HP.out.2.2.2.1
      have h2 := HQ.out
      rw [hTT]
      unfold shareB textB
      simp only [ByteArray.size_append, numB_size, hashB_size, hashsB_size]
      omega
    have g7 := Lib.hid (h7.cast (show _ = TT by
      rw [hTT]
      unfold shareB
      simp only [Int.toNat_natCast, bempty_app]
      rw [← HQ.out]))
    have HFO := Lib.hid hfo
    clear x0 x1 x2 x3 x4 x5 f7 K6 h7 hTT hfo HS hw6
    go_simp
    go_wp2_with fail
    refine (allF g7.out.reads).mono ?_
    rintro e W8 ⟨rfl, h8r, f8⟩
    have K8 := Lib.hid (K7.out.fr K5.out f8)
    have B8 := Lib.hid f8.size
    clear K7 h8r f8 g7
    go_simp
    go_wp2_with fail
    refine (newReader_any TT W8).mono ?_
    rintro e W9 ⟨rfl, hW9⟩
    have K9 := Lib.hid (K8.out.new_ (show New W8 W9 by rw [hW9]; exact (Fr.refl _ _).alloc _))
    have Q9 : OwnR W9 W8.heap.size ⟨TT, 0, 0⟩ := by rw [hW9]; exact OwnR.fresh _ _
    have SA := share_any Q9 (show Rd.ok ⟨TT, 0, 0⟩ from ⟨by simp only; omega, Int.le_refl _, by simp only; omega⟩)
    unfold SharePost at SA
    rw [HFO.out] at SA
    have HSA := Lib.hid SA
    have hb8 := Lib.hid (show W5.heap.size ≤ W8.heap.size by have h1 := B6.out; have h2 := B7.out; have h3 := B8.out; omega)
    have HB9 := Lib.hid (show W8.heap.size < W9.heap.size by rw [hW9]; simp)
    clear SA Q9 hW9 K8
    go_simp
    go_wp2_with fail
    refine HSA.out.mono ?_
    rintro e W10 ⟨vy, rfl, ty, q10, f10⟩
    obtain ⟨Y, capy, rfl⟩ := ty.form
    have hcy := ty.cap
    rw [← HQ.out] at ty hcy ⊢
    have hqy : (q : Int) ≤ (capy : Int) := by omega
    have K10 := Lib.hid (K9.out.fr K5.out (f10.mono fun k e => by have e : k = W8.heap.size := e; have := hb8.out; omega))
    have HY := Lib.hid (And.intro ty q10)
    have HB9' := Lib.hid (And.intro HB9.out f10.size)
    clear HB9
    have HB9 := HB9'
    clear HB9'
    clear ty q10 f10 K9 HSA B6 B7 B8
    obtain ⟨⟨x0, x1, x2, x3, x4, x5⟩, -⟩ := own6s K10.out.o
    have hlt := K10.out.o.lt
    go_simp
    go_wp2_with fail
    clear x0 x1 x2 x3 x4 x5 hlt
    obtain ⟨bA, hbA⟩ : ∃ bA, A = some ⟨bA, 0, none⟩ := by
      rcases K10.out.a.2 with ⟨e, h0⟩ | ⟨g, cap', cur, e, _⟩
      · have := HM.out
        omega
      · injection e with e1
        exact ⟨g, e1⟩
    subst hbA
    have HV := Lib.hid (show 1 ≤ m ∧ m ≤ 256 ∧ a < m ∧ m ≤ t.size ∧ t.size ≤ 512 * m ∧ t.size ≤ 8192 ∧ 1 ≤ ch.size ∧ ch.size ≤ 512 ∧ upB (digB ch) a m pl = some (rootB dl) by
      have h1 := HL.out.1
      have h2 := HP.out.2.2.2.1
      rw [← HM.out] at h1
      exact ⟨by omega, by omega, ha, by omega, h1.2.1, h8, h2.1, h2.2, HP.out.2.2.1⟩)
    have HDM := Lib.hid (show dl.length ≤ maxLen by rw [← HP.out.2.2.2.2.1]; simp [maxLen]; omega)
    have HPM := Lib.hid (show pl.length ≤ maxLen by rw [← HQ.out]; simp [maxLen]; omega)
    have HLM := Lib.hid (show l.length ≤ maxLen by rw [← HM.out]; simp [maxLen]; omega)
    have HCH := Lib.hid HP.out.2.2.2.2.2.2
    have HOK := Lib.hid (show Rd.ok ⟨TT, (TT.size : Int), 0⟩ from ⟨by simp only; omega, by simp only; omega, by simp only; omega⟩)
    have HRE := Lib.hid (show rEnd ⟨TT, (TT.size : Int), 0⟩ = ⟨TT, (TT.size : Int), 0⟩ from by
      unfold rEnd
      rw [if_neg]
      rintro ⟨_, h⟩
      simp only at h
      omega)
    have nA : New W10 (W10.alloc (.cells #[.string fb, .int .i64 t.size, .int .i64 m, .int .i64 a, .string ch, .slice Y q capy] 27)) := (Fr.refl _ _).alloc _
    have S0 : ShTwo w (W10.alloc (.cells #[.string fb, .int .i64 t.size, .int .i64 m, .int .i64 a, .string ch, .slice Y q capy] 27)) W3.heap.size W10.heap.size W8.heap.size #[.string fb, .int .i64 t.size, .int .i64 m, .int .i64 a, .string ch, .slice B q cap3] #[.string fb, .int .i64 t.size, .int .i64 m, .int .i64 a, .string ch, .slice Y q capy] (.slice (some ⟨bA, 0, none⟩) m cap) (.slice B q cap3) (.slice Dd m capd) (.slice Y q capy) l pl dl TT W9.heap.size :=
      ⟨K10.out.new_ nA, Own.fresh W10 _ _, HY.out.1.new_ nA, Own.new_ HY.out.2 nA, HB9.out.1, by have := HB9.out.1; have := HB9.out.2; omega⟩
    clear nA
    obtain ⟨W11, hW11⟩ : ∃ W11, W11 = W10.alloc (.cells #[.string fb, .int .i64 t.size, .int .i64 m, .int .i64 a, .string ch, .slice Y q capy] 27) := ⟨_, rfl⟩
    obtain ⟨bx, hbx⟩ : ∃ bx, bx = W3.heap.size := ⟨_, rfl⟩
    obtain ⟨by_, hby⟩ : ∃ by_, by_ = W10.heap.size := ⟨_, rfl⟩
    obtain ⟨br, hbr⟩ : ∃ br, br = W8.heap.size := ⟨_, rfl⟩
    rw [← hW11, ← hbx, ← hby, ← hbr] at S0
    rw [← hW11, ← hbx, ← hby, ← hbr]
    rw [← hbx] at K5
    rw [← hbr] at hb8
    clear hW11 hbx hby hbr K10 HY HB9
    have hS0 := S0.new_ (show New W11 W11.drew from (Fr.refl _ _).drew)
    clear S0
    refine wp_region_heldE (fun W => ShTwo w W bx by_ br #[.string fb, .int .i64 t.size, .int .i64 m, .int .i64 a, .string ch, .slice B q cap3] #[.string fb, .int .i64 t.size, .int .i64 m, .int .i64 a, .string ch, .slice Y q capy] (.slice (some ⟨bA, 0, none⟩) m cap) (.slice B q cap3) (.slice Dd m capd) (.slice Y q capy) l pl dl TT W9.heap.size) (by kernel_rfl) ?_
    -- REGION
    refine wpAnyH_takeD (i := 0) (d := some 62) (v := .int .i64 0) rfl rfl (by kernel_rfl) (by kernel_rfl) (by kernel_rfl) (fun _ _ _ h => h) (.inl ⟨by kernel_rfl, fun w' hS => ?t0⟩) hS0 ?_
    case t0 =>
      go_simp
    refine wpAnyH_takeD (i := 1) (d := some 63) (v := .bool true) rfl rfl (by kernel_rfl) (by kernel_rfl) (by kernel_rfl) (fun _ _ _ h => h) (.inl ⟨by kernel_rfl, fun w' hS => ?t1⟩) hS0 ?_
    case t1 =>
      go_simp
    refine wpAnyH_takeD (i := 2) (d := some 64) (v := .bool true) rfl rfl (by kernel_rfl) (by kernel_rfl) (by kernel_rfl) (fun _ _ _ h => h) (.inl ⟨by kernel_rfl, fun w' hS => ?t2⟩) hS0 ?_
    case t2 =>
      go_simp
    refine wpAnyH_takeD (i := 3) (d := some 65) (v := .pointer (some ⟨bx, 0, none⟩)) rfl rfl (by kernel_rfl) (by kernel_rfl) (by kernel_rfl) (fun _ _ _ h => h) (.inl ⟨by kernel_rfl, fun w' hS => ?t3⟩) hS0 ?_
    case t3 =>
      go_simp
    refine wpAnyH_takeD (i := 4) (d := some 66) (v := .string fb) rfl rfl (by kernel_rfl) (by kernel_rfl) (by kernel_rfl) (fun _ _ _ h => h) (.inl ⟨by kernel_rfl, fun w' hS => ?t4⟩) hS0 ?_
    case t4 =>
      obtain ⟨⟨x0, x1, x2, x3, x4, x5⟩, -⟩ := own6s hS.k.o
      go_simp
    refine wpAnyH_takeD (i := 5) (d := some 67) (v := .string t) rfl rfl (by kernel_rfl) (by kernel_rfl) (by kernel_rfl) (fun _ _ _ h => h) (.inl ⟨by kernel_rfl, fun w' hS => ?t5⟩) hS0 ?_
    case t5 =>
      go_simp
    refine wpAnyH_takeD (i := 6) (d := some 68) (v := .int .i64 t.size) rfl rfl (by kernel_rfl) (by kernel_rfl) (by kernel_rfl) (fun _ _ _ h => h) (.inl ⟨by kernel_rfl, fun w' hS => ?t6⟩) hS0 ?_
    case t6 =>
      go_simp
    refine wpAnyH_takeD (i := 7) (d := some 69) (v := .slice Dd m capd) rfl rfl (by kernel_rfl) (by kernel_rfl) (by kernel_rfl) (fun _ _ _ h => h) (.inl ⟨by kernel_rfl, fun w' hS => ?t7⟩) hS0 ?_
    case t7 =>
      go_simp
    try simp only [Act.put, List.setIfInBounds_toArray, List.set_cons_zero, List.set_cons_succ]
    refine wpAnyH_all (rs := [8]) (by kernel_rfl) (by simp) (fun j hj => ?_)
    rw [List.mem_singleton] at hj
    subst hj
    refine wpOp_step rfl (fun K hK => ?_)
    go_simp
    refine (RF.out Dd m capd _ (SlT.of_txl hS0.k.d HDM.out) hcd.1 hcd.2 (by omega)).mono ?_
    rintro e W' ⟨rfl, n'⟩
    rw [← HF.out]
    replace hS0 := hS0.new_ n'
    clear n'
    refine hK _ _ ⟨hS0, ?_⟩
    clear hK K
    try simp only [List.getElem_toArray, List.getElem_cons_succ, List.getElem_cons_zero]
    refine wpAnyH_takeD (i := 9) (d := some 71) (v := .bool true) rfl rfl (by kernel_rfl) (by kernel_rfl) (by kernel_rfl) (fun _ _ _ h => h) (.inl ⟨by kernel_rfl, fun w' hS => ?t9⟩) hS0 ?_
    case t9 =>
      go_simp
    refine wpAnyH_takeD (i := 10) (d := some 72) (v := .bool true) rfl rfl (by kernel_rfl) (by kernel_rfl) (by kernel_rfl) (fun _ _ _ h => h) (.inl ⟨by kernel_rfl, fun w' hS => ?t10⟩) hS0 ?_
    case t10 =>
      go_simp
    refine wpAnyH_takeD (i := 11) (d := some 73) (v := .bool true) rfl rfl (by kernel_rfl) (by kernel_rfl) (by kernel_rfl) (fun _ _ _ h => h) (.inl ⟨by kernel_rfl, fun w' hS => ?t11⟩) hS0 ?_
    case t11 =>
      go_simp
    refine wpAnyH_takeD (i := 12) (d := some 74) (v := .pointer (some ⟨bx, 1, none⟩)) rfl rfl (by kernel_rfl) (by kernel_rfl) (by kernel_rfl) (fun _ _ _ h => h) (.inl ⟨by kernel_rfl, fun w' hS => ?t12⟩) hS0 ?_
    case t12 =>
      go_simp
    refine wpAnyH_takeD (i := 13) (d := some 75) (v := .int .i64 t.size) rfl rfl (by kernel_rfl) (by kernel_rfl) (by kernel_rfl) (fun _ _ _ h => h) (.inl ⟨by kernel_rfl, fun w' hS => ?t13⟩) hS0 ?_
    case t13 =>
      obtain ⟨⟨x0, x1, x2, x3, x4, x5⟩, -⟩ := own6s hS.k.o
      go_simp
    refine wpAnyH_takeD (i := 14) (d := some 76) (v := .string t) rfl rfl (by kernel_rfl) (by kernel_rfl) (by kernel_rfl) (fun _ _ _ h => h) (.inl ⟨by kernel_rfl, fun w' hS => ?t14⟩) hS0 ?_
    case t14 =>
      go_simp
    refine wpAnyH_takeD (i := 15) (d := some 77) (v := .int .i64 t.size) rfl rfl (by kernel_rfl) (by kernel_rfl) (by kernel_rfl) (fun _ _ _ h => h) (.inl ⟨by kernel_rfl, fun w' hS => ?t15⟩) hS0 ?_
    case t15 =>
      go_simp
    refine wpAnyH_takeD (i := 16) (d := some 78) (v := .bool true) rfl rfl (by kernel_rfl) (by kernel_rfl) (by kernel_rfl) (fun _ _ _ h => h) (.inl ⟨by kernel_rfl, fun w' hS => ?t16⟩) hS0 ?_
    case t16 =>
      go_simp
    refine wpAnyH_takeD (i := 17) (d := some 79) (v := .bool true) rfl rfl (by kernel_rfl) (by kernel_rfl) (by kernel_rfl) (fun _ _ _ h => h) (.inl ⟨by kernel_rfl, fun w' hS => ?t17⟩) hS0 ?_
    case t17 =>
      go_simp
    refine wpAnyH_takeD (i := 18) (d := some 80) (v := .bool true) rfl rfl (by kernel_rfl) (by kernel_rfl) (by kernel_rfl) (fun _ _ _ h => h) (.inl ⟨by kernel_rfl, fun w' hS => ?t18⟩) hS0 ?_
    case t18 =>
      go_simp
    refine wpAnyH_takeD (i := 19) (d := some 81) (v := .pointer (some ⟨bx, 2, none⟩)) rfl rfl (by kernel_rfl) (by kernel_rfl) (by kernel_rfl) (fun _ _ _ h => h) (.inl ⟨by kernel_rfl, fun w' hS => ?t19⟩) hS0 ?_
    case t19 =>
      go_simp
    refine wpAnyH_takeD (i := 20) (d := some 82) (v := .int .i64 m) rfl rfl (by kernel_rfl) (by kernel_rfl) (by kernel_rfl) (fun _ _ _ h => h) (.inl ⟨by kernel_rfl, fun w' hS => ?t20⟩) hS0 ?_
    case t20 =>
      obtain ⟨⟨x0, x1, x2, x3, x4, x5⟩, -⟩ := own6s hS.k.o
      go_simp
    refine wpAnyH_takeD (i := 21) (d := some 83) (v := .slice (some ⟨bA, 0, none⟩) m cap) rfl rfl (by kernel_rfl) (by kernel_rfl) (by kernel_rfl) (fun _ _ _ h => h) (.inl ⟨by kernel_rfl, fun w' hS => ?t21⟩) hS0 ?_
    case t21 =>
      go_simp
    refine wpAnyH_takeD (i := 22) (d := some 84) (v := .int .i64 m) rfl rfl (by kernel_rfl) (by kernel_rfl) (by kernel_rfl) (fun _ _ _ h => h) (.inl ⟨by kernel_rfl, fun w' hS => ?t22⟩) hS0 ?_
    case t22 =>
      go_simp
    refine wpAnyH_takeD (i := 23) (d := some 85) (v := .bool true) rfl rfl (by kernel_rfl) (by kernel_rfl) (by kernel_rfl) (fun _ _ _ h => h) (.inl ⟨by kernel_rfl, fun w' hS => ?t23⟩) hS0 ?_
    case t23 =>
      go_simp
    refine wpAnyH_takeD (i := 24) (d := some 86) (v := .bool true) rfl rfl (by kernel_rfl) (by kernel_rfl) (by kernel_rfl) (fun _ _ _ h => h) (.inl ⟨by kernel_rfl, fun w' hS => ?t24⟩) hS0 ?_
    case t24 =>
      go_simp
    refine wpAnyH_takeD (i := 25) (d := some 87) (v := .bool true) rfl rfl (by kernel_rfl) (by kernel_rfl) (by kernel_rfl) (fun _ _ _ h => h) (.inl ⟨by kernel_rfl, fun w' hS => ?t25⟩) hS0 ?_
    case t25 =>
      go_simp
    refine wpAnyH_takeD (i := 26) (d := some 88) (v := .pointer (some ⟨bx, 3, none⟩)) rfl rfl (by kernel_rfl) (by kernel_rfl) (by kernel_rfl) (fun _ _ _ h => h) (.inl ⟨by kernel_rfl, fun w' hS => ?t26⟩) hS0 ?_
    case t26 =>
      go_simp
    refine wpAnyH_takeD (i := 27) (d := some 89) (v := .int .i64 a) rfl rfl (by kernel_rfl) (by kernel_rfl) (by kernel_rfl) (fun _ _ _ h => h) (.inl ⟨by kernel_rfl, fun w' hS => ?t27⟩) hS0 ?_
    case t27 =>
      obtain ⟨⟨x0, x1, x2, x3, x4, x5⟩, -⟩ := own6s hS.k.o
      go_simp
    refine wpAnyH_takeD (i := 28) (d := some 90) (v := .int .i64 a) rfl rfl (by kernel_rfl) (by kernel_rfl) (by kernel_rfl) (fun _ _ _ h => h) (.inl ⟨by kernel_rfl, fun w' hS => ?t28⟩) hS0 ?_
    case t28 =>
      go_simp
    refine wpAnyH_takeD (i := 29) (d := some 91) (v := .bool true) rfl rfl (by kernel_rfl) (by kernel_rfl) (by kernel_rfl) (fun _ _ _ h => h) (.inl ⟨by kernel_rfl, fun w' hS => ?t29⟩) hS0 ?_
    case t29 =>
      go_simp
    refine wpAnyH_takeD (i := 30) (d := some 92) (v := .bool true) rfl rfl (by kernel_rfl) (by kernel_rfl) (by kernel_rfl) (fun _ _ _ h => h) (.inl ⟨by kernel_rfl, fun w' hS => ?t30⟩) hS0 ?_
    case t30 =>
      go_simp
    refine wpAnyH_takeD (i := 31) (d := some 93) (v := .bool true) rfl rfl (by kernel_rfl) (by kernel_rfl) (by kernel_rfl) (fun _ _ _ h => h) (.inl ⟨by kernel_rfl, fun w' hS => ?t31⟩) hS0 ?_
    case t31 =>
      go_simp
    refine wpAnyH_takeD (i := 32) (d := some 94) (v := .pointer (some ⟨bx, 4, none⟩)) rfl rfl (by kernel_rfl) (by kernel_rfl) (by kernel_rfl) (fun _ _ _ h => h) (.inl ⟨by kernel_rfl, fun w' hS => ?t32⟩) hS0 ?_
    case t32 =>
      go_simp
    refine wpAnyH_takeD (i := 33) (d := some 95) (v := .string ch) rfl rfl (by kernel_rfl) (by kernel_rfl) (by kernel_rfl) (fun _ _ _ h => h) (.inl ⟨by kernel_rfl, fun w' hS => ?t33⟩) hS0 ?_
    case t33 =>
      obtain ⟨⟨x0, x1, x2, x3, x4, x5⟩, -⟩ := own6s hS.k.o
      go_simp
    refine wpAnyH_takeD (i := 34) (d := some 96) (v := .slice (some ⟨bA, 0, none⟩) m cap) rfl rfl (by kernel_rfl) (by kernel_rfl) (by kernel_rfl) (fun _ _ _ h => h) (.inl ⟨by kernel_rfl, fun w' hS => ?t34⟩) hS0 ?_
    case t34 =>
      go_simp
    refine wpAnyH_takeD (i := 35) (d := some 97) (v := .int .i64 a) rfl rfl (by kernel_rfl) (by kernel_rfl) (by kernel_rfl) (fun _ _ _ h => h) (.inl ⟨by kernel_rfl, fun w' hS => ?t35⟩) hS0 ?_
    case t35 =>
      go_simp
    refine wpAnyH_takeD (i := 36) (d := some 98) (v := .pointer (some ⟨bA, a, none⟩)) rfl rfl (by kernel_rfl) (by kernel_rfl) (by kernel_rfl) (fun _ _ _ h => h) (.inl ⟨by kernel_rfl, fun w' hS => ?t36⟩) hS0 ?_
    case t36 =>
      go_simp
    refine wpAnyH_takeD (i := 37) (d := some 99) (v := .string ch) rfl rfl (by kernel_rfl) (by kernel_rfl) (by kernel_rfl) (fun _ _ _ h => h) (.inl ⟨by kernel_rfl, fun w' hS => ?t37⟩) hS0 ?_
    case t37 =>
      have xa := hS.at_ HM.out HLM.out HCH.out ha
      go_simp
    refine wpAnyH_takeD (i := 38) (d := some 100) (v := .bool true) rfl rfl (by kernel_rfl) (by kernel_rfl) (by kernel_rfl) (fun _ _ _ h => h) (.inl ⟨by kernel_rfl, fun w' hS => ?t38⟩) hS0 ?_
    case t38 =>
      go_simp
    refine wpAnyH_takeD (i := 39) (d := some 101) (v := .bool true) rfl rfl (by kernel_rfl) (by kernel_rfl) (by kernel_rfl) (fun _ _ _ h => h) (.inl ⟨by kernel_rfl, fun w' hS => ?t39⟩) hS0 ?_
    case t39 =>
      go_simp
    refine wpAnyH_takeD (i := 40) (d := some 102) (v := .bool true) rfl rfl (by kernel_rfl) (by kernel_rfl) (by kernel_rfl) (fun _ _ _ h => h) (.inl ⟨by kernel_rfl, fun w' hS => ?t40⟩) hS0 ?_
    case t40 =>
      go_simp
    refine wpAnyH_takeD (i := 41) (d := some 103) (v := .pointer (some ⟨bx, 5, none⟩)) rfl rfl (by kernel_rfl) (by kernel_rfl) (by kernel_rfl) (fun _ _ _ h => h) (.inl ⟨by kernel_rfl, fun w' hS => ?t41⟩) hS0 ?_
    case t41 =>
      go_simp
    refine wpAnyH_takeD (i := 42) (d := some 104) (v := .slice B q cap3) rfl rfl (by kernel_rfl) (by kernel_rfl) (by kernel_rfl) (fun _ _ _ h => h) (.inl ⟨by kernel_rfl, fun w' hS => ?t42⟩) hS0 ?_
    case t42 =>
      obtain ⟨⟨x0, x1, x2, x3, x4, x5⟩, -⟩ := own6s hS.k.o
      go_simp
    refine wpAnyH_takeD (i := 43) (d := some 105) (v := .slice Dd m capd) rfl rfl (by kernel_rfl) (by kernel_rfl) (by kernel_rfl) (fun _ _ _ h => h) (.inl ⟨by kernel_rfl, fun w' hS => ?t43⟩) hS0 ?_
    case t43 =>
      go_simp
    refine wpAnyH_takeD (i := 44) (d := some 106) (v := .int .i64 a) rfl rfl (by kernel_rfl) (by kernel_rfl) (by kernel_rfl) (fun _ _ _ h => h) (.inl ⟨by kernel_rfl, fun w' hS => ?t44⟩) hS0 ?_
    case t44 =>
      go_simp
    try simp only [Act.put, List.setIfInBounds_toArray, List.set_cons_zero, List.set_cons_succ]
    refine wpAnyH_all (rs := [45]) (by kernel_rfl) (by simp) (fun j hj => ?_)
    rw [List.mem_singleton] at hj
    subst hj
    refine wpOp_step rfl (fun K hK => ?_)
    go_simp
    refine (RP.out Dd m capd _ (SlT.of_txl hS0.k.d HDM.out) hcd.1 hcd.2 (by omega)).mono ?_
    rintro e W' ⟨v, rfl, tp, n'⟩
    replace hS0 := hS0.new_ n'
    clear n'
    obtain ⟨Pp, capp, rfl⟩ := tp.form
    have hcp := tp.cap
    rw [← HQ.out] at tp hcp ⊢
    have HTP := Lib.hid tp
    clear tp
    refine hK _ _ ⟨hS0, ?_⟩
    clear hK K
    try simp only [List.getElem_toArray, List.getElem_cons_succ, List.getElem_cons_zero]
    try simp only [Act.put, List.setIfInBounds_toArray, List.set_cons_zero, List.set_cons_succ]
    refine wpAnyH_all (rs := [46]) (by kernel_rfl) (by simp) (fun j hj => ?_)
    rw [List.mem_singleton] at hj
    subst hj
    refine wpOp_step rfl (fun K hK => ?_)
    go_simp
    refine (same_eq (SlT.of_txl hS0.k.b HPM.out) (SlT.of_txl HTP.out HPM.out) (by omega) hc3.1 hcp.1).mono ?_
    rintro e W' ⟨rfl, n'⟩
    replace hS0 := hS0.new_ n'
    clear n'
    refine hK _ _ ⟨hS0, ?_⟩
    clear hK K
    try simp only [List.getElem_toArray, List.getElem_cons_succ, List.getElem_cons_zero]
    refine wpAnyH_takeD (i := 47) (d := some 109) (v := .bool true) rfl rfl (by kernel_rfl) (by kernel_rfl) (by kernel_rfl) (fun _ _ _ h => h) (.inl ⟨by kernel_rfl, fun w' hS => ?t47⟩) hS0 ?_
    case t47 =>
      go_simp
    refine wpAnyH_takeD (i := 48) (d := some 110) (v := .bool true) rfl rfl (by kernel_rfl) (by kernel_rfl) (by kernel_rfl) (fun _ _ _ h => h) (.inl ⟨by kernel_rfl, fun w' hS => ?t48⟩) hS0 ?_
    case t48 =>
      go_simp
    refine wpAnyH_takeD (i := 49) (d := some 111) (v := .agg #[.string fb, .int .i64 t.size, .int .i64 m, .int .i64 a, .string ch, .slice B q cap3]) rfl rfl (by kernel_rfl) (by kernel_rfl) (by kernel_rfl) (fun _ _ _ h => h) (.inl ⟨by kernel_rfl, fun w' hS => ?t49⟩) hS0 ?_
    case t49 =>
      obtain ⟨⟨x0, x1, x2, x3, x4, x5⟩, -⟩ := own6s hS.k.o
      go_simp
    try simp only [Act.put, List.setIfInBounds_toArray, List.set_cons_zero, List.set_cons_succ]
    refine wpAnyH_all (rs := [50]) (by kernel_rfl) (by simp) (fun j hj => ?_)
    rw [List.mem_singleton] at hj
    subst hj
    refine wpOp_step rfl (fun K hK => ?_)
    go_simp
    refine (verify_up (r := 0) HV.out.1 HV.out.2.1 HV.out.2.2.1 HV.out.2.2.2.1 HV.out.2.2.2.2.1 HV.out.2.2.2.2.2.1 HV.out.2.2.2.2.2.2.1 HV.out.2.2.2.2.2.2.2.1 (SlT.of_txl hS0.k.b HPM.out) hc3.1 hc3.2 HV.out.2.2.2.2.2.2.2.2 ⟨fun _ => rfl, fun hn => absurd HF.out hn⟩).mono ?_
    rintro e W' ⟨rfl, n'⟩
    replace hS0 := hS0.new_ n'
    clear n'
    refine hK _ _ ⟨hS0, ?_⟩
    clear hK K
    try simp only [List.getElem_toArray, List.getElem_cons_succ, List.getElem_cons_zero]
    refine wpAnyH_takeD (i := 51) (d := some 113) (v := .bool true) rfl rfl (by kernel_rfl) (by kernel_rfl) (by kernel_rfl) (fun _ _ _ h => h) (.inl ⟨by kernel_rfl, fun w' hS => ?t51⟩) hS0 ?_
    case t51 =>
      go_simp
    refine wpAnyH_takeD (i := 52) (d := some 114) (v := .bool true) rfl rfl (by kernel_rfl) (by kernel_rfl) (by kernel_rfl) (fun _ _ _ h => h) (.inl ⟨by kernel_rfl, fun w' hS => ?t52⟩) hS0 ?_
    case t52 =>
      go_simp
    refine wpAnyH_takeD (i := 53) (d := some 115) (v := .bool true) rfl rfl (by kernel_rfl) (by kernel_rfl) (by kernel_rfl) (fun _ _ _ h => h) (.inl ⟨by kernel_rfl, fun w' hS => ?t53⟩) hS0 ?_
    case t53 =>
      go_simp
    refine wpAnyH_takeD (i := 54) (d := some 116) (v := .pointer (some ⟨br, 0, none⟩)) rfl rfl (by kernel_rfl) (by kernel_rfl) (by kernel_rfl) (fun _ _ _ h => h) (.inl ⟨by kernel_rfl, fun w' hS => ?t54⟩) hS0 ?_
    case t54 =>
      go_simp
    try simp only [Act.put, List.setIfInBounds_toArray, List.set_cons_zero, List.set_cons_succ]
    refine wpAnyH_all (rs := [55]) (by kernel_rfl) (by simp) (fun j hj => ?_)
    rw [List.mem_singleton] at hj
    subst hj
    refine wpOp_step rfl (fun K hK => ?_)
    go_simp
    refine (end_any hS0.r HOK.out).mono ?_
    rintro e W' ⟨rfl, q', f'⟩
    replace hS0 := hS0.read K5.out hb8.out (HRE.out ▸ q') f'
    rw [HRE.out]
    clear q' f'
    refine hK _ _ ⟨hS0, ?_⟩
    clear hK K
    try simp only [List.getElem_toArray, List.getElem_cons_succ, List.getElem_cons_zero]
    refine wpAnyH_takeD (i := 56) (d := some 118) (v := .bool true) rfl rfl (by kernel_rfl) (by kernel_rfl) (by kernel_rfl) (fun _ _ _ h => h) (.inl ⟨by kernel_rfl, fun w' hS => ?t56⟩) hS0 ?_
    case t56 =>
      go_simp
    refine wpAnyH_takeD (i := 57) (d := some 119) (v := .bool true) rfl rfl (by kernel_rfl) (by kernel_rfl) (by kernel_rfl) (fun _ _ _ h => h) (.inl ⟨by kernel_rfl, fun w' hS => ?t57⟩) hS0 ?_
    case t57 =>
      go_simp
    refine wpAnyH_takeD (i := 58) (d := some 120) (v := .bool true) rfl rfl (by kernel_rfl) (by kernel_rfl) (by kernel_rfl) (fun _ _ _ h => h) (.inl ⟨by kernel_rfl, fun w' hS => ?t58⟩) hS0 ?_
    case t58 =>
      go_simp
    refine wpAnyH_takeD (i := 59) (d := some 121) (v := .agg #[.string fb, .int .i64 t.size, .int .i64 m, .int .i64 a, .string ch, .slice Y q capy]) rfl rfl (by kernel_rfl) (by kernel_rfl) (by kernel_rfl) (fun _ _ _ h => h) (.inl ⟨by kernel_rfl, fun w' hS => ?t59⟩) hS0 ?_
    case t59 =>
      obtain ⟨⟨x0, x1, x2, x3, x4, x5⟩, -⟩ := own6s hS.y
      go_simp
    try simp only [Act.put, List.setIfInBounds_toArray, List.set_cons_zero, List.set_cons_succ]
    refine wpAnyH_all (rs := [60]) (by kernel_rfl) (by simp) (fun j hj => ?_)
    rw [List.mem_singleton] at hj
    subst hj
    refine wpOp_step rfl (fun K hK => ?_)
    go_simp
    refine (verify_up (r := 0) HV.out.1 HV.out.2.1 HV.out.2.2.1 HV.out.2.2.2.1 HV.out.2.2.2.2.1 HV.out.2.2.2.2.2.1 HV.out.2.2.2.2.2.2.1 HV.out.2.2.2.2.2.2.2.1 (SlT.of_txl hS0.ty HPM.out) hcy.1 hcy.2 HV.out.2.2.2.2.2.2.2.2 ⟨fun _ => rfl, fun hn => absurd HF.out hn⟩).mono ?_
    rintro e W' ⟨rfl, n'⟩
    replace hS0 := hS0.new_ n'
    clear n'
    refine hK _ _ ⟨hS0, ?_⟩
    clear hK K
    try simp only [List.getElem_toArray, List.getElem_cons_succ, List.getElem_cons_zero]
    refine wpAnyH_takeD (i := 61) (d := some 123) (v := .bool true) rfl rfl (by kernel_rfl) (by kernel_rfl) (by kernel_rfl) (fun _ _ _ h => h) (.inl ⟨by kernel_rfl, fun w' hS => ?t61⟩) hS0 ?_
    case t61 =>
      go_simp
    refine wpAnyH_takeD (i := 62) (d := some 124) (v := .bool true) rfl rfl (by kernel_rfl) (by kernel_rfl) (by kernel_rfl) (fun _ _ _ h => h) (.inl ⟨by kernel_rfl, fun w' hS => ?t62⟩) hS0 ?_
    case t62 =>
      go_simp
    refine wpAnyH_takeD (i := 63) (d := some 125) (v := .bool true) rfl rfl (by kernel_rfl) (by kernel_rfl) (by kernel_rfl) (fun _ _ _ h => h) (.inl ⟨by kernel_rfl, fun w' hS => ?t63⟩) hS0 ?_
    case t63 =>
      go_simp
    refine wpAnyH_takeD (i := 64) (d := some 126) (v := .pointer (some ⟨by_, 4, none⟩)) rfl rfl (by kernel_rfl) (by kernel_rfl) (by kernel_rfl) (fun _ _ _ h => h) (.inl ⟨by kernel_rfl, fun w' hS => ?t64⟩) hS0 ?_
    case t64 =>
      go_simp
    refine wpAnyH_takeD (i := 65) (d := some 127) (v := .string ch) rfl rfl (by kernel_rfl) (by kernel_rfl) (by kernel_rfl) (fun _ _ _ h => h) (.inl ⟨by kernel_rfl, fun w' hS => ?t65⟩) hS0 ?_
    case t65 =>
      obtain ⟨⟨x0, x1, x2, x3, x4, x5⟩, -⟩ := own6s hS.y
      go_simp
    refine wpAnyH_takeD (i := 66) (d := some 128) (v := .pointer (some ⟨bx, 4, none⟩)) rfl rfl (by kernel_rfl) (by kernel_rfl) (by kernel_rfl) (fun _ _ _ h => h) (.inl ⟨by kernel_rfl, fun w' hS => ?t66⟩) hS0 ?_
    case t66 =>
      go_simp
    refine wpAnyH_takeD (i := 67) (d := some 129) (v := .string ch) rfl rfl (by kernel_rfl) (by kernel_rfl) (by kernel_rfl) (fun _ _ _ h => h) (.inl ⟨by kernel_rfl, fun w' hS => ?t67⟩) hS0 ?_
    case t67 =>
      obtain ⟨⟨x0, x1, x2, x3, x4, x5⟩, -⟩ := own6s hS.k.o
      go_simp
    refine wpAnyH_takeD (i := 68) (d := some 130) (v := .bool true) rfl rfl (by kernel_rfl) (by kernel_rfl) (by kernel_rfl) (fun _ _ _ h => h) (.inl ⟨by kernel_rfl, fun w' hS => ?t68⟩) hS0 ?_
    case t68 =>
      go_simp
    refine wpAnyH_takeD (i := 69) (d := some 131) (v := .bool true) rfl rfl (by kernel_rfl) (by kernel_rfl) (by kernel_rfl) (fun _ _ _ h => h) (.inl ⟨by kernel_rfl, fun w' hS => ?t69⟩) hS0 ?_
    case t69 =>
      go_simp
    refine wpAnyH_takeD (i := 70) (d := some 132) (v := .bool true) rfl rfl (by kernel_rfl) (by kernel_rfl) (by kernel_rfl) (fun _ _ _ h => h) (.inl ⟨by kernel_rfl, fun w' hS => ?t70⟩) hS0 ?_
    case t70 =>
      go_simp
    refine wpAnyH_takeD (i := 71) (d := some 133) (v := .pointer (some ⟨bx, 5, none⟩)) rfl rfl (by kernel_rfl) (by kernel_rfl) (by kernel_rfl) (fun _ _ _ h => h) (.inl ⟨by kernel_rfl, fun w' hS => ?t71⟩) hS0 ?_
    case t71 =>
      go_simp
    refine wpAnyH_takeD (i := 72) (d := some 134) (v := .slice B q cap3) rfl rfl (by kernel_rfl) (by kernel_rfl) (by kernel_rfl) (fun _ _ _ h => h) (.inl ⟨by kernel_rfl, fun w' hS => ?t72⟩) hS0 ?_
    case t72 =>
      obtain ⟨⟨x0, x1, x2, x3, x4, x5⟩, -⟩ := own6s hS.k.o
      go_simp
    refine wpAnyH_takeD (i := 73) (d := some 135) (v := .pointer (some ⟨by_, 5, none⟩)) rfl rfl (by kernel_rfl) (by kernel_rfl) (by kernel_rfl) (fun _ _ _ h => h) (.inl ⟨by kernel_rfl, fun w' hS => ?t73⟩) hS0 ?_
    case t73 =>
      go_simp
    refine wpAnyH_takeD (i := 74) (d := some 136) (v := .slice Y q capy) rfl rfl (by kernel_rfl) (by kernel_rfl) (by kernel_rfl) (fun _ _ _ h => h) (.inl ⟨by kernel_rfl, fun w' hS => ?t74⟩) hS0 ?_
    case t74 =>
      obtain ⟨⟨x0, x1, x2, x3, x4, x5⟩, -⟩ := own6s hS.y
      go_simp
    try simp only [Act.put, List.setIfInBounds_toArray, List.set_cons_zero, List.set_cons_succ]
    refine wpAnyH_all (rs := [75]) (by kernel_rfl) (by simp) (fun j hj => ?_)
    rw [List.mem_singleton] at hj
    subst hj
    refine wpOp_step rfl (fun K hK => ?_)
    go_simp
    refine (same_eq (SlT.of_txl hS0.k.b HPM.out) (SlT.of_txl hS0.ty HPM.out) (by omega) hc3.1 hcy.1).mono ?_
    rintro e W' ⟨rfl, n'⟩
    replace hS0 := hS0.new_ n'
    clear n'
    refine hK _ _ ⟨hS0, ?_⟩
    clear hK K
    try simp only [List.getElem_toArray, List.getElem_cons_succ, List.getElem_cons_zero]
    refine wpAnyH_takeD (i := 76) (d := some 138) (v := .bool true) rfl rfl (by kernel_rfl) (by kernel_rfl) (by kernel_rfl) (fun _ _ _ h => h) (.inl ⟨by kernel_rfl, fun w' hS => ?t76⟩) hS0 ?_
    case t76 =>
      go_simp
    refine wpAnyH_takeD (i := 77) (d := some 6) (v := .bool true) rfl rfl (by kernel_rfl) (by kernel_rfl) (by kernel_rfl) (fun _ _ _ h => h) (.inl ⟨by kernel_rfl, fun w' hS => ?t77⟩) hS0 ?_
    case t77 =>
      go_simp
    refine wpAnyH_done (by kernel_rfl) ?_ _
    try simp only [Act.put, List.setIfInBounds_toArray, List.set_cons_zero, List.set_cons_succ]
    have HN := Lib.hid hS0.k.n
    clear hS0
    go_simp
    go_wp2_with fail
    go_ret
    exact ⟨rfl, HN.out⟩
    -- END REGION
  · have SM := Lib.hid (SN.out hat)
    clear SI SN
    go_wp2_with fail
    refine (SM.out _).mono ?_
    rintro e W3 ⟨rfl, n3⟩
    have o0 := Own.fresh W3 27 zeroSh
    have m0 : New w (W3.alloc (.cells zeroSh 27)) := (H2.out.1.new_ n3).alloc _
    have H3 := Lib.hid (And.intro o0 m0)
    clear o0 m0 n3 hm1
    by_cases h0 : at_ < 0
    · clear hat
      go_wp2_with fail
      refine merkle_awake.mono ?_
      rintro e W4 ⟨rfl, n4⟩
      obtain ⟨⟨x0, x1, x2, x3, x4, x5⟩, -⟩ := own6s (H3.out.1.new_ n4)
      have tn : (⟨#[]⟩ : ByteArray) = ByteArray.empty := rfl
      rw [tn] at x0 x4
      clear tn
      have N4 := Lib.hid (H3.out.2.new_ n4)
      clear n4
      have h9 : ¬ (8192 : Int) < (t.size : Int) := by omega
      go_simp
      go_wp2_with fail
      go_ret
      exact ⟨rfl, N4.out⟩
    · have h1 : (m : Int) ≤ at_ := by omega
      clear hat
      go_wp2_with fail
      refine merkle_awake.mono ?_
      rintro e W4 ⟨rfl, n4⟩
      obtain ⟨⟨x0, x1, x2, x3, x4, x5⟩, -⟩ := own6s (H3.out.1.new_ n4)
      have tn : (⟨#[]⟩ : ByteArray) = ByteArray.empty := rfl
      rw [tn] at x0 x4
      clear tn
      have N4 := Lib.hid (H3.out.2.new_ n4)
      clear n4
      have h9 : ¬ (8192 : Int) < (t.size : Int) := by omega
      have h10 : ¬ at_ < 0 := by omega
      go_simp
      go_wp2_with fail
      go_ret
      exact ⟨rfl, N4.out⟩
theorem merkleShows_walk {w : World} (s : ByteArray) (hs : s.size ≤ 140737488351232) (seed : Int) (hseed : (Lit.int .u64 seed).wf = true) (at_ : Int) (hat : (Lit.int .i64 at_).wf = true) :
    Calls Tryz.prog 5 #[.string s, .int .u64 seed, .int .i64 at_] w fun e W => e = .returned (.bool true) ∧ New w W := by
  have h1 : IntKind.u64.min = 0 := rfl
  have h2 : IntKind.u64.max = 18446744073709551615 := rfl
  simp only [Lit.wf, Bool.and_eq_true, decide_eq_true_eq] at hseed
  rw [h1, h2] at hseed
  have e : (Value.int .u64 seed) = U (BitVec.ofNat 64 seed.toNat) := by
    unfold U
    congr 1
    rw [BitVec.toNat_ofNat]
    omega
  rw [e]
  exact merkleShows_core hat hs
end Go.Proofs.YtjcpdpdhegcgoaaGreatDoor
