/- Shares: Take. -/
import Derived.Test.YtjcpdpdhegcgoaaGreatDoorRLoop
namespace Go.Proofs.YtjcpdpdhegcgoaaGreatDoor
open Go.RowKit
set_option linter.unusedVariables false
set_option linter.unusedSimpArgs false

structure ShV where
  dig : ByteArray
  size : Int
  many : Int
  at_ : Int
  chunk : ByteArray
  path : List ByteArray
def noSh : ShV := ⟨.empty, 0, 0, 0, .empty, []⟩
abbrev shC (x : ShV) (v : Value) : Array Value := #[.string x.dig, .int .i64 x.size, .int .i64 x.many, .int .i64 x.at_, .string x.chunk, v]
/-- What Take takes, ahead of a look at the error. -/
def rShare0 (r : Rd) : Rd × ShV :=
  let a1 := rBytes r 32
  let a2 := rCount a1.1 8192
  let a3 := rCount a2.1 256
  let a4 := rCount a3.1 256
  let a5 := rText a4.1 512
  let a6 := rNumber a5.1 1
  let a7 := rLoop rHash a6.2 a6.1
  (a7.1, ⟨a1.2, a2.2, a3.2, a4.2, a5.2, a7.2⟩)
def rShare (r : Rd) : Rd × ShV := if (rShare0 r).1.err = 0 then rShare0 r else ((rShare0 r).1, noSh)
theorem rShare0_ok {r : Rd} (h : r.ok) : (rShare0 r).1.ok :=
  rLoop_ok rHash (fun r h => rBytes_ok h 32) _ _ (rNumber_ok (rText_ok (rCount_ok (rCount_ok (rCount_ok (rBytes_ok h 32) 8192) 256) 256) 512) 1)
theorem rShare_ok {r : Rd} (h : r.ok) : (rShare r).1.ok := by
  unfold rShare
  split
  · exact rShare0_ok h
  · exact rShare0_ok h
def SharePost (w : World) (b : Nat) (r : Rd) (e : Ending) (w' : World) : Prop :=
  ∃ v, e = .returned (.agg (shC (rShare r).2 v)) ∧ TxL w' w.heap.size v (rShare r).2.path ∧ OwnR w' b (rShare r).1 ∧ Fr (· = b) w w'
abbrev set6 (w : World) (b : Nat) (v0 v1 v2 v3 v4 v5 : Value) : World := (((((w.setCell ⟨b, 0, none⟩ v0).setCell ⟨b, 1, none⟩ v1).setCell ⟨b, 2, none⟩ v2).setCell ⟨b, 3, none⟩ v3).setCell ⟨b, 4, none⟩ v4).setCell ⟨b, 5, none⟩ v5
theorem Own.put6 {w : World} {b : Nat} {t : TypeId} {u0 u1 u2 u3 u4 u5 : Value} (h : Own w b t #[u0, u1, u2, u3, u4, u5]) (v0 v1 v2 v3 v4 v5 : Value) : Own (set6 w b v0 v1 v2 v3 v4 v5) b t #[v0, v1, v2, v3, v4, v5] := by
  have a0 := h.put (i := 0) (u := v0) (cs' := #[v0, u1, u2, u3, u4, u5]) rfl
  have a1 := a0.put (i := 1) (u := v1) (cs' := #[v0, v1, u2, u3, u4, u5]) rfl
  have a2 := a1.put (i := 2) (u := v2) (cs' := #[v0, v1, v2, u3, u4, u5]) rfl
  have a3 := a2.put (i := 3) (u := v3) (cs' := #[v0, v1, v2, v3, u4, u5]) rfl
  have a4 := a3.put (i := 4) (u := v4) (cs' := #[v0, v1, v2, v3, v4, u5]) rfl
  have a5 := a4.put (i := 5) (u := v5) (cs' := #[v0, v1, v2, v3, v4, v5]) rfl
  exact a5
theorem Fr.put6 {F : Nat → Prop} {a w : World} {b : Nat} (h : Fr F a w) (hb : b < a.heap.size → F b) (v0 v1 v2 v3 v4 v5 : Value) : Fr F a (set6 w b v0 v1 v2 v3 v4 v5) :=
  (((((h.set (p := ⟨b, 0, none⟩) hb v0).set (p := ⟨b, 1, none⟩) hb v1).set (p := ⟨b, 2, none⟩) hb v2).set (p := ⟨b, 3, none⟩) hb v3).set (p := ⟨b, 4, none⟩) hb v4).set (p := ⟨b, 5, none⟩) hb v5
theorem shCells {w : World} {b : Nat} {dig : ByteArray} {sz many at_ : Int} {ch : ByteArray} {v : Value} (h : Own w b 27 #[.string dig, .int .i64 sz, .int .i64 many, .int .i64 at_, .string ch, v]) :
    w.cell? ⟨b, 0, none⟩ = some (.string dig) ∧ w.cell? ⟨b, 1, none⟩ = some (.int .i64 sz) ∧ w.cell? ⟨b, 2, none⟩ = some (.int .i64 many) ∧ w.cell? ⟨b, 3, none⟩ = some (.int .i64 at_) ∧ w.cell? ⟨b, 4, none⟩ = some (.string ch) ∧ w.cell? ⟨b, 5, none⟩ = some v :=
  ⟨h.cell 0, h.cell 1, h.cell 2, h.cell 3, h.cell 4, h.cell 5⟩
theorem shFree {w : World} {b : Nat} {t : TypeId} {cs : Array Value} (h : Own w b t cs) : w.frozen? ⟨b, 0, none⟩ = false ∧ w.frozen? ⟨b, 1, none⟩ = false ∧ w.frozen? ⟨b, 2, none⟩ = false ∧ w.frozen? ⟨b, 3, none⟩ = false ∧ w.frozen? ⟨b, 4, none⟩ = false ∧ w.frozen? ⟨b, 5, none⟩ = false := ⟨h.free 0, h.free 1, h.free 2, h.free 3, h.free 4, h.free 5⟩
/-- Where Take stands in its loop. -/
def ShS (w W : World) (b X : Nat) (dig : ByteArray) (sz many at_ : Int) (ch : ByteArray) (v : Value) (acc : List ByteArray) (rr : Rd) : Prop :=
  Own W w.heap.size 27 #[.string ⟨#[]⟩, .int .i64 0, .int .i64 0, .int .i64 0, .string ⟨#[]⟩, .slice none 0 0] ∧ Own W X 27 #[.string dig, .int .i64 sz, .int .i64 many, .int .i64 at_, .string ch, v] ∧ TxL W (X + 1) v acc ∧ OwnR W b rr ∧ Fr (· = b) w W ∧ b < w.heap.size ∧ w.heap.size < X
theorem ShS.call {w W W' : World} {b X : Nat} {dig : ByteArray} {sz many at_ : Int} {ch : ByteArray} {v : Value} {acc : List ByteArray} {rr rr' : Rd} (h : ShS w W b X dig sz many at_ ch v acc rr) (o : OwnR W' b rr') (g : Fr (· = b) W W') : ShS w W' b X dig sz many at_ ch v acc rr' := by
  obtain ⟨h0, h1, h2, h3, h4, h5, h6⟩ := h
  exact ⟨h0.fr g (fun e => by have e : w.heap.size = b := e; omega), h1.fr g (fun e => by have e : X = b := e; omega), h2.fr g (fun k hk e => by have := (h2.base hk).1; have e : k = b := e; omega), o, Fr.trans h4 g fun _ _ e => e, h5, h6⟩
theorem ShS.new_ {w W W' : World} {b X : Nat} {dig : ByteArray} {sz many at_ : Int} {ch : ByteArray} {v : Value} {acc : List ByteArray} {rr : Rd} (h : ShS w W b X dig sz many at_ ch v acc rr) (g : New W W') : ShS w W' b X dig sz many at_ ch v acc rr := by
  obtain ⟨h0, h1, h2, h3, h4, h5, h6⟩ := h
  exact ⟨h0.new_ g, h1.new_ g, h2.new_ g, Own.new_ h3 g, h4.new_ g, h5, h6⟩
/-- A text is laid behind: the row is another one, the old row's value still stands in its cell. -/
theorem ShS.more {w W W' : World} {b X : Nat} {dig : ByteArray} {sz many at_ : Int} {ch : ByteArray} {v v' : Value} {acc acc' : List ByteArray} {rr : Rd} (h : ShS w W b X dig sz many at_ ch v acc rr) (t : TxL W' (X + 1) v' acc') (f : Fr (fun k => v.ownBlock = some k) W W') :
    Own W' X 27 #[.string dig, .int .i64 sz, .int .i64 many, .int .i64 at_, .string ch, v] ∧ ShS w (W'.setCell ⟨X, 5, none⟩ v') b X dig sz many at_ ch v' acc' rr := by
  obtain ⟨h0, h1, h2, h3, h4, h5, h6⟩ := h
  have q := h1.fr f (fun e => by have := (h2.base e).1; omega)
  have hs := Fr.set (F := (· = X)) (Fr.refl _ W') (p := ⟨X, 5, none⟩) (fun _ => rfl) v'
  refine ⟨q, (h0.fr f (fun e => by have := (h2.base e).1; omega)).fr hs (fun e => by have e : w.heap.size = X := e; omega), q.put rfl, t.fr hs (fun k hk e => by have := (t.base hk).1; have e : k = X := e; omega), Own.fr (Own.fr h3 f (fun e => by have := (h2.base e).1; omega)) hs (fun e => by have e : b = X := e; omega), ?_, h5, h6⟩
  exact (Fr.trans h4 f (fun k hk e => by have := (h2.base e).1; omega)).set (fun hh => by simp only at hh; omega) _
/-- A digest is taken, and laid behind. -/
theorem ShS.step {w W W2 : World} {b X : Nat} {dig : ByteArray} {sz many at_ : Int} {ch : ByteArray} {v : Value} {acc : List ByteArray} {rr rr' : Rd} (h : ShS w W b X dig sz many at_ ch v acc rr) (o : OwnR W2 b rr') (g : Fr (· = b) W.drew W2) (hn : acc.length ≤ 1000) (s : ByteArray) :
    ∃ A' cap' W', (Builtin.append_ #[24, 24] 24 #[v, .slice (some ⟨W2.heap.size, 0, none⟩) 1 1]).run Tryz.prog (W2.alloc (.cells #[.string s] 9)) = .ok (.slice A' (acc.length + 1) cap') W' ∧
      X < W2.heap.size ∧ W2.cell? ⟨X, 5, none⟩ = some v ∧ W'.cell? ⟨X, 5, none⟩ = some v ∧ W'.frozen? ⟨X, 5, none⟩ = false ∧ ShS w (W'.setCell ⟨X, 5, none⟩ (.slice A' (acc.length + 1) cap')) b X dig sz many at_ ch (.slice A' (acc.length + 1) cap') (acc ++ [s]) rr' := by
  have s8 := (h.new_ ((Fr.refl _ _).drew)).call o g
  have l8 := s8.2.1.lt
  obtain ⟨v', W', hrun, t3, f3, v3⟩ := append_txt (s8.2.2.1.new_ ((Fr.refl _ _).alloc (.cells #[.string s] 9))) (by simp; omega) (by omega) (Own.fresh W2 9 #[.string s])
  obtain ⟨q9, s9⟩ := (s8.new_ ((Fr.refl _ _).alloc (.cells #[.string s] 9))).more t3 f3
  obtain ⟨A', cap', rfl⟩ := t3.form
  rw [List.length_append] at hrun s9
  exact ⟨A', cap', W', hrun, l8, s8.2.1.cell 5, q9.cell 5, q9.free 5, s9⟩
set_option maxRecDepth 100000 in
set_option maxHeartbeats 8000000 in
theorem share_any {b : Nat} {r : Rd} {w : World} (h : OwnR w b r) (hr : r.ok) :
    Calls Tryz.prog 29 #[.pointer (some ⟨b, 0, none⟩)] w (SharePost w b r) := by
  obtain ⟨r1, dig, e1⟩ : ∃ a b, rBytes r 32 = (a, b) := ⟨_, _, rfl⟩
  have k1 : r1.ok := by have := rBytes_ok hr 32; rw [e1] at this; exact this
  obtain ⟨r2, sz, e2⟩ : ∃ a b, rCount r1 8192 = (a, b) := ⟨_, _, rfl⟩
  have k2 : r2.ok := by have := rCount_ok k1 8192; rw [e2] at this; exact this
  obtain ⟨r3, many, e3⟩ : ∃ a b, rCount r2 256 = (a, b) := ⟨_, _, rfl⟩
  have k3 : r3.ok := by have := rCount_ok k2 256; rw [e3] at this; exact this
  obtain ⟨r4, at_, e4⟩ : ∃ a b, rCount r3 256 = (a, b) := ⟨_, _, rfl⟩
  have k4 : r4.ok := by have := rCount_ok k3 256; rw [e4] at this; exact this
  obtain ⟨r5, ch, e5⟩ : ∃ a b, rText r4 512 = (a, b) := ⟨_, _, rfl⟩
  have k5 : r5.ok := by have := rText_ok k4 512; rw [e5] at this; exact this
  obtain ⟨r6, n, e6⟩ : ∃ a b, rNumber r5 1 = (a, b) := ⟨_, _, rfl⟩
  have k6 : r6.ok := by have := rNumber_ok k5 1; rw [e6] at this; exact this
  have hn : n < 256 := by have := rNumber_bound r5 1 k5 (by omega); rw [show ((1 : Nat) : Int) = 1 from rfl, e6] at this; exact this
  have C1 := Lib.hid (fun ww (hh : OwnR ww b r) => hash_any hh hr)
  rw [e1] at C1
  have C2 := Lib.hid (fun ww (hh : OwnR ww b r1) => count_any hh k1 8192 (by omega))
  rw [e2] at C2
  have C3 := Lib.hid (fun ww (hh : OwnR ww b r2) => count_any hh k2 256 (by omega))
  rw [e3] at C3
  have C4 := Lib.hid (fun ww (hh : OwnR ww b r3) => count_any hh k3 256 (by omega))
  rw [e4] at C4
  have C5 := Lib.hid (fun ww (hh : OwnR ww b r4) => text_any hh k4 512 (by omega))
  rw [e5] at C5
  have C6 := Lib.hid (fun ww (hh : OwnR ww b r5) => rdNumber_any hh k5 1)
  rw [e6] at C6
  have hT : rShare0 r = ((rLoop rHash n r6).1, ⟨dig, sz, many, at_, ch, (rLoop rHash n r6).2⟩) := by unfold rShare0; simp only [e1, e2, e3, e4, e5, e6]
  have hT2 : rShare r = if (rShare0 r).1.err = 0 then rShare0 r else ((rShare0 r).1, noSh) := rfl
  rw [hT] at hT2
  have HT := Lib.hid hT2
  have hlt := Own.lt h
  clear e1 e2 e3 e4 e5 e6 hT hT2
  go_enter Tryz.func29, Tryz.ntmps29
  have z0 := Own.fresh w 27 #[.string ⟨#[]⟩, .int .i64 0, .int .i64 0, .int .i64 0, .string ⟨#[]⟩, .slice none 0 0]
  have n0 : Fr (· = b) w (w.alloc (.cells #[.string ⟨#[]⟩, .int .i64 0, .int .i64 0, .int .i64 0, .string ⟨#[]⟩, .slice none 0 0] 27)) := (Fr.refl _ _).alloc _
  go_wp2_with fail
  refine (C1.out _ (Own.alloc h _)).mono ?_
  rintro e w1 ⟨rfl, o1, g1⟩
  have z1 := z0.fr g1 (by show ¬ (_ = _); omega)
  have n1 := Fr.trans n0 g1 fun _ _ e => e
  go_wp2_with fail
  refine (C2.out _ o1).mono ?_
  rintro e w2 ⟨rfl, o2, g2⟩
  have z2 := z1.fr g2 (by show ¬ (_ = _); omega)
  have n2 := Fr.trans n1 g2 fun _ _ e => e
  go_wp2_with fail
  refine (C3.out _ o2).mono ?_
  rintro e w3 ⟨rfl, o3, g3⟩
  have z3 := z2.fr g3 (by show ¬ (_ = _); omega)
  have n3 := Fr.trans n2 g3 fun _ _ e => e
  go_wp2_with fail
  refine (C4.out _ o3).mono ?_
  rintro e w4 ⟨rfl, o4, g4⟩
  have z4 := z3.fr g4 (by show ¬ (_ = _); omega)
  have n4 := Fr.trans n3 g4 fun _ _ e => e
  go_wp2_with fail
  refine (C5.out _ o4).mono ?_
  rintro e w5 ⟨rfl, o5, g5⟩
  have z5 := z4.fr g5 (by show ¬ (_ = _); omega)
  have n5 := Fr.trans n4 g5 fun _ _ e => e
  have lz := z5.lt
  clear z0 z1 z2 z3 z4 n0 n1 n2 n3 n4 o1 o2 o3 o4 g1 g2 g3 g4 g5
  go_wp2_with fail
  refine calls_worldR (fun W => ShS w W b w5.heap.size dig sz many at_ ch (.slice none 0 0) [] r5) ⟨z5.alloc _, Own.fresh _ _ _, TxL.nil _ _, Own.alloc o5 _, n5.alloc _, hlt, lz⟩ ?_
  clear z5 n5 o5
  rintro W6 s6
  refine (C6.out _ s6.2.2.2.1).mono ?_
  rintro e w6 ⟨rfl, o6, g6⟩
  have s7 := s6.call o6 g6
  clear s6 o6 g6
  go_wp2_with fail
  go_loopw [4] (fun nv wr => ∃ (m' : Nat) (rr : Rd) (acc : List ByteArray) (v : Value), nv = .int .u64 m' ∧ ShS w wr b w5.heap.size dig sz many at_ ch v acc rr ∧ rr.ok ∧ acc.length + m' ≤ 256 ∧ Hid (rLoop rHash n r6 = ((rLoop rHash m' rr).1, acc ++ (rLoop rHash m' rr).2))) (fun nv _ => (intOf nv).toNat)
  case atStart => exact ⟨n, r6, [], _, rfl, s7, k6, by simp; omega, rfl⟩
  case round =>
    clear s7 k6
    obtain ⟨m', rr, acc, v, rfl, s7, hk, hle, HL⟩ := hrel
    rcases m' with _ | m'
    · have hF : rLoop rHash n r6 = (rr, acc) := by rw [HL.out]; simp [rLoop]
      have HF := Lib.hid hF
      clear hF HL
      obtain ⟨A, cap, rfl⟩ := s7.2.2.1.form
      obtain ⟨hz, hq, ht, ho, hfr, hl1, hl2⟩ := s7
      obtain ⟨ef, hef⟩ : ∃ ef, rr.err = ef := ⟨_, rfl⟩
      have hcase : ef = 0 ∨ (¬ ef = 0 ∧ (ef != 0) = true) := by
        by_cases e : ef = 0
        · exact .inl e
        · exact .inr ⟨e, by rw [bne_iff_ne]; exact e⟩
      have EZ := err_any ho
      rw [hef] at EZ
      have HE := Lib.hid hef
      clear hef
      obtain ⟨x0, x1, x2, x3, x4, x5⟩ := shCells (dig := ⟨#[]⟩) (sz := 0) (many := 0) (at_ := 0) (ch := ⟨#[]⟩) (v := .slice none 0 0) hz
      obtain ⟨y0, y1, y2, y3, y4, y5⟩ := shFree hz
      rcases hcase with rfl | ⟨hne, hnb⟩
      · obtain ⟨c0, c1, c2, c3, c4, c5⟩ := shCells hq
        go_wp2_with fail
        refine EZ.mono ?_
        rintro e wq ⟨rfl, rfl⟩
        go_wp2
        refine post_worldR (fun W' => Own W' w.heap.size 27 #[.string dig, .int .i64 sz, .int .i64 many, .int .i64 at_, .string ch, .slice A acc.length cap] ∧ TxL W' w.heap.size (.slice A acc.length cap) acc ∧ OwnR W' b rr ∧ Fr (· = b) w W') ⟨hz.put6 _ _ _ _ _ _, (ht.fr (Fr.put6 (F := (· = w.heap.size)) (Fr.refl _ _) (fun _ => rfl) _ _ _ _ _ _) (fun k hk e => by have := (ht.base hk).1; have e : k = w.heap.size := e; omega)).mono (by omega), Own.fr ho (Fr.put6 (F := (· = w.heap.size)) (Fr.refl _ _) (fun _ => rfl) _ _ _ _ _ _) (fun e => by have e : b = w.heap.size := e; omega), Fr.put6 hfr (fun hh => by omega) _ _ _ _ _ _⟩ ?_
        clear x0 x1 x2 x3 x4 x5 y0 y1 y2 y3 y4 y5 c0 c1 c2 c3 c4 c5 hz hq ht ho hfr
        rintro W' ⟨zf, tf, of, nf⟩
        obtain ⟨x0, x1, x2, x3, x4, x5⟩ := shCells zf
        refine bodyPost_ret (v := .agg #[.string dig, .int .i64 sz, .int .i64 many, .int .i64 at_, .string ch, .slice A acc.length cap]) (by simp [results, Tryz.results29, go_sem, *]) rfl ⟨.slice A acc.length cap, ?_, ?_, ?_, nf⟩
        · rw [HT.out, HF.out, if_pos HE.out]
        · rw [HT.out, HF.out, if_pos HE.out]; exact tf
        · rw [HT.out, HF.out, if_pos HE.out]; exact of
      · go_wp2_with fail
        refine EZ.mono ?_
        rintro e wq ⟨rfl, rfl⟩
        go_wp2
        refine post_worldR (fun W' => Own W' w.heap.size 27 #[.string ⟨#[]⟩, .int .i64 0, .int .i64 0, .int .i64 0, .string ⟨#[]⟩, .slice none 0 0] ∧ OwnR W' b rr ∧ Fr (· = b) w W') ⟨hz.put6 _ _ _ _ _ _, Own.fr ho (Fr.put6 (F := (· = w.heap.size)) (Fr.refl _ _) (fun _ => rfl) _ _ _ _ _ _) (fun e => by have e : b = w.heap.size := e; omega), Fr.put6 hfr (fun hh => by omega) _ _ _ _ _ _⟩ ?_
        clear x0 x1 x2 x3 x4 x5 y0 y1 y2 y3 y4 y5 hz hq ht ho hfr
        rintro W' ⟨zf, of, nf⟩
        obtain ⟨x0, x1, x2, x3, x4, x5⟩ := shCells (dig := ⟨#[]⟩) (sz := 0) (many := 0) (at_ := 0) (ch := ⟨#[]⟩) (v := .slice none 0 0) zf
        refine bodyPost_ret (v := .agg #[.string ⟨#[]⟩, .int .i64 0, .int .i64 0, .int .i64 0, .string ⟨#[]⟩, .slice none 0 0]) (by simp [results, Tryz.results29, go_sem, *]) rfl ⟨.slice none 0 0, ?_, ?_, ?_, nf⟩
        · rw [HT.out, HF.out, if_neg (by rw [HE.out]; exact hne)]; rfl
        · rw [HT.out, HF.out, if_neg (by rw [HE.out]; exact hne)]; exact TxL.nil _ _
        · rw [HT.out, HF.out, if_neg (by rw [HE.out]; exact hne)]; exact of
    · have hpos : (0 : Int) < ((m' + 1 : Nat) : Int) := by omega
      have hcase : rr.err = 0 ∨ (rr.err == 0) = false := by
        by_cases e : rr.err = 0
        · exact .inl e
        · exact .inr (by simpa using e)
      rcases hcase with he | he
      · have hstep : rLoop rHash (m' + 1) rr = ((rLoop rHash m' (rHash rr).1).1, (rHash rr).2 :: (rLoop rHash m' (rHash rr).1).2) := if_pos he
        have hk2 := rBytes_ok hk 32
        have HB := Lib.hid (fun ww (hh : OwnR ww b rr) => hash_any hh hk)
        rw [show rHash rr = rBytes rr 32 from rfl] at hstep
        obtain ⟨⟨r2', s⟩, hrs⟩ : ∃ p, rBytes rr 32 = p := ⟨_, rfl⟩
        rw [hrs] at hstep hk2 HB
        have HS := Lib.hid hstep
        clear hrs hstep
        obtain ⟨A, cap, rfl⟩ := s7.2.2.1.form
        have EZ := err_any s7.2.2.2.1
        rw [he] at EZ
        clear he
        go_wp2_with fail
        refine EZ.mono ?_
        rintro e wq ⟨rfl, rfl⟩
        obtain ⟨c0, c1, c2, c3, c4, c5⟩ := shCells s7.2.1
        have l7 := s7.2.1.lt
        go_wp2_with fail
        go_region_law (first
          | (refine step_append_run rfl (.tmp 28) (.tmp 31) _ rfl rfl rfl hrun ?_)
          | (go_simp; go_at_call 61; refine (HB.out _ (Own.drew s7.2.2.2.1)).mono ?_; rintro e w2 ⟨rfl, o2, g2⟩; obtain ⟨A', cap', W', hrun, l2, d5, k5, k6, s9⟩ := s7.step o2 g2 (by omega) s))
        all_goals go_wp2_with fail
        all_goals go_roundw
        all_goals first
          | exact ⟨m', r2', acc ++ [s], _, by go_num, s9, hk2, by simp; omega, by show _ = _; rw [HL.out, HS.out]; simp⟩
          | (simp [intOf]; done)
          | (simp [intOf]; omega)
      · have hF : rLoop rHash n r6 = (rr, acc) := by rw [HL.out, rLoop_err _ _ _ (by simpa using he)]; simp
        have HF := Lib.hid hF
        clear hF HL
        have EZ0 := err_any s7.2.2.2.1
        have HE0 := Lib.hid he
        obtain ⟨e0, he0⟩ : ∃ e0, rr.err = e0 := ⟨_, rfl⟩
        rw [he0] at EZ0 he
        have HE1 := Lib.hid he0
        clear he0
        go_wp2_with fail
        refine EZ0.mono ?_
        rintro e wq ⟨rfl, rfl⟩
        obtain ⟨A, cap, rfl⟩ := s7.2.2.1.form
        obtain ⟨hz, hq, ht, ho, hfr, hl1, hl2⟩ := s7
        obtain ⟨ef, hef⟩ : ∃ ef, rr.err = ef := ⟨_, rfl⟩
        have hcase : ef = 0 ∨ (¬ ef = 0 ∧ (ef != 0) = true) := by
          by_cases e : ef = 0
          · exact .inl e
          · exact .inr ⟨e, by rw [bne_iff_ne]; exact e⟩
        have EZ := err_any ho
        rw [hef] at EZ
        have HE := Lib.hid hef
        clear hef
        obtain ⟨x0, x1, x2, x3, x4, x5⟩ := shCells (dig := ⟨#[]⟩) (sz := 0) (many := 0) (at_ := 0) (ch := ⟨#[]⟩) (v := .slice none 0 0) hz
        obtain ⟨y0, y1, y2, y3, y4, y5⟩ := shFree hz
        rcases hcase with rfl | ⟨hne, hnb⟩
        · obtain ⟨c0, c1, c2, c3, c4, c5⟩ := shCells hq
          go_wp2_with fail
          refine EZ.mono ?_
          rintro e wq ⟨rfl, rfl⟩
          go_wp2
          refine post_worldR (fun W' => Own W' w.heap.size 27 #[.string dig, .int .i64 sz, .int .i64 many, .int .i64 at_, .string ch, .slice A acc.length cap] ∧ TxL W' w.heap.size (.slice A acc.length cap) acc ∧ OwnR W' b rr ∧ Fr (· = b) w W') ⟨hz.put6 _ _ _ _ _ _, (ht.fr (Fr.put6 (F := (· = w.heap.size)) (Fr.refl _ _) (fun _ => rfl) _ _ _ _ _ _) (fun k hk e => by have := (ht.base hk).1; have e : k = w.heap.size := e; omega)).mono (by omega), Own.fr ho (Fr.put6 (F := (· = w.heap.size)) (Fr.refl _ _) (fun _ => rfl) _ _ _ _ _ _) (fun e => by have e : b = w.heap.size := e; omega), Fr.put6 hfr (fun hh => by omega) _ _ _ _ _ _⟩ ?_
          clear x0 x1 x2 x3 x4 x5 y0 y1 y2 y3 y4 y5 c0 c1 c2 c3 c4 c5 hz hq ht ho hfr
          rintro W' ⟨zf, tf, of, nf⟩
          obtain ⟨x0, x1, x2, x3, x4, x5⟩ := shCells zf
          refine bodyPost_ret (v := .agg #[.string dig, .int .i64 sz, .int .i64 many, .int .i64 at_, .string ch, .slice A acc.length cap]) (by simp [results, Tryz.results29, go_sem, *]) rfl ⟨.slice A acc.length cap, ?_, ?_, ?_, nf⟩
          · rw [HT.out, HF.out, if_pos HE.out]
          · rw [HT.out, HF.out, if_pos HE.out]; exact tf
          · rw [HT.out, HF.out, if_pos HE.out]; exact of
        · go_wp2_with fail
          refine EZ.mono ?_
          rintro e wq ⟨rfl, rfl⟩
          go_wp2
          refine post_worldR (fun W' => Own W' w.heap.size 27 #[.string ⟨#[]⟩, .int .i64 0, .int .i64 0, .int .i64 0, .string ⟨#[]⟩, .slice none 0 0] ∧ OwnR W' b rr ∧ Fr (· = b) w W') ⟨hz.put6 _ _ _ _ _ _, Own.fr ho (Fr.put6 (F := (· = w.heap.size)) (Fr.refl _ _) (fun _ => rfl) _ _ _ _ _ _) (fun e => by have e : b = w.heap.size := e; omega), Fr.put6 hfr (fun hh => by omega) _ _ _ _ _ _⟩ ?_
          clear x0 x1 x2 x3 x4 x5 y0 y1 y2 y3 y4 y5 hz hq ht ho hfr
          rintro W' ⟨zf, of, nf⟩
          obtain ⟨x0, x1, x2, x3, x4, x5⟩ := shCells (dig := ⟨#[]⟩) (sz := 0) (many := 0) (at_ := 0) (ch := ⟨#[]⟩) (v := .slice none 0 0) zf
          refine bodyPost_ret (v := .agg #[.string ⟨#[]⟩, .int .i64 0, .int .i64 0, .int .i64 0, .string ⟨#[]⟩, .slice none 0 0]) (by simp [results, Tryz.results29, go_sem, *]) rfl ⟨.slice none 0 0, ?_, ?_, ?_, nf⟩
          · rw [HT.out, HF.out, if_neg (by rw [HE.out]; exact hne)]; rfl
          · rw [HT.out, HF.out, if_neg (by rw [HE.out]; exact hne)]; exact TxL.nil _ _
          · rw [HT.out, HF.out, if_neg (by rw [HE.out]; exact hne)]; exact of
end Go.Proofs.YtjcpdpdhegcgoaaGreatDoor
