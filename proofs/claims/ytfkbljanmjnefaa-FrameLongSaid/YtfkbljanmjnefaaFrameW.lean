/- Frames: what bytes say: words for the walk. -/
import Derived.Test.YtfkbljanmjnefaaShare
namespace Go.Proofs.Ytfkbljanmjnefaa
open Go.RowKit
set_option linter.unusedVariables false
set_option linter.unusedSimpArgs false

abbrev set11 (w : World) (b : Nat) (v0 v1 v2 v3 v4 v5 v6 v7 v8 v9 v10 : Value) : World := ((((((((((w.setCell ⟨b, 0, none⟩ v0).setCell ⟨b, 1, none⟩ v1).setCell ⟨b, 2, none⟩ v2).setCell ⟨b, 3, none⟩ v3).setCell ⟨b, 4, none⟩ v4).setCell ⟨b, 5, none⟩ v5).setCell ⟨b, 6, none⟩ v6).setCell ⟨b, 7, none⟩ v7).setCell ⟨b, 8, none⟩ v8).setCell ⟨b, 9, none⟩ v9).setCell ⟨b, 10, none⟩ v10
theorem Own.put11 {w : World} {b : Nat} {t : TypeId} {u0 u1 u2 u3 u4 u5 u6 u7 u8 u9 u10 : Value} (h : Own w b t #[u0, u1, u2, u3, u4, u5, u6, u7, u8, u9, u10]) (v0 v1 v2 v3 v4 v5 v6 v7 v8 v9 v10 : Value) : Own (set11 w b v0 v1 v2 v3 v4 v5 v6 v7 v8 v9 v10) b t #[v0, v1, v2, v3, v4, v5, v6, v7, v8, v9, v10] := by
  have a0 := h.put (i := 0) (u := v0) (cs' := #[v0, u1, u2, u3, u4, u5, u6, u7, u8, u9, u10]) rfl
  have a1 := a0.put (i := 1) (u := v1) (cs' := #[v0, v1, u2, u3, u4, u5, u6, u7, u8, u9, u10]) rfl
  have a2 := a1.put (i := 2) (u := v2) (cs' := #[v0, v1, v2, u3, u4, u5, u6, u7, u8, u9, u10]) rfl
  have a3 := a2.put (i := 3) (u := v3) (cs' := #[v0, v1, v2, v3, u4, u5, u6, u7, u8, u9, u10]) rfl
  have a4 := a3.put (i := 4) (u := v4) (cs' := #[v0, v1, v2, v3, v4, u5, u6, u7, u8, u9, u10]) rfl
  have a5 := a4.put (i := 5) (u := v5) (cs' := #[v0, v1, v2, v3, v4, v5, u6, u7, u8, u9, u10]) rfl
  have a6 := a5.put (i := 6) (u := v6) (cs' := #[v0, v1, v2, v3, v4, v5, v6, u7, u8, u9, u10]) rfl
  have a7 := a6.put (i := 7) (u := v7) (cs' := #[v0, v1, v2, v3, v4, v5, v6, v7, u8, u9, u10]) rfl
  have a8 := a7.put (i := 8) (u := v8) (cs' := #[v0, v1, v2, v3, v4, v5, v6, v7, v8, u9, u10]) rfl
  have a9 := a8.put (i := 9) (u := v9) (cs' := #[v0, v1, v2, v3, v4, v5, v6, v7, v8, v9, u10]) rfl
  have a10 := a9.put (i := 10) (u := v10) (cs' := #[v0, v1, v2, v3, v4, v5, v6, v7, v8, v9, v10]) rfl
  exact a10
theorem Fr.put11 {F : Nat → Prop} {a w : World} {b : Nat} (h : Fr F a w) (hb : b < a.heap.size → F b) (v0 v1 v2 v3 v4 v5 v6 v7 v8 v9 v10 : Value) : Fr F a (set11 w b v0 v1 v2 v3 v4 v5 v6 v7 v8 v9 v10) :=
  ((((((((((h.set (p := ⟨b, 0, none⟩) hb v0).set (p := ⟨b, 1, none⟩) hb v1).set (p := ⟨b, 2, none⟩) hb v2).set (p := ⟨b, 3, none⟩) hb v3).set (p := ⟨b, 4, none⟩) hb v4).set (p := ⟨b, 5, none⟩) hb v5).set (p := ⟨b, 6, none⟩) hb v6).set (p := ⟨b, 7, none⟩) hb v7).set (p := ⟨b, 8, none⟩) hb v8).set (p := ⟨b, 9, none⟩) hb v9).set (p := ⟨b, 10, none⟩) hb v10
theorem cells11 {w : World} {b : Nat} {t : TypeId} {v0 v1 v2 v3 v4 v5 v6 v7 v8 v9 v10 : Value} (h : Own w b t #[v0, v1, v2, v3, v4, v5, v6, v7, v8, v9, v10]) :
    w.cell? ⟨b, 0, none⟩ = some v0 ∧ w.cell? ⟨b, 1, none⟩ = some v1 ∧ w.cell? ⟨b, 2, none⟩ = some v2 ∧ w.cell? ⟨b, 3, none⟩ = some v3 ∧ w.cell? ⟨b, 4, none⟩ = some v4 ∧ w.cell? ⟨b, 5, none⟩ = some v5 ∧ w.cell? ⟨b, 6, none⟩ = some v6 ∧ w.cell? ⟨b, 7, none⟩ = some v7 ∧ w.cell? ⟨b, 8, none⟩ = some v8 ∧ w.cell? ⟨b, 9, none⟩ = some v9 ∧ w.cell? ⟨b, 10, none⟩ = some v10 := ⟨h.cell 0, h.cell 1, h.cell 2, h.cell 3, h.cell 4, h.cell 5, h.cell 6, h.cell 7, h.cell 8, h.cell 9, h.cell 10⟩
theorem free11 {w : World} {b : Nat} {t : TypeId} {cs : Array Value} (h : Own w b t cs) : w.frozen? ⟨b, 0, none⟩ = false ∧ w.frozen? ⟨b, 1, none⟩ = false ∧ w.frozen? ⟨b, 2, none⟩ = false ∧ w.frozen? ⟨b, 3, none⟩ = false ∧ w.frozen? ⟨b, 4, none⟩ = false ∧ w.frozen? ⟨b, 5, none⟩ = false ∧ w.frozen? ⟨b, 6, none⟩ = false ∧ w.frozen? ⟨b, 7, none⟩ = false ∧ w.frozen? ⟨b, 8, none⟩ = false ∧ w.frozen? ⟨b, 9, none⟩ = false ∧ w.frozen? ⟨b, 10, none⟩ = false := ⟨h.free 0, h.free 1, h.free 2, h.free 3, h.free 4, h.free 5, h.free 6, h.free 7, h.free 8, h.free 9, h.free 10⟩
/-- What is said. -/
structure SayV where
  kind : Int
  hashes : List ByteArray
  nodes : List ByteArray
  file : ByteArray
  at_ : Int
  share : ShV
def noSay : SayV := ⟨0, [], [], .empty, 0, noSh⟩
abbrev sayC (x : SayV) (A : Option Addr) (c : Nat) (A2 : Option Addr) (c2 : Nat) (A3 : Option Addr) (c3 : Nat) : Array Value :=
  #[.int .i64 x.kind, .slice A x.hashes.length c, .slice A2 x.nodes.length c2, .string x.file, .int .i64 x.at_, .string x.share.dig, .int .i64 x.share.size, .int .i64 x.share.many, .int .i64 x.share.at_, .string x.share.chunk, .slice A3 x.share.path.length c3]
def finSay (r : Rd) (x : SayV) : SayV × Int := if (rEnd r).err = 0 then (x, 0) else (noSay, (rEnd r).err)
def rTexts (r : Rd) : Rd × List ByteArray := rLoop (fun r => rText r 512) (rCount r 16).2.toNat (rCount r 16).1
/-- What bytes say, or the error. -/
def rFrame (s : ByteArray) : SayV × Int :=
  if 65536 < s.size then (noSay, 3)
  else
    let a := rNumber ⟨s, 0, 0⟩ 1
    if a.2 = 1 ∨ a.2 = 3 then finSay (rHashes a.1).1 ⟨a.2, (rHashes a.1).2, [], .empty, 0, noSh⟩
    else if a.2 = 2 then finSay (rTexts a.1).1 ⟨2, [], (rTexts a.1).2, .empty, 0, noSh⟩
    else if a.2 = 4 then finSay (rCount (rBytes a.1 32).1 65536).1 ⟨4, [], [], (rBytes a.1 32).2, (rCount (rBytes a.1 32).1 65536).2, noSh⟩
    else if a.2 = 5 then finSay (rShare a.1).1 ⟨5, [], [], .empty, 0, (rShare a.1).2⟩
    else finSay (rFail a.1 6) ⟨a.2, [], [], .empty, 0, noSh⟩
def FramePost (w : World) (p : SayV × Int) (e : Ending) (w' : World) : Prop :=
  ∃ A c A2 c2 A3 c3, e = .returned (.tuple #[.agg (sayC p.1 A c A2 c2 A3 c3), .int .i64 p.2]) ∧ New w w'
/-- Where Decode stands: the result's block Z, what is said in block X, the reader in block b. -/
def FrS (u W : World) (Z b X : Nat) (qc : Array Value) (rr : Rd) : Prop :=
  Own W Z 27 #[.int .i64 0, .slice none 0 0, .slice none 0 0, .string ⟨#[]⟩, .int .i64 0, .string ⟨#[]⟩, .int .i64 0, .int .i64 0, .int .i64 0, .string ⟨#[]⟩, .slice none 0 0] ∧ Own W X 27 qc ∧ OwnR W b rr ∧ Fr (· = b) u W ∧ Z < b ∧ b < X ∧ u.heap.size ≤ X
theorem FrS.call {u W W' : World} {Z b X : Nat} {qc : Array Value} {rr rr' : Rd} (h : FrS u W Z b X qc rr) (o : OwnR W' b rr') (g : Fr (· = b) W W') : FrS u W' Z b X qc rr' := by
  obtain ⟨h0, h1, h2, h3, h4, h5, h6⟩ := h
  exact ⟨h0.fr g (fun e => by have e : Z = b := e; omega), h1.fr g (fun e => by have e : X = b := e; omega), o, Fr.trans h3 g fun _ _ e => e, h4, h5, h6⟩
theorem FrS.new_ {u W W' : World} {Z b X : Nat} {qc : Array Value} {rr : Rd} (h : FrS u W Z b X qc rr) (g : New W W') : FrS u W' Z b X qc rr := by
  obtain ⟨h0, h1, h2, h3, h4, h5, h6⟩ := h
  exact ⟨h0.new_ g, h1.new_ g, Own.new_ h2 g, h3.new_ g, h4, h5, h6⟩
theorem FrS.put {u W : World} {Z b X : Nat} {qc qc' : Array Value} {rr : Rd} (h : FrS u W Z b X qc rr) {i : Nat} {x : Value} (e : qc.setIfInBounds i x = qc') : FrS u (W.setCell ⟨X, i, none⟩ x) Z b X qc' rr := by
  obtain ⟨h0, h1, h2, h3, h4, h5, h6⟩ := h
  exact ⟨h0.off (fun e => by have e : Z = X := e; omega), h1.put e, Own.off (fun e => by have e : b = X := e; omega) h2, h3.set (fun hh => by simp only at hh; omega) _, h4, h5, h6⟩
/-- A text is taken, and laid behind the row that stands in cell i. -/
theorem FrS.step {u W W2 : World} {Z b X i : Nat} {qc : Array Value} {v : Value} {acc : List ByteArray} {rr rr' : Rd} (h : FrS u W Z b X qc rr) (ht : TxL W (X + 1) v acc) (hi : qc[i]? = some v) (o : OwnR W2 b rr') (g : Fr (· = b) W.drew W2) (hn : acc.length ≤ 1000) (s : ByteArray) :
    ∃ A' cap' W', (Builtin.append_ #[23, 23] 23 #[v, .slice (some ⟨W2.heap.size, 0, none⟩) 1 1]).run Try.prog (W2.alloc (.cells #[.string s] 9)) = .ok (.slice A' (acc.length + 1) cap') W' ∧
      X < W2.heap.size ∧ W2.cell? ⟨X, i, none⟩ = some v ∧ W'.cell? ⟨X, i, none⟩ = some v ∧ W'.frozen? ⟨X, i, none⟩ = false ∧
      FrS u (W'.setCell ⟨X, i, none⟩ (.slice A' (acc.length + 1) cap')) Z b X (qc.setIfInBounds i (.slice A' (acc.length + 1) cap')) rr' ∧ TxL (W'.setCell ⟨X, i, none⟩ (.slice A' (acc.length + 1) cap')) (X + 1) (.slice A' (acc.length + 1) cap') (acc ++ [s]) := by
  have s8 := (h.new_ ((Fr.refl _ _).drew)).call o g
  have t8 : TxL W2 (X + 1) v acc := (ht.new_ ((Fr.refl _ _).drew)).fr g (fun k hk e => by have := (ht.base hk).1; have e : k = b := e; have := h.2.2.2.2.2.1; omega)
  have l8 := s8.2.1.lt
  obtain ⟨v', W', hrun, t3, f3, v3⟩ := append_txt (t8.new_ ((Fr.refl _ _).alloc (.cells #[.string s] 9))) (by simp; omega) (by omega) (Own.fresh W2 9 #[.string s])
  obtain ⟨A', cap', rfl⟩ := t3.form
  rw [List.length_append] at hrun t3
  obtain ⟨h0, h1, h2, h3, h4, h5, h6⟩ := s8.new_ ((Fr.refl _ _).alloc (.cells #[.string s] 9))
  have hk : ∀ k, v.ownBlock = some k → X + 1 ≤ k := fun k e => (t8.base e).1
  have q := h1.fr f3 (fun e => by have := hk _ e; omega)
  have s9 : FrS u W' Z b X qc rr' := ⟨h0.fr f3 (fun e => by have := hk _ e; omega), q, Own.fr h2 f3 (fun e => by have := hk _ e; omega), Fr.trans h3 f3 (fun k _ e => by have := hk _ e; omega), h4, h5, h6⟩
  have hs := Fr.set (F := (· = X)) (Fr.refl _ W') (p := ⟨X, i, none⟩) (fun _ => rfl) (.slice A' (acc.length + 1) cap')
  exact ⟨A', cap', W', hrun, l8, (s8.2.1.cell i).trans hi, (q.cell i).trans hi, q.free i, s9.put rfl, t3.fr hs (fun k hk e => by have := (t3.base hk).1; have e : k = X := e; omega)⟩
end Go.Proofs.Ytfkbljanmjnefaa
