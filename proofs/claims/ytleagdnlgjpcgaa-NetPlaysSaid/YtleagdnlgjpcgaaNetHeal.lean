/- Ways are mended. -/
import Derived.Test.YtleagdnlgjpcgaaNetTake
namespace Go.Proofs.Ytleagdnlgjpcgaa
open Go.RowKit Go.Maps
set_option linter.unusedVariables false
set_option linter.unusedSimpArgs false

def NetV.pushes (s : NetV) : List Pkt → NetV
  | [] => s
  | p :: l => (s.push p).pushes l
def NetV.heal (s : NetV) : NetV := ({ s with w := [], c := [] } : NetV).pushes s.w
theorem heal_none {w : World} : Calls Try.prog 11 #[.pointer none] w fun e W => e = .returned (.tuple #[]) ∧ W = w := by
  go_enter Try.func11, Try.ntmps11
  go_wp2
  exact bodyPost_ret (v := .tuple #[]) (by simp [results, Try.results11, go_sem, *]) rfl ⟨rfl, rfl⟩
set_option maxHeartbeats 8000000 in
set_option maxRecDepth 1000000 in
theorem heal_any {w : World} {n : Nat} {X : Nat → Prop} {s : NetV} (h : NetB w n X s) (hl : s.l.length ≤ 4096) (hw : s.w.length ≤ 100000) (hs : s.lost + s.w.length ≤ 1000000) :
    Calls Try.prog 11 #[.pointer (some ⟨n, 0, none⟩)] w fun e W => e = .returned (.tuple #[]) ∧ NetTo w X n W s.heal := by
  obtain ⟨lv, wv, m, z, h1, h2, h3, h4, h5, h6⟩ := h
  have hnm : n ≠ m := fun e => by subst e; obtain ⟨es, ck, hb, _⟩ := h4; rw [show w.heap[n]? = _ from h1] at hb; cases hb
  have hnl : ∀ k, lv.ownBlock = some k → k ≠ n := fun k hk e => by subst e; obtain ⟨cur, hb⟩ := h2.row hk; rw [show w.heap[k]? = _ from h1] at hb; cases hb
  have hnw : ∀ k, wv.ownBlock = some k → k ≠ n := fun k hk e => by subst e; obtain ⟨cur, hb⟩ := h3.row hk; rw [show w.heap[k]? = _ from h1] at hb; cases hb
  have hml : ∀ k, lv.ownBlock = some k → k ≠ m := fun k hk e => by subst e; obtain ⟨cur, hb⟩ := h2.row hk; obtain ⟨es, ck, hb2, _⟩ := h4; rw [hb] at hb2; cases hb2
  have hmw : ∀ k, wv.ownBlock = some k → k ≠ m := fun k hk e => by subst e; obtain ⟨cur, hb⟩ := h3.row hk; obtain ⟨es, ck, hb2, _⟩ := h4; rw [hb] at hb2; cases hb2
  obtain ⟨A, cap, hwv⟩ := h3.form
  subst hwv
  obtain ⟨W1, hcl, m1, g1⟩ := h4.clear Try.underlying53 0
  have hcl' : ∀ ty, (Builtin.clear_ #[53] ty #[.map (some m)]).run Try.prog w = .ok (.tuple #[]) W1 := fun ty => hcl
  replace g1 := fr_of_grown' g1
  have k1 := h1.fr g1 fun e => hnm (by injection e with e; exact e.symm)
  have k2 := h2.fr g1 fun k hk e => hml k hk (by injection e with e; exact e.symm)
  have k3 := h3.fr g1 fun k hk e => hmw k hk (by injection e with e; exact e.symm)
  obtain ⟨⟨c0, c1, c2, c3, c4⟩, f0, f1, f2, f3, f4⟩ := own5 h1
  obtain ⟨⟨x0, x1, x2, x3, x4⟩, y0, y1, y2, y3, y4⟩ := own5 k1
  have hB : NetB (W1.setCell ⟨n, 1, none⟩ (.slice none 0 0)) n (fun k => k = n ∨ k = m ∨ lv.ownBlock = some k) { s with w := [], c := [] } ∧ PkS (W1.setCell ⟨n, 1, none⟩ (.slice none 0 0)) A s.w ∧ Fr X w (W1.setCell ⟨n, 1, none⟩ (.slice none 0 0)) := by
    have g : Fr (fun k => k = n) W1 (W1.setCell ⟨n, 1, none⟩ (.slice none 0 0)) := Fr.set (F := fun k => k = n) (Fr.refl _ _) (p := ⟨n, 1, none⟩) (fun _ => rfl) _
    refine ⟨⟨lv, .slice none 0 0, m, 0, k1.put rfl, k2.fr g hnl, PkL.nil _, (m1.congr fun v => (wayM_nil v).symm).fr g fun e => hnm e.symm, (fun k _ e => by cases e), fun k => ?_⟩, ?_, ?_⟩
    · show _ ↔ _
      simp [Value.ownBlock]
    · exact (k3.fr g hnw).cells
    · exact Fr.trans (F := X) (g1.mono fun k e => (h6 k).2 (.inr (.inl (by injection e with e; exact e.symm)))) g fun k _ e => (h6 k).2 (.inl e)
  have hAX : ∀ a, A = some a → ¬ (a.block = n ∨ a.block = m ∨ lv.ownBlock = some a.block) := by
    rintro a rfl (e | e | e)
    · exact hnw a.block rfl e
    · exact hmw a.block rfl e
    · exact h5 _ e rfl
  have hX1 : ∀ k, (k = n ∨ k = m ∨ lv.ownBlock = some k) → X k := by
    rintro k (e | e | e)
    · exact (h6 k).2 (.inl e)
    · exact (h6 k).2 (.inr (.inl e))
    · exact (h6 k).2 (.inr (.inr (.inl e)))
  generalize hXe : (fun k => k = n ∨ k = m ∨ lv.ownBlock = some k) = X1 at hB
  have hAX' : ∀ a, A = some a → ¬ X1 a.block := by rw [← hXe]; exact hAX
  have hX1' : ∀ k, X1 k → X k := by rw [← hXe]; exact hX1
  have H := Lib.hid (And.intro hB (And.intro hAX' hX1'))
  clear hB hAX' hX1' hAX hX1 hXe h1 h2 h3 h4 h5 h6 k1 k2 k3 g1 m1 hcl hnl hnw hml hmw
  go_enter Try.func11, Try.ntmps11
  go_wp2_with fail
  clear x0 x1 x2 x3 x4 y0 y1 y2 y3 y4 c0 c1 c2 c3 c4 f0 f1 f2 f3 f4 hcl'
  refine wp_world (fun W => W = W1.setCell ⟨n, 1, none⟩ (.slice none 0 0)) rfl ?_
  intro W2 hW2
  obtain ⟨⟨hB, hA, hF⟩, hAX, hX1⟩ := H.out
  rw [← hW2] at hB hA hF
  clear hW2 H W1
  have hXlt := fun k hk => hB.lt (k := k) hk
  go_loopw [20] (fun iv wr => ∃ (i : Nat) (si : NetV), iv = .int .i64 i ∧ i ≤ s.w.length ∧ NetTo W2 X1 n wr si ∧ si.l.length ≤ 4096 ∧ si.lost ≤ s.lost + i ∧ Hid (s.heal = si.pushes (s.w.drop i))) (fun iv _ => s.w.length - (intOf iv).toNat)
  case atStart => exact ⟨0, { s with w := [], c := [] }, rfl, Nat.zero_le _, NetTo.refl hB, hl, by simp, rfl⟩
  case round =>
    clear hB
    obtain ⟨i, si, rfl, hi, ⟨X', h, hf, hX⟩, hl', hs', HS⟩ := hrel
    by_cases hlt : i < s.w.length
    · have hlt2 : (i : Int) < (s.w.length : Int) := by omega
      obtain ⟨p, hpi⟩ : ∃ p, s.w[i]? = some p := ⟨s.w[i], List.getElem?_eq_getElem hlt⟩
      have hA' : PkS _ A s.w := hA.fr hf hAX
      obtain ⟨sb, so, hAe, hc⟩ := hA'.2 i hlt
      simp only [hpi] at hc
      have a0 := hc 0 _ rfl
      have a1 := hc 1 _ rfl
      have a2 := hc 2 _ rfl
      simp only [Nat.add_zero] at a0
      have hdrop : s.w.drop i = p :: s.w.drop (i + 1) := by
        have := List.drop_eq_getElem_cons hlt
        rw [this]
        congr 1
        have e2 := List.getElem?_eq_getElem hlt
        rw [hpi] at e2
        exact (Option.some.inj e2).symm
      have HD := Lib.hid hdrop
      clear hdrop hc hA'
      subst hAe
      have HP := Lib.hid (fun ww (g : NetB ww n X' si) => push_any (p := p) g hl' (by omega))
      have HH := Lib.hid (And.intro h (And.intro hf hX))
      clear h hf hX
      go_wp2_with fail
      refine calls_world (fun W => NetB W n X' si ∧ Fr X1 W2 W) ⟨HH.out.1.new_ ((Fr.refl _ _).alloc _), HH.out.2.1.alloc _⟩ ?_
      clear a0 a1 a2
      rintro W3 ⟨h, hf⟩
      have hX := HH.out.2.2
      clear HH
      refine (HP.out _ h).mono ?_
      rintro e W4 ⟨rfl, hst⟩
      go_wp2_with fail
      have hle := si.push_le p hl'
      refine ⟨⟨i + 1, si.push p, by simp, by omega, NetTo.of hf hX hst, hle.1, by omega, ?_⟩, by simp [intOf]; omega⟩
      show _ = _
      rw [HS.out, HD.out]
      rfl
    · have hil : i = s.w.length := by omega
      subst hil
      have hS : s.heal = si := by rw [HS.out]; simp [NetV.pushes]
      have HN := Lib.hid (show NetTo w X n _ s.heal from hS ▸ NetTo.of hF (fun k hk => .inl (hX1 k hk)) ⟨X', h, hf, hX⟩)
      clear h hf hX hS HS
      go_wp2
      go_end0
      exact ⟨rfl, HN.out⟩
end Go.Proofs.Ytleagdnlgjpcgaa
