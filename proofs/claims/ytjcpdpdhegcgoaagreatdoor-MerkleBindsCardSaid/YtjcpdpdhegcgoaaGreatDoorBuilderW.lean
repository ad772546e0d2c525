/- Contracts of strings.Builder's WriteByte, WriteString, Len, String. -/
import Derived.Test.YtjcpdpdhegcgoaaGreatDoorBuilder
import Derived.Lib.UnsafeStr
namespace Go.Proofs.YtjcpdpdhegcgoaaGreatDoor
open Go.RowKit
set_option linter.unusedVariables false
set_option linter.unusedSimpArgs false

theorem ownBlock_some {w : World} {base : Nat} {e : TypeId} {size n : Nat} {v : Value} {xs : List Value} (h : w.ownsRow base e size v n xs) (k : Nat) (hk : v.ownBlock = some k) : k < w.heap.size := (h.lt k hk).2

set_option maxHeartbeats 2000000 in
set_option maxRecDepth 100000 in
theorem writeByte_any {T : TypeId} (hT : BT T) {b : Nat} {v : Value} {l : List UInt8} {w : World} (h : Bld T b v l w) (c : UInt8) (hlen : l.length + 1 ≤ 140737488355328) :
    Calls Tryz.prog 74 #[.pointer (some ⟨b, 0, none⟩), .int .u8 c.toNat] w fun e w' => e = .returned .nilIface ∧ BldStep T b v (l ++ [c]) w w' := by
  obtain ⟨i0, hi, hz0, hz1, hz2⟩ := info_parts info_u8
  have hne := h.ne hT
  obtain ⟨⟨p, hp, ho⟩, hown, hnil⟩ := h
  go_enter Tryz.func74, Tryz.ntmps74
  go_wp2_with (go_at_call 96; refine (copyCheck_any hT hp ho).mono ?_)
  rintro e w1 ⟨rfl, ho1, hf1⟩
  have hown1 : w1.ownsRow 0 5 1 v l.length (Lib.byteCells l) := hown.kept (row := some b) (grown_of_fr hf1 fun k hk => by rw [hk]) (.inr hne)
  obtain ⟨c0, c1, f0, f1⟩ := ho1.two
  go_wp2_with (at_builtin; refine wpList_append_own_at _ rfl _ _ 82 rfl 0 5 i0 (.int .u8 0) 1 1 Tryz.underlying82 hi hz0 hz1 hz2 rfl (by decide) _ _ _ rfl (hown1.alloc _) ⟨w1.heap.size, 0, none⟩ 1 1 [.int .u8 c.toNat] rfl rfl ?c1 ?c2 ?c3 ?c4 ?c5 ?_)
  case c1 => exact cell_one_new _ _ _
  case c2 => intro u hu; simp at hu; subst hu; rfl
  case c3 => unfold maxLen; omega
  case c4 => omega
  case c5 => omega
  intro v' w2 hown' hgrow _ hat
  have hlt := ho1.lt
  have f12 : Fr (fun k => v.ownBlock = some k) w1 w2 := by
    have f := fr_of_grown hgrow
    exact ⟨f.os, f.tape, f.output, by have := f.size; simp at this; omega, fun k hk hn => (f.block k (by simp; omega) hn).trans (Below.heap_alloc w1 _ k hk)⟩
  have ho2 := ho1.fr f12 hne
  obtain ⟨d0, d1, e0, e1⟩ := ho2.two
  obtain ⟨g, cap, rfl⟩ : ∃ g cap, v' = .slice (some ⟨g, 0, none⟩) (l.length + 1) cap := by
    rcases hown'.2 with ⟨_, h0⟩ | ⟨g, cap, cur, hv, _⟩
    · omega
    · exact ⟨g, cap, hv⟩
  have hsz := hf1.size
  clear c0 c1 f0 f1
  go_wp2
  go_ret
  have hown2 : w2.ownsRow 0 5 1 (.slice (some ⟨g, 0, none⟩) (l.length + 1) cap) (l ++ [c]).length (Lib.byteCells (l ++ [c])) := by
    simpa [Lib.byteCells] using hown'
  have hne2 := Lib.ownBlock_ne hown2 ho2 hT.ne
  refine ⟨rfl, .slice (some ⟨g, 0, none⟩) (l.length + 1) cap, ⟨⟨.pointer (some ⟨b, 0, none⟩), .inr rfl, ?_⟩, ?_, fun e => by simp at e⟩, ?_, ?_⟩
  · repeat (first | with_reducible assumption | with_reducible exact Own.fresh _ _ _ | (with_reducible apply Own.new'; simp; done) | with_reducible apply Own.drew | with_reducible apply Own.drewN | with_reducible apply Own.alloc | with_reducible apply Own.put | rfl | (with_reducible refine Own.far ?_ (by simp; omega) _) | (with_reducible refine Own.new_ ?_ (by assumption)))
  · exact hown2.kept (row := some b) ⟨rfl, rfl, rfl, by simp [World.setCell], fun k _ hk => Below.heap_setCell _ _ _ _ (fun e => hk (by simp [e]))⟩ (.inr hne2)
  · exact ((hf1.mono (fun i hi => .inl hi)).trans f12 (fun i _ hi => .inr hi)).set (fun _ => .inl rfl) _
  · rcases hat with e | e
    · exact .inl e
    · exact .inr ⟨_, e, by first | omega | (simp; omega)⟩

set_option maxHeartbeats 2000000 in
set_option maxRecDepth 100000 in
theorem writeString_any {T : TypeId} (hT : BT T) {b : Nat} {v : Value} {l : List UInt8} {w : World} (h : Bld T b v l w) (s : ByteArray) (hlen : l.length + s.size ≤ 140737488355328) :
    Calls Tryz.prog 75 #[.pointer (some ⟨b, 0, none⟩), .string s] w fun e w' => e = .returned (.tuple #[.int .i64 s.size, .nilIface]) ∧ BldStep T b v (l ++ s.data.toList) w w' := by
  obtain ⟨i0, hi, hz0, hz1, hz2⟩ := info_parts info_u8
  have hne := h.ne hT
  obtain ⟨⟨p, hp, ho⟩, hown, hnil⟩ := h
  go_enter Tryz.func75, Tryz.ntmps75
  go_wp2_with (go_at_call 96; refine (copyCheck_any hT hp ho).mono ?_)
  rintro e w1 ⟨rfl, ho1, hf1⟩
  have hown1 : w1.ownsRow 0 5 1 v l.length (Lib.byteCells l) := hown.kept (row := some b) (grown_of_fr hf1 fun k hk => by rw [hk]) (.inr hne)
  obtain ⟨c0, c1, f0, f1⟩ := ho1.two
  go_wp2_with (at_builtin; refine wpList_append_str_at rfl _ _ 82 9 rfl 0 5 i0 Tryz.underlying82 Tryz.underlying9 hi hz0 hz1 hz2 _ _ _ rfl hown1 s rfl ?c3 ?c4 ?c5 ?_)
  case c3 => unfold maxLen; omega
  case c4 => omega
  case c5 => omega
  intro v' w2 hown' hgrow hn hat
  have hlt := ho1.lt
  have f12 : Fr (fun k => v.ownBlock = some k) w1 w2 := fr_of_grown hgrow
  have ho2 := ho1.fr f12 hne
  obtain ⟨d0, d1, e0, e1⟩ := ho2.two
  have hsz := hf1.size
  obtain ⟨ao, n', cap, hv'⟩ : ∃ ao n' cap, v' = .slice ao n' cap := by
    rcases hown'.2 with ⟨hv, _⟩ | ⟨g, cap, cur, hv, _⟩
    · exact ⟨_, _, _, hv⟩
    · exact ⟨_, _, _, hv⟩
  have hown2 : w2.ownsRow 0 5 1 v' (l ++ s.data.toList).length (Lib.byteCells (l ++ s.data.toList)) := by
    have e : (l ++ s.data.toList).length = l.length + s.size := by simp
    rw [e]
    simpa [Lib.byteCells, Lib.strCells] using hown'
  have hne2 := Lib.ownBlock_ne hown2 ho2 hT.ne
  have hnil2 : l ++ s.data.toList = [] → v' = .slice none 0 0 := fun e => by
    obtain ⟨e1, e2⟩ := List.append_eq_nil_iff.1 e
    refine hn.2 ⟨hnil e1, ?_⟩
    have := congrArg List.length e2
    simpa using this
  have HN := Lib.hid hn
  have HA := Lib.hid hat
  have HO := Lib.hid hown2
  have HL := Lib.hid hnil2
  clear c0 c1 f0 f1 hn hat hown2 hnil2 hown' hnil
  subst hv'
  go_wp2
  go_ret2
  refine ⟨rfl, .slice ao n' cap, ⟨⟨.pointer (some ⟨b, 0, none⟩), .inr rfl, ?_⟩, ?_, HL.out⟩, ?_, ?_⟩
  · repeat (first | with_reducible assumption | with_reducible exact Own.fresh _ _ _ | (with_reducible apply Own.new'; simp; done) | with_reducible apply Own.drew | with_reducible apply Own.drewN | with_reducible apply Own.alloc | with_reducible apply Own.put | rfl | (with_reducible refine Own.far ?_ (by simp; omega) _) | (with_reducible refine Own.new_ ?_ (by assumption)))
  · exact HO.out.kept (row := some b) ⟨rfl, rfl, rfl, by simp [World.setCell], fun k _ hk => Below.heap_setCell _ _ _ _ (fun e => hk (by simp [e]))⟩ (.inr hne2)
  · exact ((hf1.mono (fun i hi => .inl hi)).trans f12 (fun i _ hi => .inr hi)).set (fun _ => .inl rfl) _
  · rcases HA.out with e | e
    · exact .inl e
    · exact .inr ⟨_, e, by omega⟩

/-- A builder that is read: the bytes l lie in its buffer v. -/
def BldR (T : TypeId) (b : Nat) (v : Value) (l : List UInt8) (w : World) : Prop :=
  (∃ p, Own w b T #[p, v]) ∧ w.ownsRowF 0 5 1 v l.length (Lib.byteCells l) ∧ (l = [] → v = .slice none 0 0)
theorem Bld.reads {T : TypeId} {b : Nat} {v : Value} {l : List UInt8} {w : World} (h : Bld T b v l w) : BldR T b v l w := by
  obtain ⟨⟨p, _, ho⟩, hown, hn⟩ := h
  exact ⟨⟨p, ho⟩, World.ownsRowF_of hown, hn⟩
theorem BldR.fr {T : TypeId} {b : Nat} {v : Value} {l : List UInt8} {F : Nat → Prop} {w w' : World} (h : BldR T b v l w) (f : Fr F w w') (hb : ¬ F b) (hv : ∀ k, v.ownBlock = some k → ¬ F k) : BldR T b v l w' := by
  obtain ⟨⟨p, ho⟩, hown, hn⟩ := h
  refine ⟨⟨p, ho.fr f hb⟩, ?_, hn⟩
  rcases hown.2 with ⟨e, h0⟩ | ⟨g, cap, cur, fz, e, hB, hg, r⟩
  · exact ⟨hown.1, .inl ⟨e, h0⟩⟩
  · subst e
    exact ⟨hown.1, .inr ⟨g, cap, cur, fz, rfl, hB, (f.block g (lt_of_block hg) (hv g rfl)).trans hg, r⟩⟩
theorem BldR.new_ {T : TypeId} {b : Nat} {v : Value} {l : List UInt8} {w w' : World} (h : BldR T b v l w) (f : New w w') : BldR T b v l w' := h.fr f (fun g => g) (fun _ _ g => g)

set_option maxHeartbeats 1000000 in
theorem bldLen_any {T : TypeId} {b : Nat} {v : Value} {l : List UInt8} {w : World} (h : BldR T b v l w) :
    Calls Tryz.prog 106 #[.pointer (some ⟨b, 0, none⟩)] w fun e w' => e = .returned (.int .i64 l.length) ∧ w = w' := by
  obtain ⟨⟨p, ho⟩, hown, _⟩ := h
  obtain ⟨ao, cap, rfl⟩ : ∃ ao cap, v = .slice ao l.length cap := by
    rcases hown.2 with ⟨hv, h0⟩ | ⟨g, cap, cur, fz, hv, _⟩
    · exact ⟨none, 0, by rw [hv, h0]⟩
    · exact ⟨_, _, hv⟩
  obtain ⟨c0, c1, f0, f1⟩ := ho.two
  clear hown
  go_enter Tryz.func106, Tryz.ntmps106
  go_wp2
  go_ret
  exact ⟨rfl, rfl⟩

set_option maxHeartbeats 1000000 in
set_option maxRecDepth 100000 in
theorem bldString_any {T : TypeId} (hT : BT T) {b : Nat} {v : Value} {l : List UInt8} {w : World} (h : BldR T b v l w) :
    Calls Tryz.prog 60 #[.pointer (some ⟨b, 0, none⟩)] w fun e w' => e = .returned (.string ⟨l.toArray⟩) ∧ BldR T b v l w' ∧ Fr (fun k => v.ownBlock = some k) w w' := by
  obtain ⟨⟨p, ho⟩, hown, hn⟩ := h
  by_cases h0 : l = []
  · subst h0
    obtain rfl := hn rfl
    obtain ⟨c0, c1, f0, f1⟩ := (Own.drew ho).two
    have hSD : (Builtin.unsafeSliceData_ #[82] 114 #[.slice none 0 0]).run Tryz.prog w.drew = .ok (.pointer none) w.drew := rfl
    have hUS : (Builtin.unsafeString_ #[114, 3] 9 #[.pointer none, .int .i64 0]).run Tryz.prog w.drew = .ok (.string .empty) w.drew :=
      Lib.run_unsafeString_none w.drew _ _ _ none
    go_enter Tryz.func60, Tryz.ntmps60
    go_wp2
    go_region
    all_goals
      go_wp2
      go_ret
      refine ⟨rfl, ⟨⟨p, ho⟩, ?_, fun _ => rfl⟩, (Fr.refl _ _).drew⟩
      exact World.ownsRowF_nil _ _ _ _
  · have hl0 : l.length ≠ 0 := by simpa using h0
    obtain ⟨g, cap, cur, fz, rfl, hbg, hg, hfz, hnc, hcm, hcs, htake⟩ : ∃ g cap cur fz, v = .slice (some ⟨g, 0, none⟩) l.length cap ∧ 0 ≤ g ∧ w.heap[g]? = some (.cells cur 5 fz) ∧ fz.2 ≤ l.length * 1 ∧ l.length ≤ cap ∧ cap ≤ maxLen ∧ cur.size = cap * 1 ∧ cur.toList.take (l.length * 1) = Lib.byteCells l := by
      rcases hown.2 with ⟨_, hz⟩ | ⟨g, cap, cur, fz, hv, r⟩
      · exact absurd hz hl0
      · exact ⟨g, cap, cur, fz, hv, r⟩
    obtain ⟨c0, c1, f0, f1⟩ := (Own.drew ho).two
    have hSD : (Builtin.unsafeSliceData_ #[82] 114 #[.slice (some ⟨g, 0, none⟩) l.length cap]).run Tryz.prog w.drew = .ok (.pointer (some ⟨g, 0, none⟩)) w.drew :=
      Lib.run_unsafeSliceData_row _ _ _ _ _ _ (by omega)
    have hUS : (Builtin.unsafeString_ #[114, 3] 9 #[.pointer (some ⟨g, 0, none⟩), .int .i64 l.length]).run Tryz.prog w.drew = .ok (.string ⟨l.toArray⟩) (w.drew.freeze ⟨g, 0, none⟩ l.length) := by
      refine Lib.run_unsafeString_row w.drew 114 3 9 5 Tryz.underlying114 (by kernel_rfl) g cur.size (by have hg' : w.drew.heap[g]? = some (.cells cur 5 fz) := hg; simp [World.shape?, hg']) l h0 (by omega) (by unfold maxLen at hcm; omega) ?_
      intro j x hx
      have := hown.cells (g := g) rfl j (.int .u8 x.toNat) (by simp [Lib.byteCells, hx])
      exact this
    have hne : g ≠ b := fun e => by
      have := Lib.ownBlock_neF hown ho hT.ne
      exact this (by simp [Value.ownBlock, e])
    have hkeep : BldR T b (.slice (some ⟨g, 0, none⟩) l.length cap) l (w.drew.freeze ⟨g, 0, none⟩ l.length) := by
      have hA : Lib.BuilderAtF T 5 0 b p (Lib.byteCells l) w.drew := ⟨Nat.zero_le _, _, ho, by rw [Lib.byteCells_length]; exact hown, by simpa [Value.ownBlock] using hne⟩
      have hF := hA.froze (g := g) (cap := cap) (by rw [Lib.byteCells_length]; exact c1)
      rw [Lib.byteCells_length] at hF
      obtain ⟨_, v2, hb2, hown2, hne2⟩ := hF
      have e2 : v2 = .slice (some ⟨g, 0, none⟩) l.length cap := by
        have e : (w.drew.freeze ⟨g, 0, none⟩ l.length).heap[b]? = w.heap[b]? := by
          unfold World.freeze
          split
          · rfl
          · simp only [Array.getElem?_modify]
            rw [if_neg hne]
            rfl
        rw [e] at hb2
        have hb3 := hb2.symm.trans ho
        simp at hb3
        exact hb3
      subst e2
      rw [Lib.byteCells_length] at hown2
      exact ⟨⟨p, hb2⟩, hown2, fun e => absurd e h0⟩
    have hfr : Fr (fun k => (Value.slice (some ⟨g, 0, none⟩) l.length cap).ownBlock = some k) w (w.drew.freeze ⟨g, 0, none⟩ l.length) := by
      unfold World.freeze
      split
      · exact (Fr.refl _ _).drew
      · exact ⟨rfl, rfl, rfl, by simp, fun k hk hn => by
          simp only [Array.getElem?_modify]
          rw [if_neg (by intro e; exact hn (by simp [Value.ownBlock, e]))]
          rfl⟩
    clear hown htake hcs hnc hcm hfz
    go_enter Tryz.func60, Tryz.ntmps60
    go_wp2
    go_region
    all_goals
      go_wp2
      go_ret
      exact ⟨rfl, hkeep, hfr⟩
end Go.Proofs.YtjcpdpdhegcgoaaGreatDoor
