/- Whether any share shows its chunk, or why not, is what the document says. -/
import Derived.Test.YtjcpdpdhegcgoaaGreatDoorMkVerAny
import Derived.Test.YtjcpdpdhegcgoaaGreatDoorOpen
namespace Go.Proofs.YtjcpdpdhegcgoaaGreatDoor
open Go.RowKit
set_option linter.unusedVariables false
set_option linter.unusedSimpArgs false

theorem fr_setRow' (W : World) (g : Nat) (cs : Array Value) : Fr (fun k => k = g) W (W.setRow g cs) := ⟨rfl, rfl, rfl, by simp [World.setRow], fun k _ hk => setRow_other W g k cs hk⟩
set_option maxRecDepth 100000 in
set_option maxHeartbeats 4000000 in
theorem ref_share {D c : ByteArray} {z n i : Int} {P : Option Addr} {q cap : Nat} {p : List ByteArray} {w : World} (hl : SlT w P q p) (hqc : q ≤ cap) (hcm : cap ≤ maxLen) :
    Calls Tryz.prog 14 #[.agg #[.string D, .int .i64 z, .int .i64 n, .int .i64 i, .string c, .slice P q cap]] w fun e W => ∃ q2, e = .returned (.agg #[.string D, .int .i64 z, .int .i64 n, .int .i64 i, .string c, .slice P q2 cap]) ∧ SlT W P q2 (p.take 21) ∧ q2 ≤ 21 ∧ q2 ≤ cap ∧ New w W := by
  have hZ : Own ((w.alloc (.cells #[.string D, .int .i64 z, .int .i64 n, .int .i64 i, .string c, .slice P q cap] 27)).alloc (.cells #[.string ⟨#[]⟩, .int .i64 0, .int .i64 0, .int .i64 0, .string ⟨#[]⟩, .slice none 0 0] 34)) (w.heap.size + 1) 34 #[.string ⟨#[]⟩, .int .i64 0, .int .i64 0, .int .i64 0, .string ⟨#[]⟩, .slice none 0 0] := Own.new' (by simp)
  have hN : New w ((w.alloc (.cells #[.string D, .int .i64 z, .int .i64 n, .int .i64 i, .string c, .slice P q cap] 27)).alloc (.cells #[.string ⟨#[]⟩, .int .i64 0, .int .i64 0, .int .i64 0, .string ⟨#[]⟩, .slice none 0 0] 34)) := ((Fr.refl _ _).alloc _).alloc _
  have hql := hl.1
  have HL := Lib.hid hl
  have hqc' : (q : Int) ≤ (cap : Int) := by omega
  have hmx : cap ≤ 9223372036854775807 := hcm
  by_cases h21 : q ≤ 21
  · have h21' : ¬ (21 : Int) < (q : Int) := by omega
    have HT := Lib.hid (show p.take 21 = p from List.take_of_length_le (by omega))
    have HQ := Lib.hid h21
    clear hql hl h21 hcm
    go_enter Tryz.func14, Tryz.ntmps14
    go_wp2_with (refine wpList_store_row rfl _ (.tmp 2) (.tmp 22) rfl (w.heap.size + 1) #[.string D, .int .i64 z, .int .i64 n, .int .i64 i, .string c, .slice P q cap] rfl rfl _ _ hZ ?hi rfl ?h1 ?_)
    case hi => first | exact Option.map_eq_some_iff.1 (show Option.map (fun x => TypeInfo.size x) (Tryz.prog.info? 34) = some 6 by kernel_rfl) | kernel_rfl
    case h1 => simp [Value.oneCell']
    have o7 : Own (World.setRow _ (w.heap.size + 1) #[.string D, .int .i64 z, .int .i64 n, .int .i64 i, .string c, .slice P q cap]) (w.heap.size + 1) 34 #[.string D, .int .i64 z, .int .i64 n, .int .i64 i, .string c, .slice P q cap] := setRow_heap _ _ _ _ _ _ hZ
    have n7 := hN.trans (fr_setRow' _ (w.heap.size + 1) #[.string D, .int .i64 z, .int .i64 n, .int .i64 i, .string c, .slice P q cap]) (fun k hk e => by omega)
    clear hZ hN
    generalize World.setRow _ _ _ = W7 at o7 n7 ⊢
    obtain ⟨⟨x0, x1, x2, x3, x4, x5⟩, -⟩ := own6s o7
    clear o7
    have O7 := Lib.hid n7
    clear n7
    exact bodyPost_ret (v := .agg #[.string D, .int .i64 z, .int .i64 n, .int .i64 i, .string c, .slice P q cap]) (by simp [results, Tryz.results14, go_sem, *]) rfl ⟨q, rfl, (by rw [HT.out]; exact HL.out.new_ O7.out), HQ.out, hqc, O7.out⟩
  · have h21' : (21 : Int) < (q : Int) := by omega
    have h21c : (21 : Int) ≤ (cap : Int) := by omega
    have h21n : 21 ≤ cap := by omega
    obtain ⟨b, o, hA, -⟩ := hl.2.2 0 (by omega)
    subst hA
    have HT := Lib.hid (hl.take (k := 21) (by omega))
    have HQ := Lib.hid h21n
    clear hql hl h21 hcm
    go_enter Tryz.func14, Tryz.ntmps14
    go_wp2_with (refine wpList_store_row rfl _ (.tmp 2) (.tmp 22) rfl (w.heap.size + 1) #[.string D, .int .i64 z, .int .i64 n, .int .i64 i, .string c, .slice (some ⟨b, o, none⟩) 21 cap] rfl rfl _ _ hZ ?hi rfl ?h1 ?_)
    case hi => first | exact Option.map_eq_some_iff.1 (show Option.map (fun x => TypeInfo.size x) (Tryz.prog.info? 34) = some 6 by kernel_rfl) | kernel_rfl
    case h1 => simp [Value.oneCell']
    have o7 : Own (World.setRow _ (w.heap.size + 1) #[.string D, .int .i64 z, .int .i64 n, .int .i64 i, .string c, .slice (some ⟨b, o, none⟩) 21 cap]) (w.heap.size + 1) 34 #[.string D, .int .i64 z, .int .i64 n, .int .i64 i, .string c, .slice (some ⟨b, o, none⟩) 21 cap] := setRow_heap _ _ _ _ _ _ hZ
    have n7 := hN.trans (fr_setRow' _ (w.heap.size + 1) #[.string D, .int .i64 z, .int .i64 n, .int .i64 i, .string c, .slice (some ⟨b, o, none⟩) 21 cap]) (fun k hk e => by omega)
    clear hZ hN
    generalize World.setRow _ _ _ = W7 at o7 n7 ⊢
    obtain ⟨⟨x0, x1, x2, x3, x4, x5⟩, -⟩ := own6s o7
    clear o7
    have O7 := Lib.hid n7
    clear n7
    exact bodyPost_ret (v := .agg #[.string D, .int .i64 z, .int .i64 n, .int .i64 i, .string c, .slice (some ⟨b, o, none⟩) 21 cap]) (by simp [results, Tryz.results14, go_sem, *]) rfl ⟨21, rfl, HT.out.new_ O7.out, Nat.le_refl _, HQ.out, O7.out⟩
end Go.Proofs.YtjcpdpdhegcgoaaGreatDoor
