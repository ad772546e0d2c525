/- The tag of any text under any key is the document's. -/
import Derived.Test.YtceopjolkapijaaMacRefTag
namespace Go.Proofs.Ytceopjolkapijaa
open Go.RowKit
set_option linter.unusedVariables false

set_option maxRecDepth 100000 in
set_option maxHeartbeats 2000000 in
theorem macOf_walk (k : ByteArray) (hk : k.size ≤ 140737488351232) (s : ByteArray) (hs : s.size ≤ 140737488351232) (w : World) :
    Calls Try.prog 7 #[.string k, .string s] w fun e w' => e = .returned (.bool true) ∧ New w w' := by
  have fk := few02_size k
  have fs := few02_size s
  have HK := Lib.hid (fun w => few02_any k (by omega) w)
  have HS := Lib.hid (fun w => few02_any s (by omega) w)
  obtain ⟨a, ha⟩ : ∃ t, few02 k = t := ⟨_, rfl⟩
  obtain ⟨b, hb⟩ : ∃ t, few02 s = t := ⟨_, rfl⟩
  rw [ha] at fk HK
  rw [hb] at fs HS
  clear ha hb
  have H1 := Lib.hid (fun w => of_any a b (by omega) (by omega) w)
  have H2 := Lib.hid (fun w => refTag_any a b (by omega) (by omega) w)
  obtain ⟨m, hm⟩ : ∃ m, macB a b = m := ⟨_, rfl⟩
  rw [hm] at H1 H2
  clear hm
  go_enter Try.func7, Try.ntmps7
  go_wp2_with fail
  refine (awake02_any _).mono ?_
  rintro e w1 ⟨rfl, g1⟩
  go_wp2_with fail
  refine (HK.out _).mono ?_
  rintro e w2 ⟨rfl, rfl⟩
  go_wp2_with fail
  refine (HS.out _).mono ?_
  rintro e w2 ⟨rfl, rfl⟩
  go_wp2_with fail
  refine (H1.out _).mono ?_
  rintro e w2 ⟨rfl, g2⟩
  go_wp2_with fail
  refine (HK.out _).mono ?_
  rintro e w3 ⟨rfl, rfl⟩
  go_wp2_with fail
  refine (HS.out _).mono ?_
  rintro e w3 ⟨rfl, rfl⟩
  go_wp2_with fail
  refine (H2.out _).mono ?_
  rintro e w3 ⟨rfl, g3⟩
  go_wp2
  go_ret
  exact ⟨rfl, (g1.new_ g2).new_ g3⟩
end Go.Proofs.Ytceopjolkapijaa
