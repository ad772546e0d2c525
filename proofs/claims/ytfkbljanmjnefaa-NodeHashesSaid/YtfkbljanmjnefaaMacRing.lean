/- A ring of keys: NewRing, Len, Key, Tag. -/
import Derived.Test.YtfkbljanmjnefaaMacKeyed
import Derived.Test.YtfkbljanmjnefaaSplit
namespace Go.Proofs.Ytfkbljanmjnefaa
open Go.RowKit
set_option linter.unusedVariables false

/-- The key of a number. -/
def twoV (s : ByteArray) (i : Nat) : Nat → ByteArray := fun j => if j = 0 then s else ⟨#[UInt8.ofNat i]⟩
def ringKey (s : ByteArray) (i : Nat) : ByteArray := shaB (partsV 82 2 (twoV s i))
/-- The row of keys when so many are made. -/
def keyRow (s : ByteArray) (n i : Nat) : Array Value := ((List.range i).map (fun j => Value.string (ringKey s j)) ++ List.replicate (n - i) (Value.string ⟨#[]⟩)).toArray
theorem keyRow_zero (s : ByteArray) (n : Nat) : keyRow s n 0 = Array.replicate n (.string ⟨#[]⟩) := by
  unfold keyRow
  simp
theorem keyRow_size (s : ByteArray) (n i : Nat) (h : i ≤ n) : (keyRow s n i).size = n := by
  simp [keyRow]
  omega
theorem keyRow_set (s : ByteArray) (n i : Nat) (h : i < n) : (keyRow s n i).setIfInBounds i (.string (ringKey s i)) = keyRow s n (i + 1) := by
  unfold keyRow
  rw [List.setIfInBounds_toArray]
  congr 1
  rw [List.set_append_right _ _ (by simp), List.range_succ, List.map_append, show n - i = (n - (i + 1)) + 1 by omega, List.replicate_succ]
  simp
theorem keyRow_get (s : ByteArray) (n i : Nat) (h : i < n) : (keyRow s n n)[i]? = some (.string (ringKey s i)) := by
  unfold keyRow
  simp [h]
theorem sl_two {W : World} {b : Nat} {s : ByteArray} {i : Nat} (h : Own W b 9 #[.string s, .string ⟨#[UInt8.ofNat i]⟩]) : Sl W 1 (some ⟨b, 0, none⟩) 2 fun j => [.string (twoV s i j)] := by
  refine ⟨by simp [maxLen], fun k hk => ⟨b, 0, rfl, fun j u hu => ?_⟩⟩
  have hj : j = 0 := by
    rcases j with _ | j
    · rfl
    · simp at hu
  subst hj
  have hu' : u = .string (twoV s i k) := by simpa using hu.symm
  subst hu'
  rw [show 0 + k * 1 + 0 = k by omega, h.cell k]
  have : k = 0 ∨ k = 1 := by omega
  rcases this with rfl | rfl <;> rfl
theorem tagged2_any {W : World} {b : Nat} (s : ByteArray) (i : Nat) (hs : s.size ≤ 100000) (h : Own W b 9 #[.string s, .string ⟨#[UInt8.ofNat i]⟩]) :
    Calls Try.prog 13 #[.int .u8 82, .slice (some ⟨b, 0, none⟩) 2 2] W fun e w' => e = .returned (.string (ringKey s i)) ∧ New W w' :=
  tagged_any 82 _ 2 2 (twoV s i) W (sl_two h) (by omega) (fun j _ => by
    unfold twoV
    split
    · exact hs
    · show (1 : Nat) ≤ 100000
      omega)
theorem alloc_size (v : World) (o : Obj) : (v.alloc o).heap.size = v.heap.size + 1 := Array.size_push _
theorem make_texts (w : World) (k : Nat) (hk : k ≤ 1000) :
    (Instr.makeSlice 23 (.int .i64 (k : Int)) (.int .i64 (k : Int))).run Try.prog w = .ok (.slice (some ⟨w.heap.size, 0, none⟩) k k) (w.alloc (.cells (Array.replicate k (.string ⟨#[]⟩)) 9)) := by
  have info : (Try.prog.info? 9).map (fun i => (i.zero, i.size, i.bytes)) = some (some (.string ⟨#[]⟩), 1, 16) := by kernel_rfl
  obtain ⟨i, hi, hv⟩ := Option.map_eq_some_iff.1 info
  have h1 : i.zero = some (.string ⟨#[]⟩) := congrArg Prod.fst hv
  have h2 : i.size = 1 := congrArg (fun x => x.2.1) hv
  have h3 : i.bytes = 16 := congrArg (fun x => x.2.2) hv
  have hr := run_makeSlice (P := Try.prog) (w := w) 23 9 i _ Try.underlying23 hi h1 .i64 .i64 k k (by omega) (by omega) (by rw [h2]; omega) (by rw [h3]; omega) (by omega)
  rw [hr]
  have e : madeCells (Value.string ⟨#[]⟩).cells ((k : Int).toNat * i.size) = Array.replicate k (.string ⟨#[]⟩) := by
    rw [h2]
    apply Array.ext
    · simp [madeCells]
    · intro j h1 h2
      simp [madeCells, Value.cells, Nat.mod_one]
  rw [e]
  rfl
set_option maxRecDepth 100000 in
set_option maxHeartbeats 2000000 in
theorem newRing_any (s : ByteArray) (hs : s.size ≤ 100000) (n : Nat) (hn : n ≤ 16) (w : World) :
    Calls Try.prog 64 #[.string s, .int .i64 n] w fun e w' => e = .returned (.tuple #[.pointer (some ⟨w.heap.size + 1, 0, none⟩), .int .i64 0]) ∧ Own w' (w.heap.size + 1) 118 #[.slice (some ⟨w.heap.size, 0, none⟩) n n] ∧ Own w' w.heap.size 9 (keyRow s n n) ∧ New w w' := by
  have hn2 : (n : Int) ≤ 16 := by omega
  have hm := fun w => make_texts w n (by omega)
  go_enter Try.func64, Try.ntmps64
  go_wp2_with fail
  go_loopw [23] (fun iv wr => ∃ i : Nat, i ≤ n ∧ iv = .int .i64 i ∧ Own wr (w.heap.size + 1) 118 #[.slice (some ⟨w.heap.size, 0, none⟩) n n] ∧ Own wr w.heap.size 9 (keyRow s n i) ∧ New w wr) (fun iv _ => n - (intOf iv).toNat)
  case atStart =>
    refine ⟨0, by omega, rfl, ?_, ?_, ?_⟩
    · repeat (first | with_reducible assumption | with_reducible exact Own.fresh _ _ _ | (with_reducible apply Own.new'; simp; done) | with_reducible apply Own.drew | with_reducible apply Own.drewN | with_reducible apply Own.alloc | with_reducible apply Own.put | ((with_reducible apply Own.off); (focus (first | (simp; done) | (simp; omega) | omega))) | (with_reducible refine Own.new_ ?_ (by with_reducible assumption)) | rfl | (refine Own.fr ?_ (by with_reducible assumption) (by show ¬ (_ = _); omega)))
    · rw [keyRow_zero]; repeat (first | with_reducible assumption | with_reducible exact Own.fresh _ _ _ | (with_reducible apply Own.new'; simp; done) | with_reducible apply Own.drew | with_reducible apply Own.drewN | with_reducible apply Own.alloc | with_reducible apply Own.put | ((with_reducible apply Own.off); (focus (first | (simp; done) | (simp; omega) | omega))) | (with_reducible refine Own.new_ ?_ (by with_reducible assumption)) | rfl | (refine Own.fr ?_ (by with_reducible assumption) (by show ¬ (_ = _); omega)))
    · repeat (first | with_reducible exact Fr.refl _ _ | with_reducible assumption | with_reducible refine Fr.drew ?_ | with_reducible refine Fr.drewN ?_ _ | with_reducible refine Fr.alloc ?_ _ | with_reducible refine Fr.set ?_ (by first | exact fun _ => rfl | (intro hlt; exfalso; simp at hlt; try omega) | (simp; omega)) _ | with_reducible refine Fr.new_ ?_ (by with_reducible assumption) | (with_reducible refine Fr.trans ?_ (by with_reducible assumption) (fun i hi e => by (first | omega | (simp at e; omega)))))
  case round =>
    obtain ⟨i, hi, rfl, oR, oK, nw⟩ := hrel
    by_cases hlt : i < n
    · have hlt2 : (i : Int) < (n : Int) := by omega
      have hi256 : (i : Int) < 256 := by omega
      have hw8 : IntKind.u8.wrap (i : Int) = (i : Int) := by rw [IntKind.wrap_u8]; omega
      obtain ⟨r0, r1⟩ := oR.one
      obtain ⟨c0, hc0⟩ : ∃ c, wr.cell? ⟨w.heap.size, i, none⟩ = some c := by
        rw [oK.cell i]
        exact ⟨_, Array.getElem?_eq_getElem (by rw [keyRow_size _ _ _ hi]; exact hlt)⟩
      have hf := oK.free i
      have hu8 : ((UInt8.ofNat i).toNat : Int) = (i : Int) := by simp; omega
      have hcv := conv_own (p := UInt8.ofNat i) (Own.drew (Own.fresh wr 5 #[.int .u8 (UInt8.ofNat i).toNat]))
      rw [hu8] at hcv
      go_wp2_with fail
      have hsz := alloc_size
      have l1 := oR.lt
      have l2 := oK.lt
      go_region_with (go_at_call 13; refine Calls.mono (tagged2_any s i hs ?_) ?_; (focus (exact Own.drew (Own.new' (hsz _ _)))); rintro e v1 ⟨rfl, g1⟩; have oR1 : Own v1 (w.heap.size + 1) 118 #[.slice (some ⟨w.heap.size, 0, none⟩) n n] := (by repeat (first | with_reducible assumption | with_reducible exact Own.fresh _ _ _ | (with_reducible apply Own.new'; simp; done) | with_reducible apply Own.drew | with_reducible apply Own.drewN | with_reducible apply Own.alloc | with_reducible apply Own.put | ((with_reducible apply Own.off); (focus (first | (simp; done) | (simp; omega) | omega))) | (with_reducible refine Own.new_ ?_ (by with_reducible assumption)) | rfl | (refine Own.fr ?_ (by with_reducible assumption) (by show ¬ (_ = _); omega)))); have oK1 : Own v1 w.heap.size 9 (keyRow s n i) := (by repeat (first | with_reducible assumption | with_reducible exact Own.fresh _ _ _ | (with_reducible apply Own.new'; simp; done) | with_reducible apply Own.drew | with_reducible apply Own.drewN | with_reducible apply Own.alloc | with_reducible apply Own.put | ((with_reducible apply Own.off); (focus (first | (simp; done) | (simp; omega) | omega))) | (with_reducible refine Own.new_ ?_ (by with_reducible assumption)) | rfl | (refine Own.fr ?_ (by with_reducible assumption) (by show ¬ (_ = _); omega)))); obtain ⟨s0, s1⟩ := oR1.one; have ⟨c1, t0⟩ : ∃ c, v1.cell? ⟨w.heap.size, i, none⟩ = some c := (by rw [oK1.cell i]; exact ⟨_, Array.getElem?_eq_getElem (by rw [keyRow_size _ _ _ hi]; exact hlt)⟩); have t1 := oK1.free i)
      all_goals go_wp2_with fail
      all_goals exact ⟨⟨i + 1, by omega, by go_num, by repeat (first | with_reducible assumption | with_reducible exact Own.fresh _ _ _ | (with_reducible apply Own.new'; simp; done) | with_reducible apply Own.drew | with_reducible apply Own.drewN | with_reducible apply Own.alloc | with_reducible apply Own.put | ((with_reducible apply Own.off); (focus (first | (simp; done) | (simp; omega) | omega))) | (with_reducible refine Own.new_ ?_ (by with_reducible assumption)) | rfl | (refine Own.fr ?_ (by with_reducible assumption) (by show ¬ (_ = _); omega))), oK1.put (keyRow_set s n i hlt), by repeat (first | with_reducible exact Fr.refl _ _ | with_reducible assumption | with_reducible refine Fr.drew ?_ | with_reducible refine Fr.drewN ?_ _ | with_reducible refine Fr.alloc ?_ _ | with_reducible refine Fr.set ?_ (by first | exact fun _ => rfl | (intro hlt; exfalso; simp at hlt; try omega) | (simp; omega)) _ | with_reducible refine Fr.new_ ?_ (by with_reducible assumption) | (with_reducible refine Fr.trans ?_ (by with_reducible assumption) (fun i hi e => by (first | omega | (simp at e; omega)))))⟩, by simp [intOf]; omega⟩
    · obtain rfl : i = n := by omega
      have hlt2 : ¬ (i : Int) < (i : Int) := by omega
      go_wp2
      go_ret2
      exact ⟨rfl, oR, oK, nw⟩

/-- A ring in memory: so many keys of a seed. -/
def RingO (W : World) (b b2 : Nat) (s : ByteArray) (n : Nat) : Prop := Own W b 118 #[.slice (some ⟨b2, 0, none⟩) n n] ∧ Own W b2 9 (keyRow s n n)
theorem RingO.new_ {W W' : World} {b b2 : Nat} {s : ByteArray} {n : Nat} (h : RingO W b b2 s n) (g : New W W') : RingO W' b b2 s n := ⟨h.1.new_ g, h.2.new_ g⟩
theorem len_any {W : World} {b b2 : Nat} {s : ByteArray} {n : Nat} (h : RingO W b b2 s n) :
    Calls Try.prog 90 #[.pointer (some ⟨b, 0, none⟩)] W fun e w' => e = .returned (.int .i64 n) ∧ w' = W := by
  obtain ⟨r0, r1⟩ := h.1.one
  go_enter Try.func90, Try.ntmps90
  go_wp2
  go_ret
  exact ⟨rfl, rfl⟩
theorem len_nil (W : World) : Calls Try.prog 90 #[.pointer none] W fun e w' => e = .returned (.int .i64 0) ∧ w' = W := by
  go_enter Try.func90, Try.ntmps90
  go_wp2
  go_ret
  exact ⟨rfl, rfl⟩
theorem key_no {W : World} {b b2 : Nat} {s : ByteArray} {n : Nat} (h : RingO W b b2 s n) (i : Int) (hi : i < 0 ∨ (n : Int) ≤ i) :
    Calls Try.prog 76 #[.pointer (some ⟨b, 0, none⟩), .int .i64 i] W fun e w' => e = .returned (.tuple #[.string ⟨#[]⟩, .bool false]) ∧ w' = W := by
  have HL := Lib.hid (len_any h)
  rcases (by omega : i < 0 ∨ ¬ i < 0 ∧ (n : Int) ≤ i) with h0 | ⟨h0, h1⟩
  · go_enter Try.func76, Try.ntmps76
    go_wp2_with fail
    go_wp2
    go_ret2
    exact ⟨rfl, rfl⟩
  · go_enter Try.func76, Try.ntmps76
    go_wp2_with fail
    refine HL.out.mono ?_
    rintro e w1 ⟨rfl, rfl⟩
    go_wp2
    go_ret2
    exact ⟨rfl, rfl⟩
theorem key_is {W : World} {b b2 : Nat} {s : ByteArray} {n : Nat} (h : RingO W b b2 s n) (i : Nat) (hi : i < n) :
    Calls Try.prog 76 #[.pointer (some ⟨b, 0, none⟩), .int .i64 i] W fun e w' => e = .returned (.tuple #[.string (ringKey s i), .bool true]) ∧ w' = W := by
  have HL := Lib.hid (len_any h)
  obtain ⟨r0, r1⟩ := h.1.one
  have hc := h.2.cell i
  rw [keyRow_get s n i hi] at hc
  have hi2 : ¬ (n : Int) ≤ (i : Int) := by omega
  have hi3 : (i : Int) < (n : Int) := by omega
  go_enter Try.func76, Try.ntmps76
  go_wp2_with fail
  refine HL.out.mono ?_
  rintro e w1 ⟨rfl, rfl⟩
  go_wp2
  go_ret2
  exact ⟨rfl, rfl⟩
theorem tag_no {W : World} {b b2 : Nat} {s : ByteArray} {n : Nat} (h : RingO W b b2 s n) (i : Int) (t : ByteArray) (hi : i < 0 ∨ (n : Int) ≤ i) :
    Calls Try.prog 63 #[.pointer (some ⟨b, 0, none⟩), .int .i64 i, .string t] W fun e w' => e = .returned (.tuple #[.string ⟨#[]⟩, .int .i64 2]) ∧ w' = W := by
  have HL := Lib.hid (key_no h i hi)
  go_enter Try.func63, Try.ntmps63
  go_wp2_with fail
  refine HL.out.mono ?_
  rintro e w1 ⟨rfl, rfl⟩
  go_wp2
  go_ret2
  exact ⟨rfl, rfl⟩
theorem ringKey_size (s : ByteArray) (i : Nat) : (ringKey s i).size = 32 := shaB_size _
theorem macB_size (k s : ByteArray) : (macB k s).size = 32 := shaB_size _
theorem tag_is {W : World} {b b2 : Nat} {s : ByteArray} {n : Nat} (h : RingO W b b2 s n) (i : Nat) (t : ByteArray) (ht : t.size ≤ 1000000) (hi : i < n) :
    Calls Try.prog 63 #[.pointer (some ⟨b, 0, none⟩), .int .i64 i, .string t] W fun e w' => e = .returned (.tuple #[.string (macB (ringKey s i) t), .int .i64 0]) ∧ New W w' := by
  have HL := Lib.hid (key_is h i hi)
  have hz := ringKey_size s i
  obtain ⟨k, hk⟩ : ∃ k, ringKey s i = k := ⟨_, rfl⟩
  rw [hk] at HL hz
  rw [hk]
  have HO := Lib.hid (fun w => of_any k t (by omega) (by omega) w)
  clear hk
  go_enter Try.func63, Try.ntmps63
  go_wp2_with fail
  refine HL.out.mono ?_
  rintro e w1 ⟨rfl, rfl⟩
  go_wp2_with fail
  refine (HO.out _).mono ?_
  rintro e w1 ⟨rfl, g1⟩
  go_wp2
  go_ret2
  exact ⟨rfl, g1⟩
end Go.Proofs.Ytfkbljanmjnefaa
