/- WireA: several texts as one. -/
import Derived.Test.YtjcpdpdhegcgoaaGreatDoorWireFnv
import Derived.ChangeAlike
import Derived.Lib.IndexBytes
import Derived.Lib.ConvBytes
/- Readers: what each call takes, as a function on (bytes, place, error); the plain readers of both programs: Fail, Err, At, Left, Bytes. -/
namespace Go.Proofs.YtjcpdpdhegcgoaaGreatDoor
open Go.RowKit
set_option linter.unusedVariables false

/-- A reader: its bytes, how many were taken, its error. -/
structure Rd where
  s : ByteArray
  pos : Int
  err : Int
/-- It stands in its bytes. -/
def Rd.ok (r : Rd) : Prop := r.s.size ≤ 9223372036854775807 ∧ 0 ≤ r.pos ∧ r.pos ≤ r.s.size
def OwnR (w : World) (b : Nat) (r : Rd) : Prop := Own w b 91 #[.string r.s, .int .i64 r.pos, .int .i64 r.err]
/-- The reference's reader, a value. -/
abbrev Rd.val (r : Rd) : Value := .agg #[.string r.s, .int .i64 r.pos, .int .i64 r.err]
def Rd.withErr (r : Rd) (e : Int) : Rd := ⟨r.s, r.pos, e⟩
def rBytes (r : Rd) (n : Int) : Rd × ByteArray :=
  if r.err = 0 then
    if n < 0 then (r.withErr 1, .empty)
    else if r.s.size - r.pos < n then (r.withErr 4, .empty)
    else (⟨r.s, r.pos + n, 0⟩, r.s.extract r.pos.toNat (r.pos + n).toNat)
  else (r, .empty)
theorem rBytes_ok {r : Rd} (h : r.ok) (n : Int) : (rBytes r n).1.ok := by
  unfold rBytes
  split
  · split
    · exact h
    · split
      · exact h
      · obtain ⟨h0, h1, h2⟩ := h
        refine ⟨h0, ?_, ?_⟩ <;> simp only <;> omega
  · exact h

theorem newReader_any (s : ByteArray) (w : World) : Calls Tryz.prog 27 #[.string s] w fun e w' => e = .returned (.pointer (some ⟨w.heap.size, 0, none⟩)) ∧ w' = w.alloc (.cells #[.string s, .int .i64 0, .int .i64 0] 91) := by
  go_enter Tryz.func27, Tryz.ntmps27
  go_wp2
  go_ret
  exact ⟨rfl, rfl⟩
theorem OwnR.fresh (s : ByteArray) (w : World) : OwnR (w.alloc (.cells #[.string s, .int .i64 0, .int .i64 0] 91)) w.heap.size ⟨s, 0, 0⟩ := Own.fresh _ _ _

def rFail (r : Rd) (e : Int) : Rd := if r.err = 0 then r.withErr e else r
theorem fail_any {b : Nat} {r : Rd} {w : World} (h : OwnR w b r) (e : Int) :
    Calls Tryz.prog 87 #[.pointer (some ⟨b, 0, none⟩), .int .i64 e] w fun e' w' => e' = .returned (.tuple #[]) ∧ OwnR w' b (rFail r e) ∧ Fr (· = b) w w' := by
  obtain ⟨s, pos, err⟩ := r
  obtain ⟨h0, h1, h2, h3, h4, h5⟩ := Own.three h
  by_cases he : err = 0
  · subst he
    have HP : Hid (rFail ⟨s, pos, 0⟩ e = ⟨s, pos, e⟩) := rfl
    go_enter Tryz.func87, Tryz.ntmps87
    go_wp2
    go_end0
    refine ⟨rfl, ?_, by repeat (first | with_reducible exact Fr.refl _ _ | with_reducible assumption | with_reducible refine Fr.drew ?_ | with_reducible refine Fr.drewN ?_ _ | with_reducible refine Fr.alloc ?_ _ | with_reducible refine Fr.set ?_ (by first | exact fun _ => rfl | (intro hlt; exfalso; simp at hlt; try omega) | (simp; omega)) _ | with_reducible refine Fr.new_ ?_ (by assumption))⟩
    rw [HP.out]
    exact Own.put h rfl
  · have hz : (err == 0) = false := by rw [beq_eq_false_iff_ne]; exact he
    have HP : Hid (rFail ⟨s, pos, err⟩ e = ⟨s, pos, err⟩) := if_neg he
    clear he
    go_enter Tryz.func87, Tryz.ntmps87
    go_wp2
    go_end0
    refine ⟨rfl, ?_, by repeat (first | with_reducible exact Fr.refl _ _ | with_reducible assumption | with_reducible refine Fr.drew ?_ | with_reducible refine Fr.drewN ?_ _ | with_reducible refine Fr.alloc ?_ _ | with_reducible refine Fr.set ?_ (by first | exact fun _ => rfl | (intro hlt; exfalso; simp at hlt; try omega) | (simp; omega)) _ | with_reducible refine Fr.new_ ?_ (by assumption))⟩
    rw [HP.out]
    exact h
theorem err_any {b : Nat} {r : Rd} {w : World} (h : OwnR w b r) : Calls Tryz.prog 32 #[.pointer (some ⟨b, 0, none⟩)] w fun e w' => e = .returned (.int .i64 r.err) ∧ w = w' := by
  obtain ⟨h0, h1, h2, h3, h4, h5⟩ := Own.three h
  go_enter Tryz.func32, Tryz.ntmps32
  go_wp2
  go_ret
  exact ⟨rfl, rfl⟩
theorem at_any {b : Nat} {r : Rd} {w : World} (h : OwnR w b r) : Calls Tryz.prog 33 #[.pointer (some ⟨b, 0, none⟩)] w fun e w' => e = .returned (.int .i64 r.pos) ∧ w = w' := by
  obtain ⟨h0, h1, h2, h3, h4, h5⟩ := Own.three h
  go_enter Tryz.func33, Tryz.ntmps33
  go_wp2
  go_ret
  exact ⟨rfl, rfl⟩
theorem left_any {b : Nat} {r : Rd} {w : World} (h : OwnR w b r) (hr : r.ok) : Calls Tryz.prog 66 #[.pointer (some ⟨b, 0, none⟩)] w fun e w' => e = .returned (.int .i64 (r.s.size - r.pos)) ∧ ∃ n, w' = w.drewN n := by
  obtain ⟨h0, h1, h2, h3, h4, h5⟩ := Own.three h
  obtain ⟨s, pos, err⟩ := r
  obtain ⟨r0, r1, r2⟩ := hr
  simp only at r0 r1 r2
  go_enter Tryz.func66, Tryz.ntmps66
  go_wp2
  go_region
  all_goals
    go_wp2
    go_ret
    exact ⟨rfl, 1, rfl⟩
end Go.Proofs.YtjcpdpdhegcgoaaGreatDoor

/- Readers: Bytes of both programs; 'back'. -/
namespace Go.Proofs.YtjcpdpdhegcgoaaGreatDoor
open Go.RowKit
set_option linter.unusedVariables false

theorem ok_zero {b : Nat} {r : Rd} {w : World} (h : OwnR w b r) (hz : r.err = 0) : Calls Tryz.prog 65 #[.pointer (some ⟨b, 0, none⟩)] w fun e w' => e = .returned (.bool true) ∧ w = w' := by
  obtain ⟨s, pos, err⟩ := r
  simp only at hz
  subst hz
  obtain ⟨h0, h1, h2, h3, h4, h5⟩ := Own.three h
  go_enter Tryz.func65, Tryz.ntmps65
  go_wp2
  go_ret
  exact ⟨rfl, rfl⟩
theorem ok_some {b : Nat} {r : Rd} {w : World} (h : OwnR w b r) (hz : (r.err == 0) = false) : Calls Tryz.prog 65 #[.pointer (some ⟨b, 0, none⟩)] w fun e w' => e = .returned (.bool false) ∧ w = w' := by
  obtain ⟨h0, h1, h2, h3, h4, h5⟩ := Own.three h
  go_enter Tryz.func65, Tryz.ntmps65
  go_wp2
  go_ret
  exact ⟨rfl, rfl⟩
theorem back_zero {b : Nat} {r : Rd} {w : World} (h : OwnR w b r) (hz : r.err = 0) (p : Int) : Calls Tryz.prog 86 #[.pointer (some ⟨b, 0, none⟩), .int .i64 p] w fun e w' => e = .returned (.tuple #[]) ∧ w = w' := by
  obtain ⟨s, pos, err⟩ := r
  simp only at hz
  subst hz
  obtain ⟨h0, h1, h2, h3, h4, h5⟩ := Own.three h
  go_enter Tryz.func86, Tryz.ntmps86
  go_wp2
  go_end0
  exact ⟨rfl, rfl⟩
theorem back_some {b : Nat} {r : Rd} {w : World} (h : OwnR w b r) (hz : (r.err == 0) = false) (p : Int) : Calls Tryz.prog 86 #[.pointer (some ⟨b, 0, none⟩), .int .i64 p] w fun e w' => e = .returned (.tuple #[]) ∧ OwnR w' b ⟨r.s, p, r.err⟩ ∧ Fr (· = b) w w' := by
  obtain ⟨h0, h1, h2, h3, h4, h5⟩ := Own.three h
  go_enter Tryz.func86, Tryz.ntmps86
  go_wp2
  go_end0
  exact ⟨rfl, Own.put h rfl, by repeat (first | with_reducible exact Fr.refl _ _ | with_reducible assumption | with_reducible refine Fr.drew ?_ | with_reducible refine Fr.drewN ?_ _ | with_reducible refine Fr.alloc ?_ _ | with_reducible refine Fr.set ?_ (by first | exact fun _ => rfl | (intro hlt; exfalso; simp at hlt; try omega) | (simp; omega)) _ | with_reducible refine Fr.new_ ?_ (by assumption))⟩
theorem bytes_any {b : Nat} {r : Rd} {w : World} (h : OwnR w b r) (hr : r.ok) (n : Int) (hn : n ≤ 9223372036854775807) :
    Calls Tryz.prog 85 #[.pointer (some ⟨b, 0, none⟩), .int .i64 n] w fun e w' => e = .returned (.string (rBytes r n).2) ∧ OwnR w' b (rBytes r n).1 ∧ Fr (· = b) w w' := by
  have hl := fun ww hh => left_any (w := ww) (b := b) (r := r) hh hr
  obtain ⟨s, pos, err⟩ := r
  obtain ⟨h0, h1, h2, h3, h4, h5⟩ := Own.three h
  obtain ⟨r0, r1, r2⟩ := hr
  simp only at r0 r1 r2
  have HL := Lib.hid hl
  clear hl
  by_cases he : err = 0
  · subst he
    by_cases h6 : n < 0
    · have HP : Hid (rBytes ⟨s, pos, 0⟩ n = (⟨s, pos, 1⟩, .empty)) := by
        show _ = _
        unfold rBytes
        rw [if_pos rfl, if_pos h6]
        rfl
      go_enter Tryz.func85, Tryz.ntmps85
      go_wp2
      go_ret
      rw [HP.out]
      exact ⟨rfl, Own.put h rfl, by repeat (first | with_reducible exact Fr.refl _ _ | with_reducible assumption | with_reducible refine Fr.drew ?_ | with_reducible refine Fr.drewN ?_ _ | with_reducible refine Fr.alloc ?_ _ | with_reducible refine Fr.set ?_ (by first | exact fun _ => rfl | (intro hlt; exfalso; simp at hlt; try omega) | (simp; omega)) _ | with_reducible refine Fr.new_ ?_ (by assumption))⟩
    · by_cases h7 : (s.size : Int) - pos < n
      · have HP : Hid (rBytes ⟨s, pos, 0⟩ n = (⟨s, pos, 4⟩, .empty)) := by
          show _ = _
          unfold rBytes
          rw [if_pos rfl, if_neg h6, if_pos h7]
          rfl
        go_enter Tryz.func85, Tryz.ntmps85
        go_wp2_with (first | (go_at_call 65; refine (ok_zero h rfl).mono ?_; rintro e w1 ⟨rfl, rfl⟩) | (go_at_call 66; refine (HL.out _ h).mono ?_; rintro e w1 ⟨rfl, nn, rfl⟩))
        go_ret
        rw [HP.out]
        exact ⟨rfl, (Own.put (Own.drewN h nn) rfl), by repeat (first | with_reducible exact Fr.refl _ _ | with_reducible assumption | with_reducible refine Fr.drew ?_ | with_reducible refine Fr.drewN ?_ _ | with_reducible refine Fr.alloc ?_ _ | with_reducible refine Fr.set ?_ (by first | exact fun _ => rfl | (intro hlt; exfalso; simp at hlt; try omega) | (simp; omega)) _ | with_reducible refine Fr.new_ ?_ (by assumption))⟩
      · have HP : Hid (rBytes ⟨s, pos, 0⟩ n = (⟨s, pos + n, 0⟩, s.extract pos.toNat (pos + n).toNat)) := by
          show _ = _
          unfold rBytes
          rw [if_pos rfl, if_neg h6, if_neg h7]
        go_enter Tryz.func85, Tryz.ntmps85
        go_wp2_with (first | (go_at_call 65; refine (ok_zero h rfl).mono ?_; rintro e w1 ⟨rfl, rfl⟩) | (go_at_call 66; refine (HL.out _ h).mono ?_; rintro e w1 ⟨rfl, nn, rfl⟩))
        go_region
        all_goals go_wp2
        all_goals go_ret
        all_goals
          rw [HP.out]
          refine ⟨rfl, ?_, by repeat (first | with_reducible exact Fr.refl _ _ | with_reducible assumption | with_reducible refine Fr.drew ?_ | with_reducible refine Fr.drewN ?_ _ | with_reducible refine Fr.alloc ?_ _ | with_reducible refine Fr.set ?_ (by first | exact fun _ => rfl | (intro hlt; exfalso; simp at hlt; try omega) | (simp; omega)) _ | with_reducible refine Fr.new_ ?_ (by assumption))⟩
          show Own _ _ _ _
          have h : Own w b 91 #[.string s, .int .i64 pos, .int .i64 0] := h
          repeat (first | with_reducible assumption | with_reducible exact Own.fresh _ _ _ | (with_reducible apply Own.new'; simp; done) | with_reducible apply Own.drew | with_reducible apply Own.drewN | with_reducible apply Own.alloc | with_reducible apply Own.put | rfl | (with_reducible refine Own.far ?_ (by simp; omega) _) | (with_reducible refine Own.new_ ?_ (by assumption)))
  · have hz : (err == 0) = false := by rw [beq_eq_false_iff_ne]; exact he
    have HP : Hid (rBytes ⟨s, pos, err⟩ n = (⟨s, pos, err⟩, .empty)) := if_neg he
    clear he
    go_enter Tryz.func85, Tryz.ntmps85
    go_wp2
    go_ret
    rw [HP.out]
    exact ⟨rfl, h, by repeat (first | with_reducible exact Fr.refl _ _ | with_reducible assumption | with_reducible refine Fr.drew ?_ | with_reducible refine Fr.drewN ?_ _ | with_reducible refine Fr.alloc ?_ _ | with_reducible refine Fr.set ?_ (by first | exact fun _ => rfl | (intro hlt; exfalso; simp at hlt; try omega) | (simp; omega)) _ | with_reducible refine Fr.new_ ?_ (by assumption))⟩


theorem one_box {w w1 : World} {t1 : TypeId} {cs1 : Array Value} (h : New (w.alloc (.cells cs1 t1)) w1) : Own w1 w.heap.size t1 cs1 ∧ New w w1 :=
  ⟨(Own.fresh w t1 cs1).new_ h, ((Fr.refl _ _).alloc _).new_ h⟩
theorem two_boxes {w w1 : World} {t1 t2 : TypeId} {cs1 cs2 : Array Value} (h : New ((w.alloc (.cells cs1 t1)).alloc (.cells cs2 t2)) w1) :
    Own w1 w.heap.size t1 cs1 ∧ Own w1 (w.heap.size + 1) t2 cs2 ∧ New w w1 :=
  ⟨((Own.fresh w t1 cs1).alloc _).new_ h, (Own.new' (by simp)).new_ h, (((Fr.refl _ _).alloc _).alloc _).new_ h⟩
theorem three_boxes {w w1 : World} {t1 t2 t3 : TypeId} {cs1 cs2 cs3 : Array Value} (h : New (((w.alloc (.cells cs1 t1)).alloc (.cells cs2 t2)).alloc (.cells cs3 t3)) w1) :
    Own w1 w.heap.size t1 cs1 ∧ Own w1 (w.heap.size + 1) t2 cs2 ∧ Own w1 (w.heap.size + 2) t3 cs3 ∧ New w w1 :=
  ⟨(((Own.fresh w t1 cs1).alloc _).alloc _).new_ h, ((Own.new' (by simp)).alloc _).new_ h, (Own.new' (by simp)).new_ h, ((((Fr.refl _ _).alloc _).alloc _).alloc _).new_ h⟩

end Go.Proofs.YtjcpdpdhegcgoaaGreatDoor

/- Readers: Number of both programs. -/
namespace Go.Proofs.YtjcpdpdhegcgoaaGreatDoor
open Go.RowKit
set_option linter.unusedVariables false

set_option maxRecDepth 100000 in
theorem liteIndexByte_any (s : ByteArray) (c : Int) (w : World) : Calls Tryz.prog 107 #[.string s, .int .u8 c] w fun e w' => e = .returned (.int .i64 (Lib.indexByte s.data.toList c.toNat.toUInt8)) ∧ w' = w := by
  go_enter Tryz.func107, Tryz.ntmps107
  go_wp2
  rw [run_callFunc_extern Tryz.func121 (by kernel_rfl) (by kernel_rfl) (by kernel_rfl) (e := Extern.BytealgIndexByte.indexByte) (by kernel_rfl), Lib.run_indexByteString]
  simp only [Result.andThen]
  rw [Oper.upon_value]
  go_wp2
  go_ret
  exact ⟨rfl, rfl⟩
theorem indexByte_any (s : ByteArray) (c : Int) (w : World) : Calls Tryz.prog 88 #[.string s, .int .u8 c] w fun e w' => e = .returned (.int .i64 (Lib.indexByte s.data.toList c.toNat.toUInt8)) ∧ w' = w := by
  go_enter Tryz.func88, Tryz.ntmps88
  go_wp2_with (go_at_call 107; refine (liteIndexByte_any _ _ _).mono ?_; rintro e w1 ⟨rfl, rfl⟩)
  go_ret
  exact ⟨rfl, rfl⟩

/-- The number of a digit; 16: it is none. -/
def hexv (c : UInt8) : Nat := if 48 ≤ c ∧ c ≤ 57 then c.toNat - 48 else if 97 ≤ c ∧ c ≤ 102 then c.toNat - 87 else 16
def digsB : ByteArray := ⟨#[48, 49, 50, 51, 52, 53, 54, 55, 56, 57, 97, 98, 99, 100, 101, 102]⟩
theorem hexv_all : ∀ n : Fin 256, Lib.indexByte digsB.data.toList (UInt8.ofNat n.val) = if hexv (UInt8.ofNat n.val) < 16 then (hexv (UInt8.ofNat n.val) : Int) else -1 := by decide +kernel
theorem hexv_index (c : UInt8) : Lib.indexByte digsB.data.toList c = if hexv c < 16 then (hexv c : Int) else -1 := by
  have h := hexv_all ⟨c.toNat, c.toNat_lt⟩
  simpa using h
theorem idx_yes (c : UInt8) (d : Nat) (hd : hexv c = d) (h : d < 16) (w : World) : Calls Tryz.prog 88 #[.string ⟨#[48, 49, 50, 51, 52, 53, 54, 55, 56, 57, 97, 98, 99, 100, 101, 102]⟩, .int .u8 c.toNat] w fun e w' => e = .returned (.int .i64 (d : Int)) ∧ w = w' := by
  refine (indexByte_any _ _ _).mono ?_
  rintro e w' ⟨rfl, rfl⟩
  refine ⟨ret_int ?_, rfl⟩
  rw [show ((c.toNat : Int)).toNat.toUInt8 = c by simp]
  have := hexv_index c
  rw [hd, if_pos h] at this
  exact this
theorem idx_no (c : UInt8) (h : ¬ hexv c < 16) (w : World) : Calls Tryz.prog 88 #[.string ⟨#[48, 49, 50, 51, 52, 53, 54, 55, 56, 57, 97, 98, 99, 100, 101, 102]⟩, .int .u8 c.toNat] w fun e w' => e = .returned (.int .i64 (-1)) ∧ w = w' := by
  refine (indexByte_any _ _ _).mono ?_
  rintro e w' ⟨rfl, rfl⟩
  refine ⟨ret_int ?_, rfl⟩
  rw [show ((c.toNat : Int)).toNat.toUInt8 = c by simp]
  have := hexv_index c
  rw [if_neg h] at this
  exact this
def valStep (o : Option Nat) (c : UInt8) : Option Nat := o.bind fun n => if hexv c < 16 then some (n * 16 + hexv c) else none
def numL (l : List UInt8) : Option Nat := l.foldl valStep (some 0)
def rNumber (r : Rd) (k : Int) : Rd × Nat :=
  if r.err = 0 then
    if k < 0 ∨ 8 < k then (r.withErr 1, 0)
    else if r.s.size - r.pos < 2 * k then (r.withErr 4, 0)
    else match numL (r.s.extract r.pos.toNat (r.pos + 2 * k).toNat).data.toList with
      | some n => (⟨r.s, r.pos + 2 * k, 0⟩, n)
      | none => (r.withErr 6, 0)
  else (r, 0)

theorem numL_snoc (l : List UInt8) (c : UInt8) : numL (l ++ [c]) = valStep (numL l) c := by
  unfold numL
  rw [List.foldl_append, List.foldl_cons, List.foldl_nil]
theorem fold_none (l : List UInt8) : l.foldl valStep none = none := by
  induction l with
  | nil => rfl
  | cons c l ih => exact ih
theorem numL_none {l : List UInt8} (i : Nat) (h : numL (l.take i) = none) : numL l = none := by
  unfold numL at *
  rw [← List.take_append_drop i l, List.foldl_append, h, fold_none]
/-- '[]byte(t)': a new block of t's bytes. -/
theorem conv_bytes (w : World) (t : ByteArray) : ∃ W2 c, (convert 9 82 (.string t)).run Tryz.prog w = .ok (.slice (some ⟨w.heap.size, 0, none⟩) t.size c) W2 ∧ New w W2 ∧ (∀ j (hj : j < t.size), W2.cell? ⟨w.heap.size, j, none⟩ = some (.int .u8 t[j].toNat)) := by
  refine ⟨_, _, Lib.run_convert_string_bytes (P := Tryz.prog) w 9 82 5 t (u := .string) Tryz.underlying9 Tryz.underlying82 Tryz.underlying5, ⟨rfl, rfl, rfl, by rw [Lib.bytesWorld_size]; omega, fun k hk _ => Lib.bytesWorld_at_old w _ t k hk⟩, fun j hj => ?_⟩
  rw [Lib.bytesWorld_cell w _ t j hj]
  have : t.data.toList.getD j 0 = t[j] := by
    rw [List.getD_eq_getElem?_getD, List.getElem?_eq_getElem (by simpa using hj)]
    rfl
  rw [this]
theorem or_nib (n d : Nat) (hn : n ≤ 1152921504606846975) (hd : d < 16) : bits .or .u64 ((n : Int) * 16) (d : Int) = ((n * 16 + d : Nat) : Int) := by
  have h := u64_or_nat (n * 16) d (by omega) (by omega)
  have e : n * 16 ||| d = n * 16 + d := by
    have h2 := Nat.shiftLeft_add_eq_or_of_lt (i := 4) (b := d) (by simpa using hd) n
    rw [Nat.shiftLeft_eq] at h2
    exact h2.symm
  rw [e] at h
  rw [← h]
  simp

set_option maxRecDepth 100000 in
set_option maxHeartbeats 1000000 in
theorem rdNumber_core {b : Nat} {s : ByteArray} {pos : Int} {w : World} (h : OwnR w b ⟨s, pos, 0⟩) (hr : Rd.ok ⟨s, pos, 0⟩) (k : Int) (h0 : 0 ≤ k) (h1 : k ≤ 8) (r1 : Rd) (t : ByteArray) (e : rBytes ⟨s, pos, 0⟩ (2 * k) = (r1, t)) (hlim : t.size ≤ 16)
    (hz1 : t.size = 0 ∨ r1 = ⟨s, pos + 2 * k, 0⟩) (HP : Hid (rNumber ⟨s, pos, 0⟩ k = match numL t.data.toList with | some n => (r1, n) | none => (⟨s, pos, 6⟩, 0))) :
    Calls Tryz.prog 64 #[.pointer (some ⟨b, 0, none⟩), .int .i64 k] w fun e w' => e = .returned (.int .u64 (rNumber ⟨s, pos, 0⟩ k).2) ∧ OwnR w' b (rNumber ⟨s, pos, 0⟩ k).1 ∧ Fr (· = b) w w' := by
  obtain ⟨g0, g1, g2, g3, g4, g5⟩ := Own.three h
  have hB := bytes_any h hr (2 * k) (by omega)
  rw [e] at hB
  have HB := Lib.hid hB
  have HZ1 := Lib.hid hz1
  clear hz1 hB e
  go_enter Tryz.func64, Tryz.ntmps64
  go_wp2_with (first | (go_at_call 65; refine (ok_zero h rfl).mono ?_; rintro e w1 ⟨rfl, rfl⟩) | (go_at_call 85; refine HB.out.mono ?_; rintro e w1 ⟨rfl, ho, hf⟩; obtain ⟨W2, cap, hcv, hn2, hc2⟩ := conv_bytes w1 t))
  have hne : b < w1.heap.size := ho.lt
  have ho2 : OwnR W2 b r1 := Own.new_ ho hn2
  have hf2 : Fr (· = b) w W2 := hf.new_ hn2
  have hls : t.data.toList.length = t.size := by simp
  go_loopw [6, 31] (fun nv iv wr => ∃ i n : Nat, iv = .int .i64 i ∧ nv = .int .u64 n ∧ i ≤ t.size ∧ n < 16 ^ i ∧ wr = W2 ∧ Hid (numL (t.data.toList.take i) = some n)) (fun _ iv _ => t.size - (intOf iv).toNat)
  case atStart => exact ⟨0, 0, rfl, rfl, by omega, by simp, rfl, rfl⟩
  case round =>
    obtain ⟨i, n, rfl, rfl, hi, hn16, rfl, HN⟩ := hrel
    by_cases hlt : i < t.size
    · have hc := hc2 i hlt
      have hn60 : n ≤ 1152921504606846975 := by
        have h15 : 16 ^ i ≤ 16 ^ 15 := Nat.pow_le_pow_right (by omega) (by omega)
        have : (16 : Nat) ^ 15 = 1152921504606846976 := by decide
        omega
      have HS := take_snoc t i hlt
      obtain ⟨c, hcc⟩ : ∃ c, t[i] = c := ⟨_, rfl⟩
      rw [hcc] at hc HS
      have HS2 := Lib.hid HS
      clear HS hcc hc2
      by_cases hd : hexv c < 16
      · obtain ⟨d, hdd⟩ : ∃ d, hexv c = d := ⟨_, rfl⟩
        have HD := Lib.hid hdd
        rw [hdd] at hd
        clear hdd
        have hor := or_nib n d hn60 hd
        go_wp2_with fail
        refine (idx_yes c d HD.out hd _).mono ?_
        rintro e w3 ⟨rfl, rfl⟩
        go_wp2_with fail
        go_roundw
        case rel =>
          refine ⟨i + 1, n * 16 + d, by go_num, by simp, by omega, ?_, trivial, ?_⟩
          · rw [Nat.pow_succ]; omega
          · show _ = _
            rw [HS2.out, numL_snoc, HN.out]
            unfold valStep
            simp [HD.out, hd]
        case measure => simp [intOf]; omega
      · obtain rfl : r1 = ⟨s, pos + 2 * k, 0⟩ := by
          rcases HZ1.out with e | e
          · omega
          · exact e
        have HZ : Hid (numL t.data.toList = none) := by
          refine numL_none (i + 1) ?_
          rw [HS2.out, numL_snoc, HN.out]
          unfold valStep
          simp [hd]
        go_wp2_with fail
        refine (idx_no c hd _).mono ?_
        rintro e w3 ⟨rfl, rfl⟩
        go_wp2_with fail
        refine (fail_any ho2 6).mono ?_
        rintro e w3 ⟨rfl, ho3, hf3⟩
        have ho3' : OwnR w3 b ⟨s, pos + 2 * k, 6⟩ := ho3
        clear ho3
        go_wp2_with fail
        refine (back_some ho3' rfl _).mono ?_
        rintro e w4 ⟨rfl, ho4, hf4⟩
        go_wp2
        go_ret
        rw [HP.out, HZ.out]
        refine ⟨rfl, ho4, ?_⟩
        exact (hf2.trans hf3 (fun _ _ e => e)).trans hf4 (fun _ _ e => e)
    · have HI : Hid (i = t.size) := by show _ = _; omega
      go_wp2
      go_ret
      have hz := HN.out
      rw [List.take_of_length_le (by rw [HI.out, hls]; omega)] at hz
      rw [HP.out, hz]
      exact ⟨rfl, ho2, hf2⟩

set_option maxRecDepth 100000 in
theorem rdNumber_any {b : Nat} {r : Rd} {w : World} (h : OwnR w b r) (hr : r.ok) (k : Int) :
    Calls Tryz.prog 64 #[.pointer (some ⟨b, 0, none⟩), .int .i64 k] w fun e w' => e = .returned (.int .u64 (rNumber r k).2) ∧ OwnR w' b (rNumber r k).1 ∧ Fr (· = b) w w' := by
  obtain ⟨s, pos, err⟩ := r
  by_cases he : err = 0
  · subst he
    obtain ⟨q0, q1, q2⟩ := id hr
    simp only at q0 q1 q2
    rcases (by omega : k < 0 ∨ (¬ k < 0 ∧ 8 < k) ∨ (0 ≤ k ∧ k ≤ 8 ∧ (s.size : Int) - pos < 2 * k) ∨ (0 ≤ k ∧ k ≤ 8 ∧ 2 * k ≤ s.size - pos)) with h0 | ⟨h0, h1⟩ | ⟨h0, h1, h2⟩ | ⟨h0, h1, h2⟩
    · have HP : Hid (rNumber ⟨s, pos, 0⟩ k = (⟨s, pos, 1⟩, 0)) := by
        show _ = _
        unfold rNumber
        rw [if_pos rfl, if_pos (.inl h0)]
        rfl
      go_enter Tryz.func64, Tryz.ntmps64
      go_wp2_with fail
      refine (fail_any h 1).mono ?_
      rintro e w3 ⟨rfl, ho3, hf3⟩
      have ho3' : OwnR w3 b ⟨s, pos, 1⟩ := ho3
      clear ho3
      go_wp2_with fail
      refine (ok_some ho3' rfl).mono ?_
      rintro e w4 ⟨rfl, rfl⟩
      go_wp2_with fail
      go_ret
      rw [HP.out]
      exact ⟨rfl, ho3', hf3⟩
    · have HP : Hid (rNumber ⟨s, pos, 0⟩ k = (⟨s, pos, 1⟩, 0)) := by
        show _ = _
        unfold rNumber
        rw [if_pos rfl, if_pos (.inr h1)]
        rfl
      go_enter Tryz.func64, Tryz.ntmps64
      go_wp2_with fail
      refine (fail_any h 1).mono ?_
      rintro e w3 ⟨rfl, ho3, hf3⟩
      have ho3' : OwnR w3 b ⟨s, pos, 1⟩ := ho3
      clear ho3
      go_wp2_with fail
      refine (ok_some ho3' rfl).mono ?_
      rintro e w4 ⟨rfl, rfl⟩
      go_wp2_with fail
      go_ret
      rw [HP.out]
      exact ⟨rfl, ho3', hf3⟩
    · refine rdNumber_core h hr k h0 h1 ⟨s, pos, 4⟩ .empty ?_ (by simp) (.inl (by simp)) ?_
      · unfold rBytes
        rw [if_pos rfl, if_neg (by omega), if_pos (by simp only; omega)]
        rfl
      · show _ = _
        unfold rNumber
        rw [if_pos rfl, if_neg (by omega), if_pos (by simp only; omega)]
        rfl
    · refine rdNumber_core h hr k h0 h1 ⟨s, pos + 2 * k, 0⟩ (s.extract pos.toNat (pos + 2 * k).toNat) ?_ (by simp; omega) (.inr rfl) ?_
      · unfold rBytes
        rw [if_pos rfl, if_neg (by omega), if_neg (by simp only; omega)]
      · show _ = _
        unfold rNumber
        rw [if_pos rfl, if_neg (by omega), if_neg (by simp only; omega)]
        rfl
  · have hz : (err == 0) = false := by rw [beq_eq_false_iff_ne]; exact he
    have HP : Hid (rNumber ⟨s, pos, err⟩ k = (⟨s, pos, err⟩, 0)) := if_neg he
    have HF : Hid (rFail ⟨s, pos, err⟩ 1 = ⟨s, pos, err⟩) := if_neg he
    clear he
    rcases (by omega : k < 0 ∨ (¬ k < 0 ∧ 8 < k) ∨ (¬ k < 0 ∧ ¬ 8 < k)) with h0 | ⟨h0, h1⟩ | ⟨h0, h1⟩
    · go_enter Tryz.func64, Tryz.ntmps64
      go_wp2_with fail
      refine (fail_any h 1).mono ?_
      rintro e w3 ⟨rfl, ho3, hf3⟩
      rw [HF.out] at ho3
      go_wp2_with fail
      refine (ok_some ho3 hz).mono ?_
      rintro e w4 ⟨rfl, rfl⟩
      go_wp2_with fail
      go_ret
      rw [HP.out]
      exact ⟨rfl, ho3, hf3⟩
    · go_enter Tryz.func64, Tryz.ntmps64
      go_wp2_with fail
      refine (fail_any h 1).mono ?_
      rintro e w3 ⟨rfl, ho3, hf3⟩
      rw [HF.out] at ho3
      go_wp2_with fail
      refine (ok_some ho3 hz).mono ?_
      rintro e w4 ⟨rfl, rfl⟩
      go_wp2_with fail
      go_ret
      rw [HP.out]
      exact ⟨rfl, ho3, hf3⟩
    · go_enter Tryz.func64, Tryz.ntmps64
      go_wp2_with fail
      refine (ok_some h hz).mono ?_
      rintro e w4 ⟨rfl, rfl⟩
      go_wp2_with fail
      go_ret
      rw [HP.out]
      exact ⟨rfl, h, Fr.refl _ _⟩
end Go.Proofs.YtjcpdpdhegcgoaaGreatDoor

/- The reference's readers: Number. -/
namespace Go.Proofs.YtjcpdpdhegcgoaaGreatDoor
open Go.RowKit
set_option linter.unusedVariables false




theorem extract_le16 {s : ByteArray} {pos : Int} (k : Int) (h0 : 0 ≤ k) (h1 : k ≤ 8) (hp : 0 ≤ pos) : (s.extract pos.toNat (pos + 2 * k).toNat).size ≤ 16 := by
  rw [ByteArray.size_extract]
  omega

theorem rNumber_ok {r : Rd} (h : r.ok) (k : Int) : (rNumber r k).1.ok := by
  obtain ⟨h0, h1, h2⟩ := h
  unfold rNumber
  split
  · split
    · exact ⟨h0, h1, h2⟩
    · split
      · exact ⟨h0, h1, h2⟩
      · split
        · refine ⟨h0, ?_, ?_⟩ <;> simp only <;> omega
        · exact ⟨h0, h1, h2⟩
  · exact ⟨h0, h1, h2⟩
theorem hexv_le (c : UInt8) : hexv c ≤ 16 := by
  have := c.toNat_lt
  unfold hexv
  split
  · rename_i h
    have := UInt8.le_iff_toNat_le.mp h.2
    simp at this
    omega
  · split
    · rename_i h
      have := UInt8.le_iff_toNat_le.mp h.2
      simp at this
      omega
    · omega
theorem numL_lt_rev (l : List UInt8) : ∀ n, numL l.reverse = some n → n < 16 ^ l.length := by
  induction l with
  | nil => intro n h; simp [numL] at h; subst h; simp
  | cons c l ih =>
    intro n h
    rw [List.reverse_cons, numL_snoc] at h
    unfold valStep at h
    cases hh : numL l.reverse with
    | none => rw [hh] at h; simp at h
    | some m =>
      rw [hh] at h
      have := ih m hh
      simp only [Option.bind_some] at h
      split at h
      · simp only [Option.some.injEq] at h
        rw [List.length_cons, Nat.pow_succ]
        omega
      · simp at h
theorem numL_lt {l : List UInt8} {n : Nat} (h : numL l = some n) : n < 16 ^ l.length := by
  have := numL_lt_rev l.reverse n (by rw [List.reverse_reverse]; exact h)
  simpa using this
theorem rNumber4 {r : Rd} (h : r.ok) (hz : r.err = 0) : ((rNumber r 4).1 = ⟨r.s, r.pos + 8, 0⟩ ∧ (rNumber r 4).2 < 4294967296) ∨ (∃ e, (e == 0) = false ∧ rNumber r 4 = (⟨r.s, r.pos, e⟩, 0)) := by
  obtain ⟨h0, h1, h2⟩ := h
  unfold rNumber
  rw [if_pos hz, if_neg (by omega)]
  by_cases hc : (r.s.size : Int) - r.pos < 2 * 4
  · right
    rw [if_pos hc]
    exact ⟨4, rfl, rfl⟩
  · rw [if_neg hc]
    cases hh : numL (r.s.extract r.pos.toNat (r.pos + 2 * 4).toNat).data.toList with
    | none => right; exact ⟨6, rfl, rfl⟩
    | some n =>
      left
      refine ⟨rfl, ?_⟩
      have := numL_lt hh
      have hl : (r.s.extract r.pos.toNat (r.pos + 2 * 4).toNat).data.toList.length = 8 := by
        have : (r.s.extract r.pos.toNat (r.pos + 2 * 4).toNat).size = 8 := by
          rw [ByteArray.size_extract]
          omega
        exact this
      rw [hl] at this
      simpa using this
end Go.Proofs.YtjcpdpdhegcgoaaGreatDoor

/- Readers: Count, Text, Hash, Bool, End of both programs. -/
namespace Go.Proofs.YtjcpdpdhegcgoaaGreatDoor
open Go.RowKit
set_option linter.unusedVariables false

def rCount (r : Rd) (most : Int) : Rd × Int :=
  if r.err = 0 then
    if (rNumber r 4).1.err = 0 then
      if most < 0 ∨ most < (rNumber r 4).2 then (r.withErr 3, 0) else ((rNumber r 4).1, (rNumber r 4).2)
    else ((rNumber r 4).1, 0)
  else (r, 0)
theorem rCount_ok {r : Rd} (h : r.ok) (k : Int) : (rCount r k).1.ok := by
  unfold rCount
  split
  · split
    · split
      · exact h
      · exact rNumber_ok h 4
    · exact rNumber_ok h 4
  · exact h
theorem ok_bool {b : Nat} {r : Rd} {w : World} (h : OwnR w b r) : Calls Tryz.prog 65 #[.pointer (some ⟨b, 0, none⟩)] w fun e w' => e = .returned (.bool (decide (r.err = 0))) ∧ w = w' := by
  by_cases hz : r.err = 0
  · refine (ok_zero h hz).mono ?_
    rintro e w1 ⟨rfl, rfl⟩
    simp [hz]
  · refine (ok_some h (by rw [beq_eq_false_iff_ne]; exact hz)).mono ?_
    rintro e w1 ⟨rfl, rfl⟩
    simp [hz]

theorem count_any {b : Nat} {r : Rd} {w : World} (h : OwnR w b r) (hr : r.ok) (most : Int) (hmost : most ≤ 9223372036854775807) :
    Calls Tryz.prog 62 #[.pointer (some ⟨b, 0, none⟩), .int .i64 most] w fun e w' => e = .returned (.int .i64 (rCount r most).2) ∧ OwnR w' b (rCount r most).1 ∧ Fr (· = b) w w' := by
  have hN := rdNumber_any h hr 4
  by_cases he : r.err = 0
  · have hC : rCount r most = if (rNumber r 4).1.err = 0 then if most < 0 ∨ most < (rNumber r 4).2 then (r.withErr 3, 0) else ((rNumber r 4).1, ((rNumber r 4).2 : Int)) else ((rNumber r 4).1, 0) := if_pos he
    obtain ⟨s, pos, err⟩ := r
    simp only at he
    subst he
    obtain ⟨g0, g1, g2, g3, g4, g5⟩ := Own.three h
    rcases rNumber4 hr rfl with ⟨h1, h2⟩ | ⟨ee, h1, h2⟩
    · obtain ⟨n, hn⟩ : ∃ n, (rNumber ⟨s, pos, 0⟩ 4).2 = n := ⟨_, rfl⟩
      rw [h1, hn] at hC hN
      rw [hn] at h2
      clear h1 hn
      have HN := Lib.hid hN
      clear hN
      by_cases hm : most < 0
      · have HC : Hid (rCount ⟨s, pos, 0⟩ most = (⟨s, pos, 3⟩, 0)) := by show _ = _; rw [hC, if_pos rfl, if_pos (.inl hm)]; rfl
        have hb1 : decide (most < 0) = true := decide_eq_true hm
        clear hC
        go_enter Tryz.func62, Tryz.ntmps62
        go_wp2_with (first | (go_at_call 65; first | (apply Calls.mono; (apply ok_zero; with_reducible assumption; exact rfl); rintro e wq ⟨rfl, rfl⟩) | (apply Calls.mono; (apply ok_some; with_reducible assumption; (first | assumption | (show _ = _; simp))); rintro e wq ⟨rfl, rfl⟩)) | (go_at_call 64; refine HN.out.mono ?_; rintro e w1 ⟨rfl, ho, hf⟩; obtain ⟨k0, k1, k2, k3, k4, k5⟩ := Own.three ho; have hfz := hf.size) | (go_at_call 86; refine (back_some (r := ⟨s, pos + 8, 3⟩) (Own.put ho rfl) rfl _).mono ?_; rintro e w2 ⟨rfl, ho2, hf2⟩; obtain ⟨j0, j1, j2, j3, j4, j5⟩ := Own.three ho2; have hfz2 := hf2.size))
        go_ret
        rw [HC.out]
        exact ⟨rfl, ho2, by repeat (first | with_reducible exact Fr.refl _ _ | with_reducible assumption | with_reducible refine Fr.drew ?_ | with_reducible refine Fr.drewN ?_ _ | with_reducible refine Fr.alloc ?_ _ | with_reducible refine Fr.set ?_ (by first | exact fun _ => rfl | (intro hlt; exfalso; simp at hlt; try omega) | (simp; omega)) _ | with_reducible refine Fr.new_ ?_ (by assumption) | with_reducible refine Fr.trans ?_ (by with_reducible assumption) (fun _ _ e => e))⟩
      · by_cases hm2 : most < (n : Int)
        · have HC : Hid (rCount ⟨s, pos, 0⟩ most = (⟨s, pos, 3⟩, 0)) := by show _ = _; rw [hC, if_pos rfl, if_pos (.inr hm2)]; rfl
          have hb1 : decide (most < 0) = false := decide_eq_false hm
          have hb2 : decide (IntKind.u64.wrap most < (n : Int)) = true := decide_eq_true (by rw [IntKind.wrap_u64]; omega)
          clear hC
          go_enter Tryz.func62, Tryz.ntmps62
          go_wp2_with (first | (go_at_call 65; first | (apply Calls.mono; (apply ok_zero; with_reducible assumption; exact rfl); rintro e wq ⟨rfl, rfl⟩) | (apply Calls.mono; (apply ok_some; with_reducible assumption; (first | assumption | (show _ = _; simp))); rintro e wq ⟨rfl, rfl⟩)) | (go_at_call 64; refine HN.out.mono ?_; rintro e w1 ⟨rfl, ho, hf⟩; obtain ⟨k0, k1, k2, k3, k4, k5⟩ := Own.three ho; have hfz := hf.size) | (go_at_call 86; refine (back_some (r := ⟨s, pos + 8, 3⟩) (Own.put ho rfl) rfl _).mono ?_; rintro e w2 ⟨rfl, ho2, hf2⟩; obtain ⟨j0, j1, j2, j3, j4, j5⟩ := Own.three ho2; have hfz2 := hf2.size))
          go_ret
          rw [HC.out]
          exact ⟨rfl, ho2, by repeat (first | with_reducible exact Fr.refl _ _ | with_reducible assumption | with_reducible refine Fr.drew ?_ | with_reducible refine Fr.drewN ?_ _ | with_reducible refine Fr.alloc ?_ _ | with_reducible refine Fr.set ?_ (by first | exact fun _ => rfl | (intro hlt; exfalso; simp at hlt; try omega) | (simp; omega)) _ | with_reducible refine Fr.new_ ?_ (by assumption) | with_reducible refine Fr.trans ?_ (by with_reducible assumption) (fun _ _ e => e))⟩
        · have HC : Hid (rCount ⟨s, pos, 0⟩ most = (⟨s, pos + 8, 0⟩, (n : Int))) := by show _ = _; rw [hC, if_pos rfl, if_neg (by omega)]
          have hb1 : decide (most < 0) = false := decide_eq_false hm
          have hb2 : decide (IntKind.u64.wrap most < (n : Int)) = false := decide_eq_false (by rw [IntKind.wrap_u64]; omega)
          clear hC
          go_enter Tryz.func62, Tryz.ntmps62
          go_wp2_with (first | (go_at_call 65; first | (apply Calls.mono; (apply ok_zero; with_reducible assumption; exact rfl); rintro e wq ⟨rfl, rfl⟩) | (apply Calls.mono; (apply ok_some; with_reducible assumption; (first | assumption | (show _ = _; simp))); rintro e wq ⟨rfl, rfl⟩)) | (go_at_call 64; refine HN.out.mono ?_; rintro e w1 ⟨rfl, ho, hf⟩; obtain ⟨k0, k1, k2, k3, k4, k5⟩ := Own.three ho; have hfz := hf.size) | (go_at_call 86; refine (back_zero (r := ⟨s, pos + 8, 0⟩) (ho) rfl _).mono ?_; rintro e w2 ⟨rfl, rfl⟩))
          go_ret
          rw [HC.out]
          exact ⟨rfl, ho, hf⟩
    · rw [h2] at hC hN
      have HN := Lib.hid hN
      clear hN h2
      have HC : Hid (rCount ⟨s, pos, 0⟩ most = (⟨s, pos, ee⟩, 0)) := by show _ = _; rw [hC, if_neg (by simpa using h1)]
      clear hC
      go_enter Tryz.func62, Tryz.ntmps62
      go_wp2_with (first | (go_at_call 65; first | (apply Calls.mono; (apply ok_zero; with_reducible assumption; exact rfl); rintro e wq ⟨rfl, rfl⟩) | (apply Calls.mono; (apply ok_some; with_reducible assumption; (first | assumption | (show _ = _; simp))); rintro e wq ⟨rfl, rfl⟩)) | (go_at_call 64; refine HN.out.mono ?_; rintro e w1 ⟨rfl, ho, hf⟩; obtain ⟨k0, k1, k2, k3, k4, k5⟩ := Own.three ho; have hfz := hf.size) | (go_at_call 86; refine (back_some (r := ⟨s, pos, ee⟩) (ho) h1 _).mono ?_; rintro e w2 ⟨rfl, ho2, hf2⟩; obtain ⟨j0, j1, j2, j3, j4, j5⟩ := Own.three ho2; have hfz2 := hf2.size))
      go_ret
      rw [HC.out]
      exact ⟨rfl, ho2, by repeat (first | with_reducible exact Fr.refl _ _ | with_reducible assumption | with_reducible refine Fr.drew ?_ | with_reducible refine Fr.drewN ?_ _ | with_reducible refine Fr.alloc ?_ _ | with_reducible refine Fr.set ?_ (by first | exact fun _ => rfl | (intro hlt; exfalso; simp at hlt; try omega) | (simp; omega)) _ | with_reducible refine Fr.new_ ?_ (by assumption) | with_reducible refine Fr.trans ?_ (by with_reducible assumption) (fun _ _ e => e))⟩
  · have hz : (r.err == 0) = false := by rw [beq_eq_false_iff_ne]; exact he
    have HC : Hid (rCount r most = (r, 0)) := if_neg he
    clear he hN
    obtain ⟨g0, g1, g2, g3, g4, g5⟩ := Own.three h
    go_enter Tryz.func62, Tryz.ntmps62
    go_wp2
    go_ret
    rw [HC.out]
    exact ⟨rfl, h, by repeat (first | with_reducible exact Fr.refl _ _ | with_reducible assumption | with_reducible refine Fr.drew ?_ | with_reducible refine Fr.drewN ?_ _ | with_reducible refine Fr.alloc ?_ _ | with_reducible refine Fr.set ?_ (by first | exact fun _ => rfl | (intro hlt; exfalso; simp at hlt; try omega) | (simp; omega)) _ | with_reducible refine Fr.new_ ?_ (by assumption))⟩
end Go.Proofs.YtjcpdpdhegcgoaaGreatDoor
