/- WireB: several texts as one. -/
import Derived.Test.YtjcpdpdhegcgoaaGreatDoorWireA
import Derived.Laws.Bits128
/- Readers: Count of the reference; Text, Hash, Bool, End of both programs. -/
namespace Go.Proofs.YtjcpdpdhegcgoaaGreatDoor
open Go.RowKit
set_option linter.unusedVariables false


theorem rNumber_s (r : Rd) (k : Int) : (rNumber r k).1.s = r.s := by
  unfold rNumber
  split
  · split
    · rfl
    · split
      · rfl
      · split <;> rfl
  · rfl
theorem rCount_s (r : Rd) (k : Int) : (rCount r k).1.s = r.s := by
  unfold rCount
  split
  · split
    · split
      · rfl
      · exact rNumber_s r 4
    · exact rNumber_s r 4
  · rfl
theorem rBytes_s (r : Rd) (k : Int) : (rBytes r k).1.s = r.s := by
  unfold rBytes
  split
  · split
    · rfl
    · split <;> rfl
  · rfl
theorem rBytes_err (r : Rd) (k : Int) (h : ¬ (rBytes r k).1.err = 0) : (rBytes r k).2 = ByteArray.empty := by
  unfold rBytes at *
  split
  · split
    · rfl
    · split
      · rfl
      · rename_i a b c
        rw [if_pos a, if_neg b, if_neg c] at h
        exact absurd rfl h
  · rfl
theorem rCount_le {r : Rd} (hr : r.ok) (k : Int) : 0 ≤ (rCount r k).2 ∧ (rCount r k).2 < 4294967296 := by
  unfold rCount
  split
  · rename_i he
    rcases rNumber4 hr he with ⟨h1, h2⟩ | ⟨ee, h1, h2⟩
    · rw [h1, if_pos rfl]
      split <;> simp <;> omega
    · rw [h2, if_neg (by simpa using h1)]
      simp
  · simp
theorem rCount_err (r : Rd) (k : Int) (h : ¬ (rCount r k).1.err = 0) (he : r.err = 0) : rBytes (rCount r k).1 (rCount r k).2 = ((rCount r k).1, ByteArray.empty) := by
  unfold rBytes
  rw [if_neg h]
def rText (r : Rd) (most : Int) : Rd × ByteArray :=
  if r.err = 0 then
    if (rBytes (rCount r most).1 (rCount r most).2).1.err = 0 then rBytes (rCount r most).1 (rCount r most).2
    else (⟨r.s, r.pos, (rBytes (rCount r most).1 (rCount r most).2).1.err⟩, .empty)
  else (r, .empty)
theorem rText_ok {r : Rd} (h : r.ok) (k : Int) : (rText r k).1.ok := by
  unfold rText
  split
  · split
    · exact rBytes_ok (rCount_ok h k) _
    · exact h
  · exact h

theorem text_any {b : Nat} {r : Rd} {w : World} (h : OwnR w b r) (hr : r.ok) (most : Int) (hmost : most ≤ 9223372036854775807) :
    Calls Tryz.prog 63 #[.pointer (some ⟨b, 0, none⟩), .int .i64 most] w fun e w' => e = .returned (.string (rText r most).2) ∧ OwnR w' b (rText r most).1 ∧ Fr (· = b) w w' := by
  by_cases he : r.err = 0
  · have hC := count_any h hr most hmost
    have hB := fun ww (hh : OwnR ww b (rCount r most).1) => bytes_any hh (rCount_ok hr most) (rCount r most).2 (by have := rCount_le hr most; omega)
    have hT : rText r most = if (rBytes (rCount r most).1 (rCount r most).2).1.err = 0 then rBytes (rCount r most).1 (rCount r most).2
      else (⟨r.s, r.pos, (rBytes (rCount r most).1 (rCount r most).2).1.err⟩, .empty) := if_pos he
    have hs := rBytes_s (rCount r most).1 (rCount r most).2
    rw [rCount_s] at hs
    have hem := rBytes_err (rCount r most).1 (rCount r most).2
    obtain ⟨cn, hcn⟩ : ∃ cn, (rCount r most).2 = cn := ⟨_, rfl⟩
    obtain ⟨q, hq⟩ : ∃ q, (rCount r most).1 = q := ⟨_, rfl⟩
    simp only [hq, hcn] at hC hB hT hs hem
    obtain ⟨⟨s1, p1, e1⟩, hp⟩ : ∃ p, (rBytes q cn).1 = p := ⟨_, rfl⟩
    obtain ⟨t, ht⟩ : ∃ t, (rBytes q cn).2 = t := ⟨_, rfl⟩
    rw [hp] at hs
    rw [hp, ht] at hem
    simp only [hp, ht] at hB
    have hpt : rBytes q cn = (⟨s1, p1, e1⟩, t) := by rw [← hp, ← ht]
    rw [hpt] at hT
    clear hq hcn hp ht hpt
    obtain ⟨s, pos, err⟩ := r
    simp only at he
    subst he
    simp only at hs hT hem
    subst hs
    obtain ⟨g0, g1, g2, g3, g4, g5⟩ := Own.three h
    have HC := Lib.hid hC
    have HB := Lib.hid hB
    clear hC hB
    by_cases h1 : e1 = 0
    · subst h1
      rw [if_pos rfl] at hT
      have HT := Lib.hid hT
      clear hT hem
      go_enter Tryz.func63, Tryz.ntmps63
      go_wp2_with (first | (go_at_call 65; first | (apply Calls.mono; (apply ok_zero; with_reducible assumption; exact rfl); rintro e wq ⟨rfl, rfl⟩) | (apply Calls.mono; (apply ok_some; with_reducible assumption; (first | assumption | (show _ = _; simp))); rintro e wq ⟨rfl, rfl⟩)) | (go_at_call 62; refine HC.out.mono ?_; rintro e w1 ⟨rfl, ho, hf⟩) | (go_at_call 85; refine (HB.out _ ho).mono ?_; rintro e w2 ⟨rfl, ho2, hf2⟩) | (go_at_call 86; refine (back_zero ho2 rfl _).mono ?_; rintro e w3 ⟨rfl, rfl⟩))
      go_ret
      rw [HT.out]
      exact ⟨rfl, ho2, by repeat (first | with_reducible exact Fr.refl _ _ | with_reducible assumption | with_reducible refine Fr.drew ?_ | with_reducible refine Fr.drewN ?_ _ | with_reducible refine Fr.alloc ?_ _ | with_reducible refine Fr.set ?_ (by first | exact fun _ => rfl | (intro hlt; exfalso; simp at hlt; try omega) | (simp; omega)) _ | with_reducible refine Fr.new_ ?_ (by assumption) | with_reducible refine Fr.trans ?_ (by with_reducible assumption) (fun _ _ e => e))⟩
    · rw [if_neg h1] at hT
      obtain rfl := hem h1
      have hz : (e1 == 0) = false := by rw [beq_eq_false_iff_ne]; exact h1
      have HT := Lib.hid hT
      clear hT hem h1
      go_enter Tryz.func63, Tryz.ntmps63
      go_wp2_with (first | (go_at_call 65; first | (apply Calls.mono; (apply ok_zero; with_reducible assumption; exact rfl); rintro e wq ⟨rfl, rfl⟩) | (apply Calls.mono; (apply ok_some; with_reducible assumption; (first | assumption | (show _ = _; simp))); rintro e wq ⟨rfl, rfl⟩)) | (go_at_call 62; refine HC.out.mono ?_; rintro e w1 ⟨rfl, ho, hf⟩) | (go_at_call 85; refine (HB.out _ ho).mono ?_; rintro e w2 ⟨rfl, ho2, hf2⟩) | (go_at_call 86; refine (back_some ho2 hz _).mono ?_; rintro e w3 ⟨rfl, ho3, hf3⟩))
      go_ret
      rw [HT.out]
      exact ⟨rfl, ho3, by repeat (first | with_reducible exact Fr.refl _ _ | with_reducible assumption | with_reducible refine Fr.drew ?_ | with_reducible refine Fr.drewN ?_ _ | with_reducible refine Fr.alloc ?_ _ | with_reducible refine Fr.set ?_ (by first | exact fun _ => rfl | (intro hlt; exfalso; simp at hlt; try omega) | (simp; omega)) _ | with_reducible refine Fr.new_ ?_ (by assumption) | with_reducible refine Fr.trans ?_ (by with_reducible assumption) (fun _ _ e => e))⟩
  · have hz : (r.err == 0) = false := by rw [beq_eq_false_iff_ne]; exact he
    have HT : Hid (rText r most = (r, .empty)) := if_neg he
    clear he
    obtain ⟨g0, g1, g2, g3, g4, g5⟩ := Own.three h
    go_enter Tryz.func63, Tryz.ntmps63
    go_wp2
    go_ret
    rw [HT.out]
    exact ⟨rfl, h, by repeat (first | with_reducible exact Fr.refl _ _ | with_reducible assumption | with_reducible refine Fr.drew ?_ | with_reducible refine Fr.drewN ?_ _ | with_reducible refine Fr.alloc ?_ _ | with_reducible refine Fr.set ?_ (by first | exact fun _ => rfl | (intro hlt; exfalso; simp at hlt; try omega) | (simp; omega)) _ | with_reducible refine Fr.new_ ?_ (by assumption))⟩
end Go.Proofs.YtjcpdpdhegcgoaaGreatDoor

/- Readers: Text of the reference; Bool, End of both programs. -/
namespace Go.Proofs.YtjcpdpdhegcgoaaGreatDoor
open Go.RowKit
set_option linter.unusedVariables false


def rBool (r : Rd) : Rd × Bool :=
  if r.err = 0 then
    if (rBytes r 1).1.err = 0 then
      if ((rBytes r 1).2.toList == [121]) = true then ((rBytes r 1).1, true)
      else if ((rBytes r 1).2.toList == [110]) = true then ((rBytes r 1).1, false)
      else (⟨r.s, r.pos, 6⟩, false)
    else (⟨r.s, r.pos, (rBytes r 1).1.err⟩, false)
  else (r, false)
theorem rBool_ok {r : Rd} (h : r.ok) : (rBool r).1.ok := by
  unfold rBool
  split
  · split
    · split
      · exact rBytes_ok h 1
      · split
        · exact rBytes_ok h 1
        · exact h
    · exact h
  · exact h
theorem rBytes_cases {r : Rd} (h : r.ok) (n : Int) (he : r.err = 0) : (∃ t, rBytes r n = (⟨r.s, r.pos + n, 0⟩, t)) ∨ (∃ e, (e == 0) = false ∧ rBytes r n = (⟨r.s, r.pos, e⟩, .empty)) := by
  unfold rBytes
  rw [if_pos he]
  split
  · right
    exact ⟨1, rfl, rfl⟩
  · split
    · right
      exact ⟨4, rfl, rfl⟩
    · left
      exact ⟨_, rfl⟩
end Go.Proofs.YtjcpdpdhegcgoaaGreatDoor

/- Readers: Bool of the reference; Hash, End of both programs; awake. -/
namespace Go.Proofs.YtjcpdpdhegcgoaaGreatDoor
open Go.RowKit
set_option linter.unusedVariables false


def rEnd (r : Rd) : Rd := if r.err = 0 ∧ r.pos < r.s.size then ⟨r.s, r.pos, 5⟩ else r
theorem end_any {b : Nat} {r : Rd} {w : World} (h : OwnR w b r) (hr : r.ok) :
    Calls Tryz.prog 31 #[.pointer (some ⟨b, 0, none⟩)] w fun e w' => e = .returned (.int .i64 (rEnd r).err) ∧ OwnR w' b (rEnd r) ∧ Fr (· = b) w w' := by
  have HL := Lib.hid (fun ww hh => left_any (w := ww) (b := b) (r := r) hh hr)
  obtain ⟨s, pos, err⟩ := r
  obtain ⟨g0, g1, g2, g3, g4, g5⟩ := Own.three h
  by_cases he : err = 0
  · subst he
    by_cases hp : pos < s.size
    · have HT : Hid (rEnd ⟨s, pos, 0⟩ = ⟨s, pos, 5⟩) := if_pos ⟨rfl, hp⟩
      go_enter Tryz.func31, Tryz.ntmps31
      go_wp2_with (first | (go_at_call 65; first | (apply Calls.mono; (apply ok_zero; with_reducible assumption; exact rfl); rintro e wq ⟨rfl, rfl⟩) | (apply Calls.mono; (apply ok_some; with_reducible assumption; (first | assumption | (show _ = _; simp))); rintro e wq ⟨rfl, rfl⟩)) | (go_at_call 66; refine (HL.out _ h).mono ?_; rintro e w1 ⟨rfl, nn, rfl⟩))
      refine (err_any (r := ⟨s, pos, 5⟩) (Own.put (Own.drewN h nn) rfl)).mono ?_
      rintro e w2 ⟨rfl, rfl⟩
      go_wp2
      go_ret
      rw [HT.out]
      exact ⟨rfl, Own.put (Own.drewN h nn) rfl, by repeat (first | with_reducible exact Fr.refl _ _ | with_reducible assumption | with_reducible refine Fr.drew ?_ | with_reducible refine Fr.drewN ?_ _ | with_reducible refine Fr.alloc ?_ _ | with_reducible refine Fr.set ?_ (by first | exact fun _ => rfl | (intro hlt; exfalso; simp at hlt; try omega) | (simp; omega)) _ | with_reducible refine Fr.new_ ?_ (by assumption) | with_reducible refine Fr.trans ?_ (by with_reducible assumption) (fun _ _ e => e))⟩
    · have HT : Hid (rEnd ⟨s, pos, 0⟩ = ⟨s, pos, 0⟩) := if_neg (by simp only; omega)
      go_enter Tryz.func31, Tryz.ntmps31
      go_wp2_with (first | (go_at_call 65; first | (apply Calls.mono; (apply ok_zero; with_reducible assumption; exact rfl); rintro e wq ⟨rfl, rfl⟩) | (apply Calls.mono; (apply ok_some; with_reducible assumption; (first | assumption | (show _ = _; simp))); rintro e wq ⟨rfl, rfl⟩)) | (go_at_call 66; refine (HL.out _ h).mono ?_; rintro e w1 ⟨rfl, nn, rfl⟩))
      refine (err_any (r := ⟨s, pos, 0⟩) (Own.drewN h nn)).mono ?_
      rintro e w2 ⟨rfl, rfl⟩
      go_wp2
      go_ret
      rw [HT.out]
      exact ⟨rfl, Own.drewN h nn, by repeat (first | with_reducible exact Fr.refl _ _ | with_reducible assumption | with_reducible refine Fr.drew ?_ | with_reducible refine Fr.drewN ?_ _ | with_reducible refine Fr.alloc ?_ _ | with_reducible refine Fr.set ?_ (by first | exact fun _ => rfl | (intro hlt; exfalso; simp at hlt; try omega) | (simp; omega)) _ | with_reducible refine Fr.new_ ?_ (by assumption) | with_reducible refine Fr.trans ?_ (by with_reducible assumption) (fun _ _ e => e))⟩
  · have hz : (err == 0) = false := by rw [beq_eq_false_iff_ne]; exact he
    have HT : Hid (rEnd ⟨s, pos, err⟩ = ⟨s, pos, err⟩) := if_neg (by simp only; omega)
    clear he
    go_enter Tryz.func31, Tryz.ntmps31
    go_wp2
    go_ret
    rw [HT.out]
    exact ⟨rfl, h, by repeat (first | with_reducible exact Fr.refl _ _ | with_reducible assumption | with_reducible refine Fr.drew ?_ | with_reducible refine Fr.drewN ?_ _ | with_reducible refine Fr.alloc ?_ _ | with_reducible refine Fr.set ?_ (by first | exact fun _ => rfl | (intro hlt; exfalso; simp at hlt; try omega) | (simp; omega)) _ | with_reducible refine Fr.new_ ?_ (by assumption) | with_reducible refine Fr.trans ?_ (by with_reducible assumption) (fun _ _ e => e))⟩
theorem hash_any {b : Nat} {r : Rd} {w : World} (h : OwnR w b r) (hr : r.ok) :
    Calls Tryz.prog 61 #[.pointer (some ⟨b, 0, none⟩)] w fun e w' => e = .returned (.string (rBytes r 32).2) ∧ OwnR w' b (rBytes r 32).1 ∧ Fr (· = b) w w' := by
  have HB := Lib.hid (bytes_any h hr 32 (by omega))
  go_enter Tryz.func61, Tryz.ntmps61
  go_wp2_with (go_at_call 85; refine HB.out.mono ?_; rintro e w2 ⟨rfl, ho2, hf2⟩)
  go_ret
  exact ⟨rfl, ho2, hf2⟩
end Go.Proofs.YtjcpdpdhegcgoaaGreatDoor

/- Numbers and texts in bytes: plain laws (no program in sight): what is told is taken again. -/
namespace Go.Proofs.YtjcpdpdhegcgoaaGreatDoor
open Go.RowKit
set_option linter.unusedVariables false

theorem hexv_dig : ∀ d : Nat, d < 16 → hexv (dig d) = d := by decide
theorem numL_hexs (j : Nat) : ∀ n, numL (hexs j n) = some (n % 16 ^ j) := by
  induction j with
  | zero => intro n; simp [hexs, numL, Nat.mod_one]
  | succ j ih =>
    intro n
    rw [hexs, numL_snoc, ih]
    have hd : n % 16 < 16 := Nat.mod_lt _ (by omega)
    unfold valStep
    simp only [Option.bind_some, hexv_dig _ hd, if_pos hd, Option.some.injEq]
    have e : n % 16 ^ (j + 1) = (n / 16 % 16 ^ j) * 16 + n % 16 := by
      rw [Nat.pow_succ, Nat.mul_comm (16 ^ j) 16, Nat.mod_mul]
      omega
    exact e.symm
theorem extract_mid (a b c : ByteArray) (i j : Nat) (hi : i = a.size) (hj : j = a.size + b.size) : (a ++ b ++ c).extract i j = b := by
  subst hi hj
  apply ByteArray.ext
  apply Array.ext'
  have e1 : List.drop a.size a.data.toList = [] := List.drop_of_length_le (by simp)
  have e2 : List.take b.size b.data.toList = b.data.toList := List.take_of_length_le (by simp)
  simp [e1, e2]
theorem extract_end (a b : ByteArray) (i j : Nat) (hi : i = a.size) (hj : j = a.size + b.size) : (a ++ b).extract i j = b := by
  subst hi hj
  apply ByteArray.ext
  apply Array.ext'
  have e1 : List.drop a.size a.data.toList = [] := List.drop_of_length_le (by simp)
  have e2 : List.take b.size b.data.toList = b.data.toList := List.take_of_length_le (by simp)
  simp [e1, e2]
theorem rNumber_at (a c : ByteArray) (k n : Nat) (hk : k ≤ 8) : rNumber ⟨a ++ numB k n ++ c, a.size, 0⟩ k = (⟨a ++ numB k n ++ c, a.size + 2 * k, 0⟩, n % 16 ^ (2 * k)) := by
  have hsz := numB_size k n
  have hx : (a ++ numB k n ++ c).size = a.size + 2 * k + c.size := by simp [hsz]
  unfold rNumber
  rw [if_pos rfl, if_neg (by omega), if_neg (by simp only [hx]; omega)]
  simp only
  rw [extract_mid a (numB k n) c _ _ (by omega) (by rw [hsz]; omega)]
  show (match numL (hexs (2 * k) n) with | some n => _ | none => _) = _
  rw [numL_hexs]
theorem rBytes_at (a b c : ByteArray) (n : Int) (hn : n = b.size) : rBytes ⟨a ++ b ++ c, a.size, 0⟩ n = (⟨a ++ b ++ c, a.size + b.size, 0⟩, b) := by
  subst hn
  have hx : (a ++ b ++ c).size = a.size + b.size + c.size := by simp
  unfold rBytes
  rw [if_pos rfl, if_neg (by omega), if_neg (by simp only [hx]; omega)]
  simp only
  rw [extract_mid a b c _ _ (by omega) (by omega)]
theorem clip4 : clip 4 = 4 := by decide
theorem i64_and255 (n : Int) : bits .and .i64 n 255 = n % 256 := by
  have h127 : (BitVec.ofInt 64 255).toNat = 2 ^ 8 - 1 := by decide
  have key : (BitVec.ofInt 64 n &&& BitVec.ofInt 64 255).toNat = (n % ((2 ^ 64 : Nat) : Int)).toNat % 2 ^ 8 := by
    rw [BitVec.toNat_and, BitVec.toNat_ofInt, h127, Nat.and_two_pow_sub_one_eq_mod]
  show IntKind.i64.wrap ((BitVec.ofInt 64 n &&& BitVec.ofInt 64 255).toNat : Nat) = n % 256
  rw [key, IntKind.wrap_i64]
  omega
theorem rCount_at (a c : ByteArray) (n : Nat) (hn : n < 4294967296) (most : Int) : rCount ⟨a ++ numB 4 n ++ c, a.size, 0⟩ most = if most < 0 ∨ most < n then (⟨a ++ numB 4 n ++ c, a.size, 3⟩, 0) else (⟨a ++ numB 4 n ++ c, a.size + 8, 0⟩, (n : Int)) := by
  have h := rNumber_at a c 4 n (by omega)
  have h2 : n % 16 ^ (2 * 4) = n := Nat.mod_eq_of_lt (by simpa using hn)
  rw [h2] at h
  have h3 : rNumber ⟨a ++ numB 4 n ++ c, a.size, 0⟩ 4 = (⟨a ++ numB 4 n ++ c, a.size + 8, 0⟩, n) := by simpa using h
  unfold rCount
  rw [if_pos rfl, h3]
  rfl
theorem rText_at (a b c : ByteArray) (hb : b.size < 4294967296) (most : Int) : rText ⟨a ++ numB 4 b.size ++ b ++ c, a.size, 0⟩ most = if most < 0 ∨ most < b.size then (⟨a ++ numB 4 b.size ++ b ++ c, a.size, 3⟩, .empty) else (⟨a ++ numB 4 b.size ++ b ++ c, a.size + 8 + b.size, 0⟩, b) := by
  have hc := rCount_at a (b ++ c) b.size hb most
  rw [← ByteArray.append_assoc] at hc
  have hz : (a ++ numB 4 b.size).size = a.size + 8 := by simp [numB_size]
  have hB := rBytes_at (a ++ numB 4 b.size) b c b.size rfl
  rw [hz] at hB
  unfold rText
  rw [if_pos rfl, hc]
  by_cases hm : most < 0 ∨ most < b.size
  · rw [if_pos hm, if_pos hm]
    rw [if_neg]
    · rfl
    · simp [rBytes]
  · rw [if_neg hm, if_neg hm]
    have e : (((a.size + 8 : Nat) : Int)) = (a.size : Int) + 8 := by omega
    rw [e] at hB
    simp only
    rw [hB, if_pos rfl]
end Go.Proofs.YtjcpdpdhegcgoaaGreatDoor

/- Writers: what each call puts; Len and All. -/
namespace Go.Proofs.YtjcpdpdhegcgoaaGreatDoor
open Go.RowKit
set_option linter.unusedVariables false

/-- A writer that has put the bytes c: its buffer lies beyond B. -/
def WrB (w : World) (B b : Nat) (c : ByteArray) : Prop := B ≤ b ∧ ∃ v, Bld 86 b v c.data.toList w ∧ ∀ k, v.ownBlock = some k → B ≤ k
/-- The same, where it is only read any more. -/
def WrR (w : World) (B b : Nat) (c : ByteArray) : Prop := B ≤ b ∧ ∃ v, BldR 86 b v c.data.toList w ∧ ∀ k, v.ownBlock = some k → B ≤ k
theorem WrB.new_ {w w' : World} {B b : Nat} {c : ByteArray} (h : WrB w B b c) (f : New w w') : WrB w' B b c := by
  obtain ⟨h0, v, hv, hk⟩ := h
  exact ⟨h0, v, hv.new_ f, hk⟩
theorem WrR.new_ {w w' : World} {B b : Nat} {c : ByteArray} (h : WrR w B b c) (f : New w w') : WrR w' B b c := by
  obtain ⟨h0, v, hv, hk⟩ := h
  exact ⟨h0, v, hv.new_ f, hk⟩
theorem WrB.reads {w : World} {B b : Nat} {c : ByteArray} (h : WrB w B b c) : WrR w B b c := by
  obtain ⟨h0, v, hv, hk⟩ := h
  exact ⟨h0, v, hv.reads, hk⟩
theorem Fr.upto {w w1 w2 : World} {B : Nat} (h : New w w1) (k : Fr (B ≤ ·) w1 w2) (hB : w.heap.size ≤ B) : New w w2 := Fr.trans h k fun i hi e => by have : B ≤ i := e; omega

theorem newWriter_any (w : World) : Calls Tryz.prog 25 #[] w fun e w' => e = .returned (.pointer (some ⟨w.heap.size, 0, none⟩)) ∧ WrB w' w.heap.size w.heap.size .empty ∧ New w w' := by
  go_enter Tryz.func25, Tryz.ntmps25
  go_wp2
  go_ret
  exact ⟨rfl, ⟨Nat.le_refl _, _, Bld.fresh 86 w, fun k hk => by cases hk⟩, (Fr.refl _ _).alloc _⟩
theorem put_any {w : World} {B b : Nat} {c : ByteArray} (h : WrB w B b c) (hB : B ≤ w.heap.size) (s : ByteArray) (hlen : c.size + s.size ≤ 140737488355328) :
    Calls Tryz.prog 83 #[.pointer (some ⟨b, 0, none⟩), .string s] w fun e w' => e = .returned (.tuple #[]) ∧ WrB w' B b (c ++ s) ∧ Fr (B ≤ ·) w w' := by
  obtain ⟨h0, v, hv, hk⟩ := h
  have HW := Lib.hid (writeString_any btWriter hv s (by simpa using hlen))
  have hap : (c ++ s).data.toList = c.data.toList ++ s.data.toList := by simp
  have HA := Lib.hid hap
  clear hap hlen
  go_enter Tryz.func83, Tryz.ntmps83
  go_wp2_with fail
  refine HW.out.mono ?_
  rintro e w1 ⟨rfl, v', hv', hf, hown⟩
  go_wp2
  go_end0
  refine ⟨rfl, ⟨h0, v', by rw [HA.out]; exact hv', ?_⟩, hf.mono ?_⟩
  · intro k hk'
    rcases hown with e | ⟨k2, e, hk2⟩
    · exact hk k (e ▸ hk')
    · rw [e] at hk'
      injection hk' with hk'
      omega
  · rintro i (rfl | e)
    · exact h0
    · exact hk i e
theorem wrNumber_any {w : World} {B b : Nat} {c : ByteArray} (h : WrB w B b c) (hB : B ≤ w.heap.size) (n : Nat) (hn : n ≤ 18446744073709551615) (k : Int) (hlen : c.size + 16 ≤ 140737488355328) :
    Calls Tryz.prog 59 #[.pointer (some ⟨b, 0, none⟩), .int .u64 n, .int .i64 k] w fun e w' => e = .returned (.tuple #[]) ∧ WrB w' B b (c ++ numB (clip k) n) ∧ Fr (B ≤ ·) w w' := by
  have HN := Lib.hid (number_any n hn k)
  have hz := numB_size (clip k) n
  have hc := (clip_cases k).1
  go_enter Tryz.func59, Tryz.ntmps59
  go_wp2_with fail
  refine (HN.out _).mono ?_
  rintro e w1 ⟨rfl, hn1⟩
  go_wp2_with fail
  refine (put_any (h.new_ hn1) (by have := hn1.size; omega) (numB (clip k) n) (by omega)).mono ?_
  rintro e w2 ⟨rfl, h2, f2⟩
  go_wp2
  go_end0
  exact ⟨rfl, h2, Fr.trans (hn1.mono fun _ f => f.elim) f2 fun _ _ e => e⟩
theorem wrCount_any {w : World} {B b : Nat} {c : ByteArray} (h : WrB w B b c) (hB : B ≤ w.heap.size) (n : Int) (hn : n ≤ 9223372036854775807) (hlen : c.size + 16 ≤ 140737488355328) :
    Calls Tryz.prog 57 #[.pointer (some ⟨b, 0, none⟩), .int .i64 n] w fun e w' => e = .returned (.tuple #[]) ∧ WrB w' B b (c ++ numB 4 (max n 0).toNat) ∧ Fr (B ≤ ·) w w' := by
  rcases (by omega : n < 0 ∨ 0 ≤ n) with hc | hc
  · have HN := Lib.hid (number_any 0 (by omega) 4)
    have hz := numB_size 4 0
    rw [clip4] at HN
    rw [show (max n 0).toNat = 0 by omega]
    go_enter Tryz.func57, Tryz.ntmps57
    go_wp2_with fail
    refine (HN.out _).mono ?_
    rintro e w1 ⟨rfl, hn1⟩
    go_wp2_with fail
    refine (put_any (h.new_ hn1) (by have := hn1.size; omega) (numB 4 0) (by omega)).mono ?_
    rintro e w2 ⟨rfl, h2, f2⟩
    go_wp2
    go_end0
    exact ⟨rfl, h2, Fr.trans (hn1.mono fun _ f => f.elim) f2 fun _ _ e => e⟩
  · obtain ⟨m, rfl⟩ := Int.eq_ofNat_of_zero_le hc
    have HN := Lib.hid (number_any m (by omega) 4)
    have hz := numB_size 4 m
    rw [clip4] at HN
    rw [show (max (m : Int) 0).toNat = m by omega]
    go_enter Tryz.func57, Tryz.ntmps57
    go_wp2_with fail
    refine (HN.out _).mono ?_
    rintro e w1 ⟨rfl, hn1⟩
    go_wp2_with fail
    refine (put_any (h.new_ hn1) (by have := hn1.size; omega) (numB 4 m) (by omega)).mono ?_
    rintro e w2 ⟨rfl, h2, f2⟩
    go_wp2
    go_end0
    exact ⟨rfl, h2, Fr.trans (hn1.mono fun _ f => f.elim) f2 fun _ _ e => e⟩
def textB (s : ByteArray) : ByteArray := numB 4 s.size ++ s
theorem wrText_any {w : World} {B b : Nat} {c : ByteArray} (h : WrB w B b c) (hB : B ≤ w.heap.size) (s : ByteArray) (hlen : c.size + s.size + 16 ≤ 140737488355328) :
    Calls Tryz.prog 58 #[.pointer (some ⟨b, 0, none⟩), .string s] w fun e w' => e = .returned (.tuple #[]) ∧ WrB w' B b (c ++ textB s) ∧ Fr (B ≤ ·) w w' := by
  have HN := Lib.hid (number_any s.size (by omega) 4)
  have hz := numB_size 4 s.size
  have HT : Hid (textB s = numB 4 s.size ++ s) := rfl
  rw [clip4] at HN
  obtain ⟨nb, hnb⟩ : ∃ nb, numB 4 s.size = nb := ⟨_, rfl⟩
  rw [hnb] at HN hz HT
  clear hnb
  go_enter Tryz.func58, Tryz.ntmps58
  go_wp2_with fail
  refine (HN.out _).mono ?_
  rintro e w1 ⟨rfl, hn1⟩
  go_wp2_with fail
  refine (put_any (h.new_ hn1) (by have := hn1.size; omega) (nb ++ s) (by rw [ByteArray.size_append]; omega)).mono ?_
  rintro e w2 ⟨rfl, h2, f2⟩
  go_wp2
  go_end0
  refine ⟨rfl, ?_, Fr.trans (hn1.mono fun _ f => f.elim) f2 fun _ _ e => e⟩
  rw [HT.out]
  exact h2
def boolB (y : Bool) : ByteArray := if y = true then ⟨#[121]⟩ else ⟨#[110]⟩
theorem wrAll_any {w : World} {B b : Nat} {c : ByteArray} (h : WrR w B b c) :
    Calls Tryz.prog 28 #[.pointer (some ⟨b, 0, none⟩)] w fun e w' => e = .returned (.string c) ∧ WrR w' B b c ∧ Fr (B ≤ ·) w w' := by
  obtain ⟨h0, v, hv, hk⟩ := h
  have HL := Lib.hid (bldString_any btWriter hv)
  have hl : (⟨c.data.toList.toArray⟩ : ByteArray) = c := by cases c; simp
  rw [hl] at HL
  clear hl
  go_enter Tryz.func28, Tryz.ntmps28
  go_wp2_with fail
  refine HL.out.mono ?_
  rintro e w1 ⟨rfl, h1, f1⟩
  go_wp2
  go_ret
  exact ⟨rfl, ⟨h0, v, h1, hk⟩, f1.mono fun i e => hk i e⟩
end Go.Proofs.YtjcpdpdhegcgoaaGreatDoor
