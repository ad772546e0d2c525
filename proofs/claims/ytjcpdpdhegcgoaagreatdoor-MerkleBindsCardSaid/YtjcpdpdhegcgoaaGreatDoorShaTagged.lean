/- The digest of parts for a purpose. -/
import Derived.Test.YtjcpdpdhegcgoaaGreatDoorShaSum
import Derived.Test.YtjcpdpdhegcgoaaGreatDoorShaRefSum
namespace Go.Proofs.YtjcpdpdhegcgoaaGreatDoor
open Go.RowKit
set_option linter.unusedVariables false

/-- Two builders of the call's own. -/
def Two (w : World) (a b : Nat) (c d : List UInt8) (W : World) : Prop :=
  ∃ v u, Bld 84 a v c W ∧ Bld 84 b u d W ∧ a ≠ b ∧ w.heap.size ≤ a ∧ w.heap.size ≤ b ∧ (∀ k, v.ownBlock = some k → w.heap.size ≤ k ∧ u.ownBlock ≠ some k) ∧ (∀ k, u.ownBlock = some k → w.heap.size ≤ k) ∧ New w W
theorem Two.swap {w : World} {a b : Nat} {c d : List UInt8} {W : World} (h : Two w a b c d W) : Two w b a d c W := by
  obtain ⟨v, u, h1, h2, h3, h4, h5, h6, h7, h8⟩ := h
  exact ⟨u, v, h2, h1, fun e => h3 e.symm, h5, h4, fun k hk => ⟨h7 k hk, fun e => (h6 k e).2 hk⟩, fun k hk => (h6 k hk).1, h8⟩
theorem Two.new_ {w : World} {a b : Nat} {c d : List UInt8} {W W' : World} (h : Two w a b c d W) (g : New W W') : Two w a b c d W' := by
  obtain ⟨v, u, h1, h2, h3, h4, h5, h6, h7, h8⟩ := h
  exact ⟨v, u, h1.new_ g, h2.new_ g, h3, h4, h5, h6, h7, h8.new_ g⟩
theorem Two.news {w : World} {a b : Nat} {c d : List UInt8} {W : World} (h : Two w a b c d W) : New w W := by
  obtain ⟨v, u, h1, h2, h3, h4, h5, h6, h7, h8⟩ := h
  exact h8
/-- What a write to the first one leaves. -/
theorem Two.write {w : World} {a b : Nat} {v u : Value} {c c' d : List UInt8} {W W' : World} (h1 : Bld 84 a v c W) (h2 : Bld 84 b u d W) (h3 : a ≠ b) (h4 : w.heap.size ≤ a) (h5 : w.heap.size ≤ b)
    (h6 : ∀ k, v.ownBlock = some k → w.heap.size ≤ k ∧ u.ownBlock ≠ some k) (h7 : ∀ k, u.ownBlock = some k → w.heap.size ≤ k) (h8 : New w W) (s : BldStep 84 a v c' W W') : Two w a b c' d W' := by
  obtain ⟨v', hb, hf, ho⟩ := s
  have hz := h8.size
  have hub : ∀ k, u.ownBlock = some k → ¬ (k = a ∨ v.ownBlock = some k) := by
    rintro k hk (rfl | e)
    · obtain ⟨⟨p, _, hoa⟩, _, _⟩ := h1
      obtain ⟨_, hown, _⟩ := h2
      exact Lib.ownBlock_ne hown hoa btBuilder.ne hk
    · exact (h6 k e).2 hk
  have hba : ¬ (b = a ∨ v.ownBlock = some b) := by
    rintro (e | e)
    · exact h3 e.symm
    · obtain ⟨⟨p, _, hob⟩, _, _⟩ := h2
      obtain ⟨_, hown, _⟩ := h1
      exact Lib.ownBlock_ne hown hob btBuilder.ne e
  refine ⟨v', u, hb, h2.fr hf hba hub, h3, h4, h5, ?_, h7, h8.trans hf ?_⟩
  · intro k hk
    rcases ho with e | ⟨k', e, hk'⟩
    · exact h6 k (e ▸ hk)
    · rw [e] at hk
      injection hk with hk
      subst hk
      exact ⟨by omega, fun e2 => by have := h2.lt.2 _ e2; omega⟩
  · rintro k hk (rfl | e)
    · omega
    · have := (h6 k e).1; omega
theorem two_string {w : World} {a b : Nat} {c d : List UInt8} {W : World} (h : Two w a b c d W) (s : ByteArray) (hlen : c.length + s.size ≤ 140737488355328) :
    Calls Tryz.prog 75 #[.pointer (some ⟨a, 0, none⟩), .string s] W fun e w' => e = .returned (.tuple #[.int .i64 s.size, .nilIface]) ∧ Two w a b (c ++ s.data.toList) d w' := by
  obtain ⟨v, u, h1, h2, h3, h4, h5, h6, h7, h8⟩ := h
  exact (writeString_any btBuilder h1 s hlen).mono fun e w' ⟨he, hs⟩ => ⟨he, Two.write h1 h2 h3 h4 h5 h6 h7 h8 hs⟩
theorem two_byte {w : World} {a b : Nat} {c d : List UInt8} {W : World} (h : Two w a b c d W) (x : UInt8) (hlen : c.length + 1 ≤ 140737488355328) :
    Calls Tryz.prog 74 #[.pointer (some ⟨a, 0, none⟩), .int .u8 x.toNat] W fun e w' => e = .returned .nilIface ∧ Two w a b (c ++ [x]) d w' := by
  obtain ⟨v, u, h1, h2, h3, h4, h5, h6, h7, h8⟩ := h
  exact (writeByte_any btBuilder h1 x hlen).mono fun e w' ⟨he, hs⟩ => ⟨he, Two.write h1 h2 h3 h4 h5 h6 h7 h8 hs⟩
/-- Both are told. -/
theorem two_tell {w : World} {a b : Nat} {c d : List UInt8} {W : World} (h : Two w a b c d W) :
    Calls Tryz.prog 60 #[.pointer (some ⟨a, 0, none⟩)] W fun e w' => e = .returned (.string ⟨c.toArray⟩) ∧ ∃ u, BldR 84 b u d w' ∧ (∀ k, u.ownBlock = some k → w.heap.size ≤ k) ∧ New w w' := by
  obtain ⟨v, u, h1, h2, h3, h4, h5, h6, h7, h8⟩ := h
  refine (bldString_any btBuilder h1.reads).mono fun e w' ⟨he, _, hf⟩ => ⟨he, u, h2.reads.fr hf ?_ ?_, h7, h8.trans hf ?_⟩
  · intro e
    obtain ⟨⟨p, _, hob⟩, _, _⟩ := h2
    obtain ⟨_, hown, _⟩ := h1
    exact Lib.ownBlock_ne hown hob btBuilder.ne e
  · intro k hk e
    exact (h6 k e).2 hk
  · intro k hk e
    have := (h6 k e).1
    omega

/-- The text's first part: the lengths. -/
def headL (p : UInt8) (n : Nat) (V : Nat → ByteArray) (i : Nat) : List UInt8 := p :: bytesN 4 n ++ ((List.range i).map V).flatMap fun t => bytesN 4 t.size
def tailL (V : Nat → ByteArray) (i : Nat) : List UInt8 := ((List.range i).map V).flatMap fun t => t.data.toList
def partsV (p : UInt8) (n : Nat) (V : Nat → ByteArray) : ByteArray := ⟨(headL p n V n ++ tailL V n).toArray⟩
theorem headL_succ (p : UInt8) (n : Nat) (V : Nat → ByteArray) (i : Nat) : headL p n V (i + 1) = headL p n V i ++ bytesN 4 (V i).size := by
  unfold headL
  rw [List.range_succ, List.map_append, List.flatMap_append]
  simp
theorem tailL_succ (V : Nat → ByteArray) (i : Nat) : tailL V (i + 1) = tailL V i ++ (V i).data.toList := by
  unfold tailL
  rw [List.range_succ, List.map_append, List.flatMap_append]
  simp
theorem headL_length (p : UInt8) (n : Nat) (V : Nat → ByteArray) (i : Nat) : (headL p n V i).length = 5 + 4 * i := by
  induction i with
  | zero => simp [headL, bytesN_length]
  | succ i ih => rw [headL_succ, List.length_append, ih, bytesN_length]; omega
theorem tailL_length (V : Nat → ByteArray) (i : Nat) (h : ∀ j, j < i → (V j).size ≤ 100000) : (tailL V i).length ≤ 100000 * i := by
  induction i with
  | zero => simp [tailL]
  | succ i ih =>
    rw [tailL_succ, List.length_append, data_len]
    have := ih (fun j hj => h j (by omega))
    have := h i (by omega)
    omega
theorem num4_any (n : Nat) (hn : n ≤ 18446744073709551615) (w : World) : Calls Tryz.prog 76 #[.int .u64 n, .int .i64 4] w fun e w' => e = .returned (.string ⟨(bytesN 4 n).toArray⟩) ∧ New w w' := shaNumber_any n 4 hn (by omega) (by omega) w
theorem num4_size (n : Nat) : (⟨(bytesN 4 n).toArray⟩ : ByteArray).size = 4 := by rw [← data_len]; exact bytesN_length 4 n

set_option maxRecDepth 100000 in
set_option maxHeartbeats 2000000 in
theorem tagged_fit (p : UInt8) (A : Option Addr) (n cap : Nat) (V : Nat → ByteArray) (w : World) (hsl : Sl w 1 A n fun i => [.string (V i)]) (hn : n ≤ 1000) (hT : ∀ i, i ≤ n → (tailL V i).length + 4 * n ≤ 140737488351900) :
    Calls Tryz.prog 47 #[.int .u8 p.toNat, .slice A n cap] w fun e w' => e = .returned (.string (shaB (partsV p n V))) ∧ New w w' := by
  have hn2 : (n : Int) ≤ 1000 := by omega
  have T0 : Two w w.heap.size (w.heap.size + 1) [] [] ((w.alloc (.cells #[.pointer none, .slice none 0 0] 84)).alloc (.cells #[.pointer none, .slice none 0 0] 84)) := by
    refine ⟨.slice none 0 0, .slice none 0 0, (Bld.fresh _ w).new_ ((Fr.refl _ _).alloc _), ?_, by omega, by omega, by omega, by simp [Value.ownBlock], by simp [Value.ownBlock], ((Fr.refl _ _).alloc _).alloc _⟩
    have h := Bld.fresh 84 (w.alloc (.cells #[.pointer none, .slice none 0 0] 84))
    simpa using h
  go_enter Tryz.func47, Tryz.ntmps47
  go_wp2_with fail
  refine (two_byte T0 p (by simp)).mono ?_
  rintro e w1 ⟨rfl, T1⟩
  clear T0
  go_wp2_with fail
  refine (num4_any n (by omega) _).mono ?_
  rintro e w2 ⟨rfl, g2⟩
  have T2 := T1.new_ g2
  have hz4 := num4_size n
  clear T1 g2
  go_wp2_with fail
  refine (two_string T2 _ (by rw [hz4]; simp)).mono ?_
  rintro e w3 ⟨rfl, T3⟩
  clear T2
  go_wp2_with fail
  go_loopw [18] (fun iv wr => ∃ i : Nat, i ≤ n ∧ iv = .int .i64 i ∧ Two w w.heap.size (w.heap.size + 1) (headL p n V i) (tailL V i) wr) (fun iv _ => n - (intOf iv).toNat)
  case atStart => exact ⟨0, by omega, rfl, T3⟩
  case round =>
    clear T3
    obtain ⟨i, hi, rfl, T⟩ := hrel
    by_cases hlt : i < n
    · have hlt2 : (i : Int) < (n : Int) := by omega
      have hvi : (tailL V i).length + (V i).size + 4 * n ≤ 140737488351900 := by
        have := hT (i + 1) (by omega)
        rw [tailL_succ, List.length_append, data_len] at this
        exact this
      obtain ⟨sb, so, hA, hc⟩ := (hsl.new_ T.news).2 i hlt
      have hc0 := hc 0 _ rfl
      simp only [Nat.mul_one, Nat.add_zero] at hc0
      have HH := headL_succ p n V i
      have HL := tailL_succ V i
      have l1 := headL_length p n V i
      have l2 := hT i (by omega)
      have hzi := num4_size (V i).size
      obtain ⟨vi, hvv⟩ : ∃ v, V i = v := ⟨_, rfl⟩
      rw [hvv] at hc0 HH HL hvi hzi
      have H1 := Lib.hid HH
      have H2 := Lib.hid HL
      have HAA := Lib.hid hA
      clear HH HL hc hvv
      subst hA
      go_wp2_with fail
      refine (num4_any vi.size (by omega) _).mono ?_
      rintro e w2 ⟨rfl, g2⟩
      have T2 := T.new_ g2
      clear T g2 hc0
      go_wp2_with fail
      refine (two_string T2 _ (by rw [hzi]; omega)).mono ?_
      rintro e w3 ⟨rfl, T3⟩
      clear T2
      go_wp2_with fail
      refine (two_string T3.swap vi (by omega)).mono ?_
      rintro e w4 ⟨rfl, T4⟩
      clear T3
      go_wp2_with fail
      go_roundw
      case rel => exact ⟨i + 1, by omega, by go_num, by rw [H1.out, H2.out]; exact T4.swap⟩
      case measure => simp [intOf]; omega
    · have hlt2 : ¬ (i : Int) < (n : Int) := by omega
      obtain rfl : i = n := by omega
      have l1 := headL_length p i V i
      have l2 := hT i (by omega)
      go_wp2_with fail
      refine (two_tell T).mono ?_
      rintro e w2 ⟨rfl, u, hb, hu, n2⟩
      have s1 : (⟨(headL p i V i).toArray⟩ : ByteArray).size = (headL p i V i).length := (data_len _).symm
      have s2 : (⟨(tailL V i).toArray⟩ : ByteArray).size = (tailL V i).length := (data_len _).symm
      go_wp2_with fail
      refine (bldString_any btBuilder hb).mono ?_
      rintro e w3 ⟨rfl, _, f3⟩
      have n3 : New w w3 := n2.trans f3 fun k hk e => by have := hu k e; omega
      have sz : (⟨(headL p i V i).toArray⟩ ++ ⟨(tailL V i).toArray⟩ : ByteArray).size ≤ 140737488352000 := by rw [ByteArray.size_append, s1, s2]; omega
      have e0 : (⟨(headL p i V i).toArray⟩ ++ ⟨(tailL V i).toArray⟩ : ByteArray) = partsV p i V := by
        apply ByteArray.ext
        apply Array.ext'
        rw [app_list]
        rfl
      have HS := Lib.hid (fun w => sum_any (⟨(headL p i V i).toArray⟩ ++ ⟨(tailL V i).toArray⟩) sz w)
      rw [e0] at HS
      have HE := Lib.hid e0
      clear e0 sz
      go_wp2_with fail
      rw [HE.out]
      refine (HS.out _).mono ?_
      rintro e w4 ⟨rfl, g4⟩
      go_wp2
      go_ret
      exact ⟨rfl, n3.new_ g4⟩
theorem tagged_any (p : UInt8) (A : Option Addr) (n cap : Nat) (V : Nat → ByteArray) (w : World) (hsl : Sl w 1 A n fun i => [.string (V i)]) (hn : n ≤ 1000) (hV : ∀ j, j < n → (V j).size ≤ 100000) :
    Calls Tryz.prog 47 #[.int .u8 p.toNat, .slice A n cap] w fun e w' => e = .returned (.string (shaB (partsV p n V))) ∧ New w w' :=
  tagged_fit p A n cap V w hsl hn fun i hi => by
    have := tailL_length V i (fun j hj => hV j (by omega))
    omega
/-- Four bytes of a number. -/
theorem four_list (n : Nat) (hn : n ≤ 4294967295) : bytesN 4 n = [UInt8.ofNat (n / 16777216), UInt8.ofNat (n / 65536 % 256), UInt8.ofNat (n / 256 % 256), UInt8.ofNat (n % 256)] := by
  simp only [bytesN, Nat.div_div_eq_div_mul, List.nil_append, List.cons_append]
  rw [show n / (256 * 256 * 256) % 256 = n / 16777216 by omega]
set_option maxRecDepth 100000 in
theorem four_any (n : Nat) (hn : n ≤ 4294967295) (w : World) : Calls Tryz.prog 102 #[.int .i64 n] w fun e w' => e = .returned (.string ⟨(bytesN 4 n).toArray⟩) ∧ New w w' := by
  have hn2 : (n : Int) ≤ 4294967295 := by omega
  have hc := run_convert_bytes_back (P := Tryz.prog) (w.alloc (.cells #[.int .u8 ((n : Int) / 16777216), .int .u8 ((n : Int) / 65536 % 256), .int .u8 ((n : Int) / 256 % 256), .int .u8 ((n : Int) % 256)] 5)) 82 9 5 ⟨w.heap.size, 0, none⟩ 4 (bytesN 4 n) Tryz.underlying82 Tryz.underlying5 Tryz.underlying9 (fun j hj => by
    rw [four_list n hn] at hj
    have hj4 : j < 4 := by simpa using hj
    have e : (⟨w.heap.size, 0, none⟩ : Addr).add j = ⟨w.heap.size, j, none⟩ := by unfold Addr.add; split <;> simp_all
    rw [e, (Own.fresh w 5 _).cell j]
    simp only [four_list n hn]
    have : j = 0 ∨ j = 1 ∨ j = 2 ∨ j = 3 := by omega
    rcases this with rfl | rfl | rfl | rfl
    · simp; omega
    · simp
    · simp
    · simp)
  rw [bytesN_length] at hc
  go_enter Tryz.func102, Tryz.ntmps102
  go_wp2
  go_ret
  exact ⟨rfl, by repeat (first | with_reducible exact Fr.refl _ _ | with_reducible assumption | with_reducible refine Fr.drew ?_ | with_reducible refine Fr.drewN ?_ _ | with_reducible refine Fr.alloc ?_ _ | with_reducible refine Fr.set ?_ (by first | exact fun _ => rfl | (intro hlt; exfalso; simp at hlt; try omega) | (simp; omega)) _ | with_reducible refine Fr.new_ ?_ (by with_reducible assumption) | (with_reducible refine Fr.trans ?_ (by with_reducible assumption) (fun i hi e => by (first | omega | (simp at e; omega)))))⟩
end Go.Proofs.YtjcpdpdhegcgoaaGreatDoor
