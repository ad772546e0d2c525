/- The numbers behind a block. -/
import Derived.Test.YtjcpdpdhegcgoaaGreatDoorShaA
import Derived.Test.YtjcpdpdhegcgoaaGreatDoorSplit
import Derived.Handy
namespace Go.Proofs.YtjcpdpdhegcgoaaGreatDoor
open Go.RowKit
set_option linter.unusedVariables false

/-- Sixteen words in a ring. -/
def ringV (f : Nat → W64) : Array Value := #[U (f 0), U (f 1), U (f 2), U (f 3), U (f 4), U (f 5), U (f 6), U (f 7), U (f 8), U (f 9), U (f 10), U (f 11), U (f 12), U (f 13), U (f 14), U (f 15)]
theorem ringV_get (f : Nat → W64) : ∀ j, j < 16 → (ringV f)[j]? = some (U (f j)) := by
  intro j hj
  have : j = 0 ∨ j = 1 ∨ j = 2 ∨ j = 3 ∨ j = 4 ∨ j = 5 ∨ j = 6 ∨ j = 7 ∨ j = 8 ∨ j = 9 ∨ j = 10 ∨ j = 11 ∨ j = 12 ∨ j = 13 ∨ j = 14 ∨ j = 15 := by omega
  rcases this with rfl | rfl | rfl | rfl | rfl | rfl | rfl | rfl | rfl | rfl | rfl | rfl | rfl | rfl | rfl | rfl <;> rfl
theorem ringV_size (f : Nat → W64) : (ringV f).size = 16 := rfl
theorem ringV_set (f : Nat → W64) (a : Nat) (ha : a < 16) (v : W64) : (ringV f).setIfInBounds a (U v) = ringV (fun j => if j = a then v else f j) := by
  apply Array.ext_getElem?
  intro j
  rw [Array.getElem?_setIfInBounds]
  by_cases hj : j < 16
  · rw [ringV_get _ j hj, ringV_get _ j hj]
    by_cases h : a = j
    · subst h
      simp [ringV_size, ha]
    · rw [if_neg h, if_neg (fun e => h e.symm)]
  · rw [Array.getElem?_eq_none (by rw [ringV_size]; omega), Array.getElem?_eq_none (by rw [ringV_size]; omega)]
    split <;> first | rfl | (split <;> first | rfl | (rename_i h _; rw [ringV_size] at *; omega))
theorem and15 : ∀ n : Nat, n < 100 → bits .and .i64 (n : Int) 15 = ((n % 16 : Nat) : Int) := by decide +kernel
theorem Own.eight {w : World} {b : Nat} {t : TypeId} {v0 v1 v2 v3 v4 v5 v6 v7 : Value} (h : Own w b t #[v0, v1, v2, v3, v4, v5, v6, v7]) :
    (w.cell? ⟨b, 0, none⟩ = some v0 ∧ w.cell? ⟨b, 1, none⟩ = some v1 ∧ w.cell? ⟨b, 2, none⟩ = some v2 ∧ w.cell? ⟨b, 3, none⟩ = some v3 ∧ w.cell? ⟨b, 4, none⟩ = some v4 ∧ w.cell? ⟨b, 5, none⟩ = some v5 ∧ w.cell? ⟨b, 6, none⟩ = some v6 ∧ w.cell? ⟨b, 7, none⟩ = some v7) ∧ ∀ i, w.frozen? ⟨b, i, none⟩ = false :=
  ⟨⟨h.cell 0, h.cell 1, h.cell 2, h.cell 3, h.cell 4, h.cell 5, h.cell 6, h.cell 7⟩, fun i => h.free i⟩
theorem Own.ring {w : World} {b : Nat} {t : TypeId} {f : Nat → W64} (h : Own w b t (ringV f)) : (∀ i, i < 16 → w.cell? ⟨b, i, none⟩ = some (U (f i))) ∧ ∀ i, w.frozen? ⟨b, i, none⟩ = false :=
  ⟨fun i hi => by rw [h.cell i, ringV_get f i hi], fun i => h.free i⟩
theorem run_index80 (cs : Array Value) (i : Nat) (hi : i < 80) (v : Value) (h : cs[i]? = some v) (w : World) : (Instr.index 160 (.agg cs) (.int .i64 (i : Int))).run Tryz.prog w = .ok v w := by
  simp [Instr.index, asIntOf, run_underlying Tryz.underlying160, part, go_sem, hi, h]
theorem word_bits (t : ByteArray) (i : Nat) (h : i < 16) (ht : t.size = 128) : 8 ≤ (t.extract (8 * i) 128).size ∧ (t.extract (8 * i) 128).size ≤ 9223372036854775807 ∧ wordL ((t.extract (8 * i) 128).data.toList.take 8) = blockW t.data.toList i := by
  refine ⟨?_, ?_, ?_⟩
  · rw [ByteArray.size_extract]; omega
  · rw [ByteArray.size_extract]; omega
  · unfold blockW
    congr 1
    rw [ByteArray.data_extract, Array.toList_extract, List.extract_eq_take_drop, List.take_take]
    congr 1
    omega
theorem slide_a (x : W64) (w : World) : Calls Tryz.prog 113 #[U x, .int .i64 1, .int .i64 8, .int .i64 7] w fun e w' => e = .returned (U (slide3 x 1 8 7)) ∧ ∃ m, w' = w.drewN m := slide_any x 1 8 7 (by omega) (by omega) (by omega) w
theorem slide_b (x : W64) (w : World) : Calls Tryz.prog 113 #[U x, .int .i64 19, .int .i64 61, .int .i64 6] w fun e w' => e = .returned (U (slide3 x 19 61 6)) ∧ ∃ m, w' = w.drewN m := slide_any x 19 61 6 (by omega) (by omega) (by omega) w
theorem fold_a (x : W64) (w : World) : Calls Tryz.prog 114 #[U x, .int .i64 14, .int .i64 18, .int .i64 41] w fun e w' => e = .returned (U (fold3 x 14 18 41)) ∧ w = w' := fold_any x 14 18 41 (by omega) (by omega) (by omega) w
theorem fold_b (x : W64) (w : World) : Calls Tryz.prog 114 #[U x, .int .i64 28, .int .i64 34, .int .i64 39] w fun e w' => e = .returned (U (fold3 x 28 34 39)) ∧ w = w' := fold_any x 28 34 39 (by omega) (by omega) (by omega) w
/-- What holds in the midst of a step: the ring holds this step's word. -/
def MixM (w : World) (s : ShaS) (f : Nat → W64) (x : ShaS) (W : World) : Prop :=
  Own W w.heap.size 140 s.cells ∧ Own W (w.heap.size + 1) 140 #[.int .u64 0, .int .u64 0, .int .u64 0, .int .u64 0, .int .u64 0, .int .u64 0, .int .u64 0, .int .u64 0] ∧
  Own W (w.heap.size + 1 + 1) 159 (ringV f) ∧ Own W (w.heap.size + 1 + 1 + 1) 140 x.cells ∧ New w W
/-- The ring behind a step. -/
theorem ring_next (f g : Nat → W64) (W : Nat → W64) (i a : Nat) (v : W64) (ha : i % 16 = a) (hf : ∀ m, m < i → i ≤ m + 16 → f (m % 16) = W m) (hv : W i = v) (hg : ∀ j, j < 16 → g j = if j = a then v else f j) :
    ∀ m, m < i + 1 → i + 1 ≤ m + 16 → g (m % 16) = W m := by
  intro m h1 h2
  rw [hg _ (Nat.mod_lt _ (by omega))]
  by_cases h : m = i
  · subst h
    rw [if_pos ha, hv]
  · rw [if_neg (by omega), hf m (by omega) (by omega)]
theorem wadd_ (a b : W64) : IntKind.u64.wrap ((a.toNat : Int) + (b.toNat : Int)) = ((a + b).toNat : Int) := by rw [IntKind.wrap_u64, badd_]
theorem choice_eq (e f g : W64) : g ^^^ e &&& (f ^^^ g) = (e &&& f) ^^^ (~~~e &&& g) := by
  apply BitVec.eq_of_getLsbD_eq
  intro i hi
  simp only [BitVec.getLsbD_xor, BitVec.getLsbD_and, BitVec.getLsbD_not, hi, decide_true, Bool.true_and]
  cases e.getLsbD i <;> cases f.getLsbD i <;> cases g.getLsbD i <;> rfl
theorem most_eq (a b c : W64) : a &&& b ||| c &&& (a ||| b) = (a &&& b) ^^^ (a &&& c) ^^^ (b &&& c) := by
  apply BitVec.eq_of_getLsbD_eq
  intro i hi
  simp only [BitVec.getLsbD_xor, BitVec.getLsbD_and, BitVec.getLsbD_or]
  cases a.getLsbD i <;> cases b.getLsbD i <;> cases c.getLsbD i <;> rfl
theorem step_cells (x : ShaS) (k v ch mo T : W64) (h1 : x.g ^^^ x.e &&& (x.f ^^^ x.g) = ch) (h2 : x.a &&& x.b ||| x.c &&& (x.a ||| x.b) = mo) (h3 : x.h + fold3 x.e 14 18 41 + ch + k + v = T) :
    (x.step k v).cells = #[U (T + fold3 x.a 28 34 39 + mo), U x.a, U x.b, U x.c, U (x.d + T), U x.e, U x.f, U x.g] := by
  rw [choice_eq] at h1
  rw [most_eq] at h2
  have e1 : shaT x k v = T := by rw [← h3, ← h1]; rfl
  have e2 : shaU x = fold3 x.a 28 34 39 + mo := by rw [← h2]; rfl
  unfold ShaS.step
  rw [e1, e2, ← BitVec.add_assoc]
theorem run_index8 (cs : Array Value) (i : Nat) (hi : i < 8) (v : Value) (h : cs[i]? = some v) (w : World) : (Instr.index 140 (.agg cs) (.int .i64 (i : Int))).run Tryz.prog w = .ok v w := by
  simp [Instr.index, asIntOf, run_underlying Tryz.underlying140, part, go_sem, hi, h]
/-- The numbers when so many are summed. -/
def partV (s x : ShaS) : Nat → Array Value
  | 0 => #[U s.a, U s.b, U s.c, U s.d, U s.e, U s.f, U s.g, U s.h]
  | 1 => #[U (s.a + x.a), U s.b, U s.c, U s.d, U s.e, U s.f, U s.g, U s.h]
  | 2 => #[U (s.a + x.a), U (s.b + x.b), U s.c, U s.d, U s.e, U s.f, U s.g, U s.h]
  | 3 => #[U (s.a + x.a), U (s.b + x.b), U (s.c + x.c), U s.d, U s.e, U s.f, U s.g, U s.h]
  | 4 => #[U (s.a + x.a), U (s.b + x.b), U (s.c + x.c), U (s.d + x.d), U s.e, U s.f, U s.g, U s.h]
  | 5 => #[U (s.a + x.a), U (s.b + x.b), U (s.c + x.c), U (s.d + x.d), U (s.e + x.e), U s.f, U s.g, U s.h]
  | 6 => #[U (s.a + x.a), U (s.b + x.b), U (s.c + x.c), U (s.d + x.d), U (s.e + x.e), U (s.f + x.f), U s.g, U s.h]
  | 7 => #[U (s.a + x.a), U (s.b + x.b), U (s.c + x.c), U (s.d + x.d), U (s.e + x.e), U (s.f + x.f), U (s.g + x.g), U s.h]
  | _ => #[U (s.a + x.a), U (s.b + x.b), U (s.c + x.c), U (s.d + x.d), U (s.e + x.e), U (s.f + x.f), U (s.g + x.g), U (s.h + x.h)]
theorem results_own {fn : Func} {p b n : Nat} {ty e : TypeId} {P : Program} {W : World} {cs : Array Value} (h : fn.results = #[.cell p ty]) (tmps : Array Value) (ht : tmps.getD p undef = .pointer (some ⟨b, 0, none⟩)) (ho : Own W b ty cs)
    (hu : P.underlying ty = some (.array n e)) (hi : (P.info? ty).map (·.size) = some cs.size) : (results fn tmps).run P W = .ok (.agg cs) W := by
  have hl := run_loadVar_row (P := P) W b ty ty cs (0, 0) _ ho hu rfl hi
  rw [results_cell1 h, ht]
  simp [asAddr, Result.andThen, hl]
/-- What holds at each step's head. -/
def MixI (w : World) (s : ShaS) (l : List UInt8) (i : Nat) (W : World) : Prop :=
  Own W w.heap.size 140 s.cells ∧ Own W (w.heap.size + 1) 140 #[.int .u64 0, .int .u64 0, .int .u64 0, .int .u64 0, .int .u64 0, .int .u64 0, .int .u64 0, .int .u64 0] ∧
  (∃ f, Own W (w.heap.size + 1 + 1) 159 (ringV f) ∧ ∀ m, m < i → i ≤ m + 16 → f (m % 16) = shaW l s m) ∧
  Own W (w.heap.size + 1 + 1 + 1) 140 (shaRun l s i).2.cells ∧ New w W

set_option maxRecDepth 100000 in
set_option maxHeartbeats 4000000 in
theorem mix_any (s : ShaS) (t : ByteArray) (ht : t.size = 128) (w : World) :
    Calls Tryz.prog 98 #[.agg s.cells, .string t] w fun e w' => e = .returned (.agg (shaMix s t.data.toList).cells) ∧ New w w' := by
  have ha := blt s.a
  go_enter Tryz.func98, Tryz.ntmps98
  go_wp2_with fail
  refine (salt_any _).mono ?_
  rintro e w1 ⟨rfl, g1⟩
  go_wp2
  go_loopw [21] (fun iv wr => ∃ i : Nat, i ≤ 80 ∧ iv = .int .i64 i ∧ MixI w s t.data.toList i wr) (fun iv _ => 80 - (intOf iv).toNat)
  case atStart =>
    refine ⟨0, by omega, rfl, ?_, ?_, ⟨fun _ => 0#64, ?_, fun m hm => by omega⟩, ?_, ?_⟩
    · repeat (first | with_reducible assumption | with_reducible exact Own.fresh _ _ _ | (with_reducible apply Own.new'; simp; done) | with_reducible apply Own.drew | with_reducible apply Own.drewN | with_reducible apply Own.alloc | with_reducible apply Own.put | ((with_reducible apply Own.off); (focus (first | (simp; done) | (simp; omega) | omega))) | (with_reducible refine Own.new_ ?_ (by with_reducible assumption)) | rfl | (refine Own.fr ?_ (by with_reducible assumption) (by show ¬ (_ = _); omega)))
    · repeat (first | with_reducible assumption | with_reducible exact Own.fresh _ _ _ | (with_reducible apply Own.new'; simp; done) | with_reducible apply Own.drew | with_reducible apply Own.drewN | with_reducible apply Own.alloc | with_reducible apply Own.put | ((with_reducible apply Own.off); (focus (first | (simp; done) | (simp; omega) | omega))) | (with_reducible refine Own.new_ ?_ (by with_reducible assumption)) | rfl | (refine Own.fr ?_ (by with_reducible assumption) (by show ¬ (_ = _); omega)))
    · have h : Own w1 (w.heap.size + 1 + 1) 159 #[.int .u64 0, .int .u64 0, .int .u64 0, .int .u64 0, .int .u64 0, .int .u64 0, .int .u64 0, .int .u64 0, .int .u64 0, .int .u64 0, .int .u64 0, .int .u64 0, .int .u64 0, .int .u64 0, .int .u64 0, .int .u64 0] := by repeat (first | with_reducible assumption | with_reducible exact Own.fresh _ _ _ | (with_reducible apply Own.new'; simp; done) | with_reducible apply Own.drew | with_reducible apply Own.drewN | with_reducible apply Own.alloc | with_reducible apply Own.put | ((with_reducible apply Own.off); (focus (first | (simp; done) | (simp; omega) | omega))) | (with_reducible refine Own.new_ ?_ (by with_reducible assumption)) | rfl | (refine Own.fr ?_ (by with_reducible assumption) (by show ¬ (_ = _); omega)))
      exact h
    · show Own _ _ _ s.cells
      repeat (first | with_reducible assumption | with_reducible exact Own.fresh _ _ _ | (with_reducible apply Own.new'; simp; done) | with_reducible apply Own.drew | with_reducible apply Own.drewN | with_reducible apply Own.alloc | with_reducible apply Own.put | ((with_reducible apply Own.off); (focus (first | (simp; done) | (simp; omega) | omega))) | (with_reducible refine Own.new_ ?_ (by with_reducible assumption)) | rfl | (refine Own.fr ?_ (by with_reducible assumption) (by show ¬ (_ = _); omega)))
    · repeat (first | with_reducible exact Fr.refl _ _ | with_reducible assumption | with_reducible refine Fr.drew ?_ | with_reducible refine Fr.drewN ?_ _ | with_reducible refine Fr.alloc ?_ _ | with_reducible refine Fr.set ?_ (by first | exact fun _ => rfl | (intro hlt; exfalso; simp at hlt; try omega) | (simp; omega)) _ | with_reducible refine Fr.new_ ?_ (by with_reducible assumption) | (with_reducible refine Fr.trans ?_ (by with_reducible assumption) (fun i hi e => by (first | omega | (simp at e; omega)))))
  case round =>
    obtain ⟨i, hi, rfl, ho, hz, ⟨f, hr, hf⟩, hx, hn⟩ := hrel
    by_cases hlt : i < 80
    · have hlt2 : (i : Int) < 80 := by omega
      have hi1 := and15 i (by omega)
      have hi2 := and15 (i + 1) (by omega)
      have hi3 := and15 (i + 9) (by omega)
      have hi4 := and15 (i + 14) (by omega)
      simp only [Int.natCast_add, Int.cast_ofNat_Int] at hi2 hi3 hi4
      obtain ⟨a, ea⟩ : ∃ a, i % 16 = a := ⟨_, rfl⟩
      obtain ⟨b, eb⟩ : ∃ a, (i + 1) % 16 = a := ⟨_, rfl⟩
      obtain ⟨c, ec⟩ : ∃ a, (i + 9) % 16 = a := ⟨_, rfl⟩
      obtain ⟨d, ed⟩ : ∃ a, (i + 14) % 16 = a := ⟨_, rfl⟩
      have ha16 : (a : Int) < 16 := by omega
      have hb16 : (b : Int) < 16 := by omega
      have hc16 : (c : Int) < 16 := by omega
      have hd16 : (d : Int) < 16 := by omega
      rw [ea] at hi1
      rw [eb] at hi2
      rw [ec] at hi3
      rw [ed] at hi4
      obtain ⟨k, hk⟩ : ∃ k, salts.getD i 0 = k := ⟨_, rfl⟩
      have hsalt : saltV[i]? = some (U k) := by
        rw [← hk, saltV_eq]
        have hl : salts.length = 80 := rfl
        simp [List.getD, hl, hlt]
      have hk2 := blt k
      have hidx := fun w => run_index80 saltV i hlt (U k) hsalt w
      obtain ⟨x, hX⟩ : ∃ x, (shaRun t.data.toList s i).2 = x := ⟨_, rfl⟩
      rw [hX] at hx
      have HX := Lib.hid hX
      have HK := Lib.hid hk
      have HA := Lib.hid ea
      have HB := Lib.hid eb
      have HC := Lib.hid ec
      have HD := Lib.hid ed
      have HF := Lib.hid hf
      clear hX hk ea eb ec ed hf
      obtain ⟨⟨x0, x1, x2, x3, x4, x5, x6, x7⟩, xf⟩ := hx.eight
      by_cases h16 : i < 16
      · have h16' : (i : Int) < 16 := by omega
        have hb0 := word_bits t i h16 ht
        go_wp2_with fail
        refine (word_any _ hb0.1 hb0.2.1 _).mono ?_
        rintro e w2 ⟨rfl, g2⟩
        rw [hb0.2.2, ← shaW_low _ s _ h16]
        obtain ⟨v, hv⟩ : ∃ v, shaW t.data.toList s i = v := ⟨_, rfl⟩
        rw [hv]
        have HV := Lib.hid hv
        have vb := blt v
        clear hv hb0 x0 x1 x2 x3 x4 x5 x6 x7 xf
        have ho2 := ho.new_ g2
        have hz2 := hz.new_ g2
        have hr2 := hr.new_ g2
        have hx2 := hx.new_ g2
        have hn2 := hn.new_ g2
        clear ho hz hr hx hn g2
        obtain ⟨⟨x0, x1, x2, x3, x4, x5, x6, x7⟩, xf⟩ := hx2.eight
        have ra := hr2.ring.1 a (by omega)
        have rfa := hr2.ring.2 a
        go_wp2_with fail
        simp only [bx_, ba_, bo_]
        obtain ⟨ch, hch⟩ : ∃ ch, x.g ^^^ x.e &&& (x.f ^^^ x.g) = ch := ⟨_, rfl⟩
        obtain ⟨mo, hmo⟩ : ∃ mo, x.a &&& x.b ||| x.c &&& (x.a ||| x.b) = mo := ⟨_, rfl⟩
        rw [hch, hmo]
        have HCH := Lib.hid hch
        have HMO := Lib.hid hmo
        clear hch hmo
        obtain ⟨g, hg⟩ : ∃ g : Nat → W64, g = fun j => if j = a then v else f j := ⟨_, rfl⟩
        have hgs : (ringV f).setIfInBounds a (U v) = ringV g := by rw [hg]; exact ringV_set f a (by omega) v
        have hM : MixM w s g x (w2.setCell ⟨w.heap.size + 1 + 1, a, none⟩ (.int .u64 v.toNat)) := ⟨by repeat (first | with_reducible assumption | with_reducible exact Own.fresh _ _ _ | (with_reducible apply Own.new'; simp; done) | with_reducible apply Own.drew | with_reducible apply Own.drewN | with_reducible apply Own.alloc | with_reducible apply Own.put | ((with_reducible apply Own.off); (focus (first | (simp; done) | (simp; omega) | omega))) | (with_reducible refine Own.new_ ?_ (by with_reducible assumption)) | rfl | (refine Own.fr ?_ (by with_reducible assumption) (by show ¬ (_ = _); omega))), by repeat (first | with_reducible assumption | with_reducible exact Own.fresh _ _ _ | (with_reducible apply Own.new'; simp; done) | with_reducible apply Own.drew | with_reducible apply Own.drewN | with_reducible apply Own.alloc | with_reducible apply Own.put | ((with_reducible apply Own.off); (focus (first | (simp; done) | (simp; omega) | omega))) | (with_reducible refine Own.new_ ?_ (by with_reducible assumption)) | rfl | (refine Own.fr ?_ (by with_reducible assumption) (by show ¬ (_ = _); omega))), hr2.put hgs, by repeat (first | with_reducible assumption | with_reducible exact Own.fresh _ _ _ | (with_reducible apply Own.new'; simp; done) | with_reducible apply Own.drew | with_reducible apply Own.drewN | with_reducible apply Own.alloc | with_reducible apply Own.put | ((with_reducible apply Own.off); (focus (first | (simp; done) | (simp; omega) | omega))) | (with_reducible refine Own.new_ ?_ (by with_reducible assumption)) | rfl | (refine Own.fr ?_ (by with_reducible assumption) (by show ¬ (_ = _); omega))), by repeat (first | with_reducible exact Fr.refl _ _ | with_reducible assumption | with_reducible refine Fr.drew ?_ | with_reducible refine Fr.drewN ?_ _ | with_reducible refine Fr.alloc ?_ _ | with_reducible refine Fr.set ?_ (by first | exact fun _ => rfl | (intro hlt; exfalso; simp at hlt; try omega) | (simp; omega)) _ | with_reducible refine Fr.new_ ?_ (by with_reducible assumption) | (with_reducible refine Fr.trans ?_ (by with_reducible assumption) (fun i hi e => by (first | omega | (simp at e; omega)))))⟩
        refine wp_world (MixM w s g x) hM ?_
        have HG := Lib.hid (ring_next f g (shaW t.data.toList s) i a v HA.out HF.out HV.out (fun j _ => by rw [hg]))
        have hga : g a = v := by rw [hg]; exact if_pos rfl
        clear hM hgs hg ho2 hz2 hr2 hx2 hn2 x0 x1 x2 x3 x4 x5 x6 x7 xf ra rfa
        rintro W3 ⟨ho3, hz3, hr3, hx3, hn3⟩
        obtain ⟨⟨x0, x1, x2, x3, x4, x5, x6, x7⟩, xf⟩ := hx3.eight
        have ra := hr3.ring.1 a (by omega)
        rw [hga] at ra
        clear hga
        go_quiet ((go_at_call 114; with_reducible exact Calls.quiet_of (Calls.drew_of (fold_a _ _))))
        go_wp2_with fail
        simp only [wadd_]
        obtain ⟨T, hT⟩ : ∃ T, x.h + fold3 x.e 14 18 41 + ch + k + v = T := ⟨_, rfl⟩
        rw [hT]
        have HT := Lib.hid hT
        clear hT
        have hM2 : MixM w s g x (W3.drewN nq) := ⟨ho3.drewN _, hz3.drewN _, hr3.drewN _, hx3.drewN _, hn3.drewN _⟩
        refine wp_world (MixM w s g x) hM2 ?_
        clear hM2 ho3 hz3 hr3 hx3 hn3 x0 x1 x2 x3 x4 x5 x6 x7 xf ra
        rintro W4 ⟨ho4, hz4, hr4, hx4, hn4⟩
        obtain ⟨⟨x0, x1, x2, x3, x4, x5, x6, x7⟩, xf⟩ := hx4.eight
        apply wp_region_cut 24; (focus (simp only [List.take_succ_cons, List.take_zero]; exact rfl)); (focus (simp only [List.drop_succ_cons, List.drop_zero]; exact rfl)); (focus kernel_rfl); (focus kernel_rfl); (focus kernel_rfl); (focus kernel_rfl); (focus kernel_rfl); (focus kernel_rfl)
        repeat (go_big_quiet_step (fail))
        go_big_quiet_want; go_big_quiet_op; apply Exists.intro; refine ⟨fun _ => ?_, ?_⟩; (focus (with_reducible exact Calls.quiet_of (Calls.drew_of (fold_b x.a _)))); go_big_quiet_on
        repeat (go_big_quiet_step (fail))
        refine wpQuiet_nil ?_; rintro _ ⟨nq, rfl⟩ _ _
        go_wp2_with fail
        go_roundw
        case rel =>
          refine ⟨i + 1, by omega, by go_num, ?_⟩
          simp only [wadd_]
          have hc : (shaRun t.data.toList s (i + 1)).2.cells = #[U (T + fold3 x.a 28 34 39 + mo), U x.a, U x.b, U x.c, U (x.d + T), U x.e, U x.f, U x.g] := by
            rw [shaRun_succ, HX.out, HK.out, HV.out]
            exact step_cells x k v ch mo T HCH.out HMO.out HT.out
          refine ⟨by repeat (first | with_reducible assumption | with_reducible exact Own.fresh _ _ _ | (with_reducible apply Own.new'; simp; done) | with_reducible apply Own.drew | with_reducible apply Own.drewN | with_reducible apply Own.alloc | with_reducible apply Own.put | ((with_reducible apply Own.off); (focus (first | (simp; done) | (simp; omega) | omega))) | (with_reducible refine Own.new_ ?_ (by with_reducible assumption)) | rfl | (refine Own.fr ?_ (by with_reducible assumption) (by show ¬ (_ = _); omega))), by repeat (first | with_reducible assumption | with_reducible exact Own.fresh _ _ _ | (with_reducible apply Own.new'; simp; done) | with_reducible apply Own.drew | with_reducible apply Own.drewN | with_reducible apply Own.alloc | with_reducible apply Own.put | ((with_reducible apply Own.off); (focus (first | (simp; done) | (simp; omega) | omega))) | (with_reducible refine Own.new_ ?_ (by with_reducible assumption)) | rfl | (refine Own.fr ?_ (by with_reducible assumption) (by show ¬ (_ = _); omega))), ⟨g, by repeat (first | with_reducible assumption | with_reducible exact Own.fresh _ _ _ | (with_reducible apply Own.new'; simp; done) | with_reducible apply Own.drew | with_reducible apply Own.drewN | with_reducible apply Own.alloc | with_reducible apply Own.put | ((with_reducible apply Own.off); (focus (first | (simp; done) | (simp; omega) | omega))) | (with_reducible refine Own.new_ ?_ (by with_reducible assumption)) | rfl | (refine Own.fr ?_ (by with_reducible assumption) (by show ¬ (_ = _); omega))), HG.out⟩, ?_, by repeat (first | with_reducible exact Fr.refl _ _ | with_reducible assumption | with_reducible refine Fr.drew ?_ | with_reducible refine Fr.drewN ?_ _ | with_reducible refine Fr.alloc ?_ _ | with_reducible refine Fr.set ?_ (by first | exact fun _ => rfl | (intro hlt; exfalso; simp at hlt; try omega) | (simp; omega)) _ | with_reducible refine Fr.new_ ?_ (by with_reducible assumption) | (with_reducible refine Fr.trans ?_ (by with_reducible assumption) (fun i hi e => by (first | omega | (simp at e; omega)))))⟩
          rw [hc]
          repeat (first | with_reducible assumption | with_reducible exact Own.fresh _ _ _ | (with_reducible apply Own.new'; simp; done) | with_reducible apply Own.drew | with_reducible apply Own.drewN | with_reducible apply Own.alloc | with_reducible apply Own.put | ((with_reducible apply Own.off); (focus (first | (simp; done) | (simp; omega) | omega))) | (with_reducible refine Own.new_ ?_ (by with_reducible assumption)) | rfl | (refine Own.fr ?_ (by with_reducible assumption) (by show ¬ (_ = _); omega)))
        case measure => simp [intOf]; omega
      · have h16' : ¬ (i : Int) < 16 := by omega
        have ra := hr.ring.1 a (by omega)
        have rb := hr.ring.1 b (by omega)
        have rc := hr.ring.1 c (by omega)
        have rd := hr.ring.1 d (by omega)
        have rfa := hr.ring.2 a
        have hw1 : IntKind.i64.wrap ((i : Int) + 1) = (i : Int) + 1 := by rw [IntKind.wrap_i64]; omega
        have hw9 : IntKind.i64.wrap ((i : Int) + 9) = (i : Int) + 9 := by rw [IntKind.wrap_i64]; omega
        have hw14 : IntKind.i64.wrap ((i : Int) + 14) = (i : Int) + 14 := by rw [IntKind.wrap_i64]; omega
        obtain ⟨v, HV⟩ : ∃ v, Hid (shaW t.data.toList s i = v) := ⟨_, rfl⟩
        have hv : f a + (slide3 (f b) 1 8 7 + f c + slide3 (f d) 19 61 6) = v := by
          rw [← HV.out, shaW_next _ _ _ (by omega), ← BitVec.add_assoc, ← BitVec.add_assoc]
          have e1 := HF.out (i - 16) (by omega) (by omega)
          have e2 := HF.out (i - 15) (by omega) (by omega)
          have e3 := HF.out (i - 7) (by omega) (by omega)
          have e4 := HF.out (i - 2) (by omega) (by omega)
          rw [← e1, ← e2, ← e3, ← e4, show (i - 16) % 16 = a from by have := HA.out; omega, show (i - 15) % 16 = b from by have := HB.out; omega, show (i - 7) % 16 = c from by have := HC.out; omega, show (i - 2) % 16 = d from by have := HD.out; omega]
        have vb := blt v
        have HVV := Lib.hid hv
        clear hv
        go_wp2_with fail
        apply wp_region_cut 24; (focus (simp only [List.take_succ_cons, List.take_zero]; exact rfl)); (focus (simp only [List.drop_succ_cons, List.drop_zero]; exact rfl)); (focus kernel_rfl); (focus kernel_rfl); (focus kernel_rfl); (focus kernel_rfl); (focus kernel_rfl); (focus kernel_rfl)
        repeat (go_big_quiet_step (fail))
        go_big_quiet_want; go_big_quiet_op; apply Exists.intro; refine ⟨fun _ => ?_, ?_⟩; (focus (with_reducible exact Calls.quiet_of (slide_a (f b) _))); go_big_quiet_on
        repeat (go_big_quiet_step (fail))
        go_big_quiet_want; go_big_quiet_op; apply Exists.intro; refine ⟨fun _ => ?_, ?_⟩; (focus (with_reducible exact Calls.quiet_of (slide_b (f d) _))); go_big_quiet_on
        repeat (go_big_quiet_step (fail))
        refine wpQuiet_nil ?_; rintro _ ⟨nq, rfl⟩ _ _
        go_wp2_with fail
        have hv := HVV.out
        simp only [bx_, ba_, bo_, wadd_]
        rw [hv]
        obtain ⟨ch, hch⟩ : ∃ ch, x.g ^^^ x.e &&& (x.f ^^^ x.g) = ch := ⟨_, rfl⟩
        obtain ⟨mo, hmo⟩ : ∃ mo, x.a &&& x.b ||| x.c &&& (x.a ||| x.b) = mo := ⟨_, rfl⟩
        rw [hch, hmo]
        have HCH := Lib.hid hch
        have HMO := Lib.hid hmo
        clear hch hmo
        obtain ⟨g, hg⟩ : ∃ g : Nat → W64, g = fun j => if j = a then v else f j := ⟨_, rfl⟩
        have hgs : (ringV f).setIfInBounds a (U v) = ringV g := by rw [hg]; exact ringV_set f a (by omega) v
        have hM : MixM w s g x ((wr.drewN nq).setCell ⟨w.heap.size + 1 + 1, a, none⟩ (.int .u64 v.toNat)) := ⟨by repeat (first | with_reducible assumption | with_reducible exact Own.fresh _ _ _ | (with_reducible apply Own.new'; simp; done) | with_reducible apply Own.drew | with_reducible apply Own.drewN | with_reducible apply Own.alloc | with_reducible apply Own.put | ((with_reducible apply Own.off); (focus (first | (simp; done) | (simp; omega) | omega))) | (with_reducible refine Own.new_ ?_ (by with_reducible assumption)) | rfl | (refine Own.fr ?_ (by with_reducible assumption) (by show ¬ (_ = _); omega))), by repeat (first | with_reducible assumption | with_reducible exact Own.fresh _ _ _ | (with_reducible apply Own.new'; simp; done) | with_reducible apply Own.drew | with_reducible apply Own.drewN | with_reducible apply Own.alloc | with_reducible apply Own.put | ((with_reducible apply Own.off); (focus (first | (simp; done) | (simp; omega) | omega))) | (with_reducible refine Own.new_ ?_ (by with_reducible assumption)) | rfl | (refine Own.fr ?_ (by with_reducible assumption) (by show ¬ (_ = _); omega))), (hr.drewN nq).put hgs, by repeat (first | with_reducible assumption | with_reducible exact Own.fresh _ _ _ | (with_reducible apply Own.new'; simp; done) | with_reducible apply Own.drew | with_reducible apply Own.drewN | with_reducible apply Own.alloc | with_reducible apply Own.put | ((with_reducible apply Own.off); (focus (first | (simp; done) | (simp; omega) | omega))) | (with_reducible refine Own.new_ ?_ (by with_reducible assumption)) | rfl | (refine Own.fr ?_ (by with_reducible assumption) (by show ¬ (_ = _); omega))), by repeat (first | with_reducible exact Fr.refl _ _ | with_reducible assumption | with_reducible refine Fr.drew ?_ | with_reducible refine Fr.drewN ?_ _ | with_reducible refine Fr.alloc ?_ _ | with_reducible refine Fr.set ?_ (by first | exact fun _ => rfl | (intro hlt; exfalso; simp at hlt; try omega) | (simp; omega)) _ | with_reducible refine Fr.new_ ?_ (by with_reducible assumption) | (with_reducible refine Fr.trans ?_ (by with_reducible assumption) (fun i hi e => by (first | omega | (simp at e; omega)))))⟩
        refine wp_world (MixM w s g x) hM ?_
        have HG := Lib.hid (ring_next f g (shaW t.data.toList s) i a v HA.out HF.out HV.out (fun j _ => by rw [hg]))
        have hga : g a = v := by rw [hg]; exact if_pos rfl
        clear hM hgs hg ho hz hr hx hn x0 x1 x2 x3 x4 x5 x6 x7 xf ra rb rc rd rfa
        clear nq
        rintro W3 ⟨ho3, hz3, hr3, hx3, hn3⟩
        obtain ⟨⟨x0, x1, x2, x3, x4, x5, x6, x7⟩, xf⟩ := hx3.eight
        have ra := hr3.ring.1 a (by omega)
        rw [hga] at ra
        clear hga
        go_quiet ((go_at_call 114; with_reducible exact Calls.quiet_of (Calls.drew_of (fold_a _ _))))
        go_wp2_with fail
        simp only [wadd_]
        obtain ⟨T, hT⟩ : ∃ T, x.h + fold3 x.e 14 18 41 + ch + k + v = T := ⟨_, rfl⟩
        rw [hT]
        have HT := Lib.hid hT
        clear hT
        have hM2 : MixM w s g x (W3.drewN nq) := ⟨ho3.drewN _, hz3.drewN _, hr3.drewN _, hx3.drewN _, hn3.drewN _⟩
        refine wp_world (MixM w s g x) hM2 ?_
        clear hM2 ho3 hz3 hr3 hx3 hn3 x0 x1 x2 x3 x4 x5 x6 x7 xf ra
        rintro W4 ⟨ho4, hz4, hr4, hx4, hn4⟩
        obtain ⟨⟨x0, x1, x2, x3, x4, x5, x6, x7⟩, xf⟩ := hx4.eight
        apply wp_region_cut 24; (focus (simp only [List.take_succ_cons, List.take_zero]; exact rfl)); (focus (simp only [List.drop_succ_cons, List.drop_zero]; exact rfl)); (focus kernel_rfl); (focus kernel_rfl); (focus kernel_rfl); (focus kernel_rfl); (focus kernel_rfl); (focus kernel_rfl)
        repeat (go_big_quiet_step (fail))
        go_big_quiet_want; go_big_quiet_op; apply Exists.intro; refine ⟨fun _ => ?_, ?_⟩; (focus (with_reducible exact Calls.quiet_of (Calls.drew_of (fold_b x.a _)))); go_big_quiet_on
        repeat (go_big_quiet_step (fail))
        refine wpQuiet_nil ?_; rintro _ ⟨nq, rfl⟩ _ _
        go_wp2_with fail
        go_roundw
        case rel =>
          refine ⟨i + 1, by omega, by go_num, ?_⟩
          simp only [wadd_]
          have hc : (shaRun t.data.toList s (i + 1)).2.cells = #[U (T + fold3 x.a 28 34 39 + mo), U x.a, U x.b, U x.c, U (x.d + T), U x.e, U x.f, U x.g] := by
            rw [shaRun_succ, HX.out, HK.out, HV.out]
            exact step_cells x k v ch mo T HCH.out HMO.out HT.out
          refine ⟨by repeat (first | with_reducible assumption | with_reducible exact Own.fresh _ _ _ | (with_reducible apply Own.new'; simp; done) | with_reducible apply Own.drew | with_reducible apply Own.drewN | with_reducible apply Own.alloc | with_reducible apply Own.put | ((with_reducible apply Own.off); (focus (first | (simp; done) | (simp; omega) | omega))) | (with_reducible refine Own.new_ ?_ (by with_reducible assumption)) | rfl | (refine Own.fr ?_ (by with_reducible assumption) (by show ¬ (_ = _); omega))), by repeat (first | with_reducible assumption | with_reducible exact Own.fresh _ _ _ | (with_reducible apply Own.new'; simp; done) | with_reducible apply Own.drew | with_reducible apply Own.drewN | with_reducible apply Own.alloc | with_reducible apply Own.put | ((with_reducible apply Own.off); (focus (first | (simp; done) | (simp; omega) | omega))) | (with_reducible refine Own.new_ ?_ (by with_reducible assumption)) | rfl | (refine Own.fr ?_ (by with_reducible assumption) (by show ¬ (_ = _); omega))), ⟨g, by repeat (first | with_reducible assumption | with_reducible exact Own.fresh _ _ _ | (with_reducible apply Own.new'; simp; done) | with_reducible apply Own.drew | with_reducible apply Own.drewN | with_reducible apply Own.alloc | with_reducible apply Own.put | ((with_reducible apply Own.off); (focus (first | (simp; done) | (simp; omega) | omega))) | (with_reducible refine Own.new_ ?_ (by with_reducible assumption)) | rfl | (refine Own.fr ?_ (by with_reducible assumption) (by show ¬ (_ = _); omega))), HG.out⟩, ?_, by repeat (first | with_reducible exact Fr.refl _ _ | with_reducible assumption | with_reducible refine Fr.drew ?_ | with_reducible refine Fr.drewN ?_ _ | with_reducible refine Fr.alloc ?_ _ | with_reducible refine Fr.set ?_ (by first | exact fun _ => rfl | (intro hlt; exfalso; simp at hlt; try omega) | (simp; omega)) _ | with_reducible refine Fr.new_ ?_ (by with_reducible assumption) | (with_reducible refine Fr.trans ?_ (by with_reducible assumption) (fun i hi e => by (first | omega | (simp at e; omega)))))⟩
          rw [hc]
          repeat (first | with_reducible assumption | with_reducible exact Own.fresh _ _ _ | (with_reducible apply Own.new'; simp; done) | with_reducible apply Own.drew | with_reducible apply Own.drewN | with_reducible apply Own.alloc | with_reducible apply Own.put | ((with_reducible apply Own.off); (focus (first | (simp; done) | (simp; omega) | omega))) | (with_reducible refine Own.new_ ?_ (by with_reducible assumption)) | rfl | (refine Own.fr ?_ (by with_reducible assumption) (by show ¬ (_ = _); omega)))
        case measure => simp [intOf]; omega
    · obtain rfl : i = 80 := by omega
      obtain ⟨x, hX⟩ : ∃ x, (shaRun t.data.toList s 80).2 = x := ⟨_, rfl⟩
      rw [hX] at hx
      have HX := Lib.hid hX
      have hx' := hx
      clear hX hf hr hlt hi
      obtain ⟨⟨x0, x1, x2, x3, x4, x5, x6, x7⟩, xf⟩ := hx.eight
      obtain ⟨⟨y0, y1, y2, y3, y4, y5, y6, y7⟩, yf⟩ := ho.eight
      obtain ⟨⟨z0, z1, z2, z3, z4, z5, z6, z7⟩, zf⟩ := hz.eight
      have i0 : ∀ w, (Instr.index 140 (.agg #[U x.a, U x.b, U x.c, U x.d, U x.e, U x.f, U x.g, U x.h]) (.int .i64 0)).run Tryz.prog w = .ok (U x.a) w := fun w => run_index8 _ 0 (by decide) _ rfl w
      have i1 : ∀ w, (Instr.index 140 (.agg #[U x.a, U x.b, U x.c, U x.d, U x.e, U x.f, U x.g, U x.h]) (.int .i64 1)).run Tryz.prog w = .ok (U x.b) w := fun w => run_index8 _ 1 (by decide) _ rfl w
      have i2 : ∀ w, (Instr.index 140 (.agg #[U x.a, U x.b, U x.c, U x.d, U x.e, U x.f, U x.g, U x.h]) (.int .i64 2)).run Tryz.prog w = .ok (U x.c) w := fun w => run_index8 _ 2 (by decide) _ rfl w
      have i3 : ∀ w, (Instr.index 140 (.agg #[U x.a, U x.b, U x.c, U x.d, U x.e, U x.f, U x.g, U x.h]) (.int .i64 3)).run Tryz.prog w = .ok (U x.d) w := fun w => run_index8 _ 3 (by decide) _ rfl w
      have i4 : ∀ w, (Instr.index 140 (.agg #[U x.a, U x.b, U x.c, U x.d, U x.e, U x.f, U x.g, U x.h]) (.int .i64 4)).run Tryz.prog w = .ok (U x.e) w := fun w => run_index8 _ 4 (by decide) _ rfl w
      have i5 : ∀ w, (Instr.index 140 (.agg #[U x.a, U x.b, U x.c, U x.d, U x.e, U x.f, U x.g, U x.h]) (.int .i64 5)).run Tryz.prog w = .ok (U x.f) w := fun w => run_index8 _ 5 (by decide) _ rfl w
      have i6 : ∀ w, (Instr.index 140 (.agg #[U x.a, U x.b, U x.c, U x.d, U x.e, U x.f, U x.g, U x.h]) (.int .i64 6)).run Tryz.prog w = .ok (U x.g) w := fun w => run_index8 _ 6 (by decide) _ rfl w
      have i7 : ∀ w, (Instr.index 140 (.agg #[U x.a, U x.b, U x.c, U x.d, U x.e, U x.f, U x.g, U x.h]) (.int .i64 7)).run Tryz.prog w = .ok (U x.h) w := fun w => run_index8 _ 7 (by decide) _ rfl w
      have hn' := hn
      clear xf x0 x1 x2 x3 x4 x5 x6 x7
      clear hx
      have hxx : Own wr (w.heap.size + 1 + 1 + 1) 140 #[U x.a, U x.b, U x.c, U x.d, U x.e, U x.f, U x.g, U x.h] := hx'
      obtain ⟨⟨x0, x1, x2, x3, x4, x5, x6, x7⟩, xf⟩ := hxx.eight
      clear y0 y1 y2 y3 y4 y5 y6 y7 yf z0 z1 z2 z3 z4 z5 z6 z7 zf
      go_wp2_with fail
      go_loopw [125] (fun iv wr => ∃ i : Nat, i ≤ 8 ∧ iv = .int .i64 i ∧ Own wr w.heap.size 140 (partV s x i) ∧ Own wr (w.heap.size + 1) 140 #[.int .u64 0, .int .u64 0, .int .u64 0, .int .u64 0, .int .u64 0, .int .u64 0, .int .u64 0, .int .u64 0] ∧ New w wr) (fun iv _ => 8 - (intOf iv).toNat)
      case atStart => exact ⟨0, by omega, rfl, ho, hz, hn⟩
      case round =>
        clear ho hz hn x0 x1 x2 x3 x4 x5 x6 x7 xf hxx hx' hn'
        obtain ⟨i, hi, rfl, ho, hz, hn⟩ := hrel
        have hcase : i = 0 ∨ i = 1 ∨ i = 2 ∨ i = 3 ∨ i = 4 ∨ i = 5 ∨ i = 6 ∨ i = 7 ∨ i = 8 := by omega
        rcases hcase with rfl | rfl | rfl | rfl | rfl | rfl | rfl | rfl | rfl
        · have ho2 : Own _ w.heap.size 140 #[U s.a, U s.b, U s.c, U s.d, U s.e, U s.f, U s.g, U s.h] := ho
          obtain ⟨⟨y0, y1, y2, y3, y4, y5, y6, y7⟩, yf⟩ := ho2.eight
          clear i1 i2 i3 i4 i5 i6 i7
          go_wp2_with fail
          go_roundw
          case rel => 
            refine ⟨1, by omega, by go_num, ?_, by repeat (first | with_reducible assumption | with_reducible exact Own.fresh _ _ _ | (with_reducible apply Own.new'; simp; done) | with_reducible apply Own.drew | with_reducible apply Own.drewN | with_reducible apply Own.alloc | with_reducible apply Own.put | ((with_reducible apply Own.off); (focus (first | (simp; done) | (simp; omega) | omega))) | (with_reducible refine Own.new_ ?_ (by with_reducible assumption)) | rfl | (refine Own.fr ?_ (by with_reducible assumption) (by show ¬ (_ = _); omega))), by repeat (first | with_reducible exact Fr.refl _ _ | with_reducible assumption | with_reducible refine Fr.drew ?_ | with_reducible refine Fr.drewN ?_ _ | with_reducible refine Fr.alloc ?_ _ | with_reducible refine Fr.set ?_ (by first | exact fun _ => rfl | (intro hlt; exfalso; simp at hlt; try omega) | (simp; omega)) _ | with_reducible refine Fr.new_ ?_ (by with_reducible assumption) | (with_reducible refine Fr.trans ?_ (by with_reducible assumption) (fun i hi e => by (first | omega | (simp at e; omega)))))⟩
            show Own _ _ _ #[U (s.a + x.a), U s.b, U s.c, U s.d, U s.e, U s.f, U s.g, U s.h]
            simp only [wadd_]
            repeat (first | with_reducible assumption | with_reducible exact Own.fresh _ _ _ | (with_reducible apply Own.new'; simp; done) | with_reducible apply Own.drew | with_reducible apply Own.drewN | with_reducible apply Own.alloc | with_reducible apply Own.put | ((with_reducible apply Own.off); (focus (first | (simp; done) | (simp; omega) | omega))) | (with_reducible refine Own.new_ ?_ (by with_reducible assumption)) | rfl | (refine Own.fr ?_ (by with_reducible assumption) (by show ¬ (_ = _); omega)))
          case measure => simp [intOf]
        · have ho2 : Own _ w.heap.size 140 #[U (s.a + x.a), U s.b, U s.c, U s.d, U s.e, U s.f, U s.g, U s.h] := ho
          obtain ⟨⟨y0, y1, y2, y3, y4, y5, y6, y7⟩, yf⟩ := ho2.eight
          clear i0 i2 i3 i4 i5 i6 i7
          go_wp2_with fail
          go_roundw
          case rel => 
            refine ⟨2, by omega, by go_num, ?_, by repeat (first | with_reducible assumption | with_reducible exact Own.fresh _ _ _ | (with_reducible apply Own.new'; simp; done) | with_reducible apply Own.drew | with_reducible apply Own.drewN | with_reducible apply Own.alloc | with_reducible apply Own.put | ((with_reducible apply Own.off); (focus (first | (simp; done) | (simp; omega) | omega))) | (with_reducible refine Own.new_ ?_ (by with_reducible assumption)) | rfl | (refine Own.fr ?_ (by with_reducible assumption) (by show ¬ (_ = _); omega))), by repeat (first | with_reducible exact Fr.refl _ _ | with_reducible assumption | with_reducible refine Fr.drew ?_ | with_reducible refine Fr.drewN ?_ _ | with_reducible refine Fr.alloc ?_ _ | with_reducible refine Fr.set ?_ (by first | exact fun _ => rfl | (intro hlt; exfalso; simp at hlt; try omega) | (simp; omega)) _ | with_reducible refine Fr.new_ ?_ (by with_reducible assumption) | (with_reducible refine Fr.trans ?_ (by with_reducible assumption) (fun i hi e => by (first | omega | (simp at e; omega)))))⟩
            show Own _ _ _ #[U (s.a + x.a), U (s.b + x.b), U s.c, U s.d, U s.e, U s.f, U s.g, U s.h]
            simp only [wadd_]
            repeat (first | with_reducible assumption | with_reducible exact Own.fresh _ _ _ | (with_reducible apply Own.new'; simp; done) | with_reducible apply Own.drew | with_reducible apply Own.drewN | with_reducible apply Own.alloc | with_reducible apply Own.put | ((with_reducible apply Own.off); (focus (first | (simp; done) | (simp; omega) | omega))) | (with_reducible refine Own.new_ ?_ (by with_reducible assumption)) | rfl | (refine Own.fr ?_ (by with_reducible assumption) (by show ¬ (_ = _); omega)))
          case measure => simp [intOf]
        · have ho2 : Own _ w.heap.size 140 #[U (s.a + x.a), U (s.b + x.b), U s.c, U s.d, U s.e, U s.f, U s.g, U s.h] := ho
          obtain ⟨⟨y0, y1, y2, y3, y4, y5, y6, y7⟩, yf⟩ := ho2.eight
          clear i0 i1 i3 i4 i5 i6 i7
          go_wp2_with fail
          go_roundw
          case rel => 
            refine ⟨3, by omega, by go_num, ?_, by repeat (first | with_reducible assumption | with_reducible exact Own.fresh _ _ _ | (with_reducible apply Own.new'; simp; done) | with_reducible apply Own.drew | with_reducible apply Own.drewN | with_reducible apply Own.alloc | with_reducible apply Own.put | ((with_reducible apply Own.off); (focus (first | (simp; done) | (simp; omega) | omega))) | (with_reducible refine Own.new_ ?_ (by with_reducible assumption)) | rfl | (refine Own.fr ?_ (by with_reducible assumption) (by show ¬ (_ = _); omega))), by repeat (first | with_reducible exact Fr.refl _ _ | with_reducible assumption | with_reducible refine Fr.drew ?_ | with_reducible refine Fr.drewN ?_ _ | with_reducible refine Fr.alloc ?_ _ | with_reducible refine Fr.set ?_ (by first | exact fun _ => rfl | (intro hlt; exfalso; simp at hlt; try omega) | (simp; omega)) _ | with_reducible refine Fr.new_ ?_ (by with_reducible assumption) | (with_reducible refine Fr.trans ?_ (by with_reducible assumption) (fun i hi e => by (first | omega | (simp at e; omega)))))⟩
            show Own _ _ _ #[U (s.a + x.a), U (s.b + x.b), U (s.c + x.c), U s.d, U s.e, U s.f, U s.g, U s.h]
            simp only [wadd_]
            repeat (first | with_reducible assumption | with_reducible exact Own.fresh _ _ _ | (with_reducible apply Own.new'; simp; done) | with_reducible apply Own.drew | with_reducible apply Own.drewN | with_reducible apply Own.alloc | with_reducible apply Own.put | ((with_reducible apply Own.off); (focus (first | (simp; done) | (simp; omega) | omega))) | (with_reducible refine Own.new_ ?_ (by with_reducible assumption)) | rfl | (refine Own.fr ?_ (by with_reducible assumption) (by show ¬ (_ = _); omega)))
          case measure => simp [intOf]
        · have ho2 : Own _ w.heap.size 140 #[U (s.a + x.a), U (s.b + x.b), U (s.c + x.c), U s.d, U s.e, U s.f, U s.g, U s.h] := ho
          obtain ⟨⟨y0, y1, y2, y3, y4, y5, y6, y7⟩, yf⟩ := ho2.eight
          clear i0 i1 i2 i4 i5 i6 i7
          go_wp2_with fail
          go_roundw
          case rel => 
            refine ⟨4, by omega, by go_num, ?_, by repeat (first | with_reducible assumption | with_reducible exact Own.fresh _ _ _ | (with_reducible apply Own.new'; simp; done) | with_reducible apply Own.drew | with_reducible apply Own.drewN | with_reducible apply Own.alloc | with_reducible apply Own.put | ((with_reducible apply Own.off); (focus (first | (simp; done) | (simp; omega) | omega))) | (with_reducible refine Own.new_ ?_ (by with_reducible assumption)) | rfl | (refine Own.fr ?_ (by with_reducible assumption) (by show ¬ (_ = _); omega))), by repeat (first | with_reducible exact Fr.refl _ _ | with_reducible assumption | with_reducible refine Fr.drew ?_ | with_reducible refine Fr.drewN ?_ _ | with_reducible refine Fr.alloc ?_ _ | with_reducible refine Fr.set ?_ (by first | exact fun _ => rfl | (intro hlt; exfalso; simp at hlt; try omega) | (simp; omega)) _ | with_reducible refine Fr.new_ ?_ (by with_reducible assumption) | (with_reducible refine Fr.trans ?_ (by with_reducible assumption) (fun i hi e => by (first | omega | (simp at e; omega)))))⟩
            show Own _ _ _ #[U (s.a + x.a), U (s.b + x.b), U (s.c + x.c), U (s.d + x.d), U s.e, U s.f, U s.g, U s.h]
            simp only [wadd_]
            repeat (first | with_reducible assumption | with_reducible exact Own.fresh _ _ _ | (with_reducible apply Own.new'; simp; done) | with_reducible apply Own.drew | with_reducible apply Own.drewN | with_reducible apply Own.alloc | with_reducible apply Own.put | ((with_reducible apply Own.off); (focus (first | (simp; done) | (simp; omega) | omega))) | (with_reducible refine Own.new_ ?_ (by with_reducible assumption)) | rfl | (refine Own.fr ?_ (by with_reducible assumption) (by show ¬ (_ = _); omega)))
          case measure => simp [intOf]
        · have ho2 : Own _ w.heap.size 140 #[U (s.a + x.a), U (s.b + x.b), U (s.c + x.c), U (s.d + x.d), U s.e, U s.f, U s.g, U s.h] := ho
          obtain ⟨⟨y0, y1, y2, y3, y4, y5, y6, y7⟩, yf⟩ := ho2.eight
          clear i0 i1 i2 i3 i5 i6 i7
          go_wp2_with fail
          go_roundw
          case rel => 
            refine ⟨5, by omega, by go_num, ?_, by repeat (first | with_reducible assumption | with_reducible exact Own.fresh _ _ _ | (with_reducible apply Own.new'; simp; done) | with_reducible apply Own.drew | with_reducible apply Own.drewN | with_reducible apply Own.alloc | with_reducible apply Own.put | ((with_reducible apply Own.off); (focus (first | (simp; done) | (simp; omega) | omega))) | (with_reducible refine Own.new_ ?_ (by with_reducible assumption)) | rfl | (refine Own.fr ?_ (by with_reducible assumption) (by show ¬ (_ = _); omega))), by repeat (first | with_reducible exact Fr.refl _ _ | with_reducible assumption | with_reducible refine Fr.drew ?_ | with_reducible refine Fr.drewN ?_ _ | with_reducible refine Fr.alloc ?_ _ | with_reducible refine Fr.set ?_ (by first | exact fun _ => rfl | (intro hlt; exfalso; simp at hlt; try omega) | (simp; omega)) _ | with_reducible refine Fr.new_ ?_ (by with_reducible assumption) | (with_reducible refine Fr.trans ?_ (by with_reducible assumption) (fun i hi e => by (first | omega | (simp at e; omega)))))⟩
            show Own _ _ _ #[U (s.a + x.a), U (s.b + x.b), U (s.c + x.c), U (s.d + x.d), U (s.e + x.e), U s.f, U s.g, U s.h]
            simp only [wadd_]
            repeat (first | with_reducible assumption | with_reducible exact Own.fresh _ _ _ | (with_reducible apply Own.new'; simp; done) | with_reducible apply Own.drew | with_reducible apply Own.drewN | with_reducible apply Own.alloc | with_reducible apply Own.put | ((with_reducible apply Own.off); (focus (first | (simp; done) | (simp; omega) | omega))) | (with_reducible refine Own.new_ ?_ (by with_reducible assumption)) | rfl | (refine Own.fr ?_ (by with_reducible assumption) (by show ¬ (_ = _); omega)))
          case measure => simp [intOf]
        · have ho2 : Own _ w.heap.size 140 #[U (s.a + x.a), U (s.b + x.b), U (s.c + x.c), U (s.d + x.d), U (s.e + x.e), U s.f, U s.g, U s.h] := ho
          obtain ⟨⟨y0, y1, y2, y3, y4, y5, y6, y7⟩, yf⟩ := ho2.eight
          clear i0 i1 i2 i3 i4 i6 i7
          go_wp2_with fail
          go_roundw
          case rel => 
            refine ⟨6, by omega, by go_num, ?_, by repeat (first | with_reducible assumption | with_reducible exact Own.fresh _ _ _ | (with_reducible apply Own.new'; simp; done) | with_reducible apply Own.drew | with_reducible apply Own.drewN | with_reducible apply Own.alloc | with_reducible apply Own.put | ((with_reducible apply Own.off); (focus (first | (simp; done) | (simp; omega) | omega))) | (with_reducible refine Own.new_ ?_ (by with_reducible assumption)) | rfl | (refine Own.fr ?_ (by with_reducible assumption) (by show ¬ (_ = _); omega))), by repeat (first | with_reducible exact Fr.refl _ _ | with_reducible assumption | with_reducible refine Fr.drew ?_ | with_reducible refine Fr.drewN ?_ _ | with_reducible refine Fr.alloc ?_ _ | with_reducible refine Fr.set ?_ (by first | exact fun _ => rfl | (intro hlt; exfalso; simp at hlt; try omega) | (simp; omega)) _ | with_reducible refine Fr.new_ ?_ (by with_reducible assumption) | (with_reducible refine Fr.trans ?_ (by with_reducible assumption) (fun i hi e => by (first | omega | (simp at e; omega)))))⟩
            show Own _ _ _ #[U (s.a + x.a), U (s.b + x.b), U (s.c + x.c), U (s.d + x.d), U (s.e + x.e), U (s.f + x.f), U s.g, U s.h]
            simp only [wadd_]
            repeat (first | with_reducible assumption | with_reducible exact Own.fresh _ _ _ | (with_reducible apply Own.new'; simp; done) | with_reducible apply Own.drew | with_reducible apply Own.drewN | with_reducible apply Own.alloc | with_reducible apply Own.put | ((with_reducible apply Own.off); (focus (first | (simp; done) | (simp; omega) | omega))) | (with_reducible refine Own.new_ ?_ (by with_reducible assumption)) | rfl | (refine Own.fr ?_ (by with_reducible assumption) (by show ¬ (_ = _); omega)))
          case measure => simp [intOf]
        · have ho2 : Own _ w.heap.size 140 #[U (s.a + x.a), U (s.b + x.b), U (s.c + x.c), U (s.d + x.d), U (s.e + x.e), U (s.f + x.f), U s.g, U s.h] := ho
          obtain ⟨⟨y0, y1, y2, y3, y4, y5, y6, y7⟩, yf⟩ := ho2.eight
          clear i0 i1 i2 i3 i4 i5 i7
          go_wp2_with fail
          go_roundw
          case rel => 
            refine ⟨7, by omega, by go_num, ?_, by repeat (first | with_reducible assumption | with_reducible exact Own.fresh _ _ _ | (with_reducible apply Own.new'; simp; done) | with_reducible apply Own.drew | with_reducible apply Own.drewN | with_reducible apply Own.alloc | with_reducible apply Own.put | ((with_reducible apply Own.off); (focus (first | (simp; done) | (simp; omega) | omega))) | (with_reducible refine Own.new_ ?_ (by with_reducible assumption)) | rfl | (refine Own.fr ?_ (by with_reducible assumption) (by show ¬ (_ = _); omega))), by repeat (first | with_reducible exact Fr.refl _ _ | with_reducible assumption | with_reducible refine Fr.drew ?_ | with_reducible refine Fr.drewN ?_ _ | with_reducible refine Fr.alloc ?_ _ | with_reducible refine Fr.set ?_ (by first | exact fun _ => rfl | (intro hlt; exfalso; simp at hlt; try omega) | (simp; omega)) _ | with_reducible refine Fr.new_ ?_ (by with_reducible assumption) | (with_reducible refine Fr.trans ?_ (by with_reducible assumption) (fun i hi e => by (first | omega | (simp at e; omega)))))⟩
            show Own _ _ _ #[U (s.a + x.a), U (s.b + x.b), U (s.c + x.c), U (s.d + x.d), U (s.e + x.e), U (s.f + x.f), U (s.g + x.g), U s.h]
            simp only [wadd_]
            repeat (first | with_reducible assumption | with_reducible exact Own.fresh _ _ _ | (with_reducible apply Own.new'; simp; done) | with_reducible apply Own.drew | with_reducible apply Own.drewN | with_reducible apply Own.alloc | with_reducible apply Own.put | ((with_reducible apply Own.off); (focus (first | (simp; done) | (simp; omega) | omega))) | (with_reducible refine Own.new_ ?_ (by with_reducible assumption)) | rfl | (refine Own.fr ?_ (by with_reducible assumption) (by show ¬ (_ = _); omega)))
          case measure => simp [intOf]
        · have ho2 : Own _ w.heap.size 140 #[U (s.a + x.a), U (s.b + x.b), U (s.c + x.c), U (s.d + x.d), U (s.e + x.e), U (s.f + x.f), U (s.g + x.g), U s.h] := ho
          obtain ⟨⟨y0, y1, y2, y3, y4, y5, y6, y7⟩, yf⟩ := ho2.eight
          clear i0 i1 i2 i3 i4 i5 i6
          go_wp2_with fail
          go_roundw
          case rel => 
            refine ⟨8, by omega, by go_num, ?_, by repeat (first | with_reducible assumption | with_reducible exact Own.fresh _ _ _ | (with_reducible apply Own.new'; simp; done) | with_reducible apply Own.drew | with_reducible apply Own.drewN | with_reducible apply Own.alloc | with_reducible apply Own.put | ((with_reducible apply Own.off); (focus (first | (simp; done) | (simp; omega) | omega))) | (with_reducible refine Own.new_ ?_ (by with_reducible assumption)) | rfl | (refine Own.fr ?_ (by with_reducible assumption) (by show ¬ (_ = _); omega))), by repeat (first | with_reducible exact Fr.refl _ _ | with_reducible assumption | with_reducible refine Fr.drew ?_ | with_reducible refine Fr.drewN ?_ _ | with_reducible refine Fr.alloc ?_ _ | with_reducible refine Fr.set ?_ (by first | exact fun _ => rfl | (intro hlt; exfalso; simp at hlt; try omega) | (simp; omega)) _ | with_reducible refine Fr.new_ ?_ (by with_reducible assumption) | (with_reducible refine Fr.trans ?_ (by with_reducible assumption) (fun i hi e => by (first | omega | (simp at e; omega)))))⟩
            show Own _ _ _ #[U (s.a + x.a), U (s.b + x.b), U (s.c + x.c), U (s.d + x.d), U (s.e + x.e), U (s.f + x.f), U (s.g + x.g), U (s.h + x.h)]
            simp only [wadd_]
            repeat (first | with_reducible assumption | with_reducible exact Own.fresh _ _ _ | (with_reducible apply Own.new'; simp; done) | with_reducible apply Own.drew | with_reducible apply Own.drewN | with_reducible apply Own.alloc | with_reducible apply Own.put | ((with_reducible apply Own.off); (focus (first | (simp; done) | (simp; omega) | omega))) | (with_reducible refine Own.new_ ?_ (by with_reducible assumption)) | rfl | (refine Own.fr ?_ (by with_reducible assumption) (by show ¬ (_ = _); omega)))
          case measure => simp [intOf]
        · have ho2 : Own _ w.heap.size 140 #[U (s.a + x.a), U (s.b + x.b), U (s.c + x.c), U (s.d + x.d), U (s.e + x.e), U (s.f + x.f), U (s.g + x.g), U (s.h + x.h)] := ho
          obtain ⟨⟨y0, y1, y2, y3, y4, y5, y6, y7⟩, yf⟩ := ho2.eight
          obtain ⟨⟨z0, z1, z2, z3, z4, z5, z6, z7⟩, zf⟩ := hz.eight
          clear i0 i1 i2 i3 i4 i5 i6 i7
          go_wp2_with fail
          refine bodyPost_ret (v := .agg (shaMix s t.data.toList).cells) ?_ rfl ⟨rfl, by repeat (first | with_reducible exact Fr.refl _ _ | with_reducible assumption | with_reducible refine Fr.drew ?_ | with_reducible refine Fr.drewN ?_ _ | with_reducible refine Fr.alloc ?_ _ | with_reducible refine Fr.set ?_ (by first | exact fun _ => rfl | (intro hlt; exfalso; simp at hlt; try omega) | (simp; omega)) _ | with_reducible refine Fr.new_ ?_ (by with_reducible assumption) | (with_reducible refine Fr.trans ?_ (by with_reducible assumption) (fun i hi e => by (first | omega | (simp at e; omega)))))⟩
          simp only [badd_]
          have hc : (shaMix s t.data.toList).cells = #[U (s.a + x.a), U (s.b + x.b), U (s.c + x.c), U (s.d + x.d), U (s.e + x.e), U (s.f + x.f), U (s.g + x.g), U (s.h + x.h)] := by
            unfold shaMix
            rw [HX.out]
            rfl
          rw [hc]
          refine results_own (b := w.heap.size + 1) rfl _ rfl ?_ Tryz.underlying140 (by kernel_rfl)
          repeat (first | with_reducible assumption | with_reducible exact Own.fresh _ _ _ | (with_reducible apply Own.new'; simp; done) | with_reducible apply Own.drew | with_reducible apply Own.drewN | with_reducible apply Own.alloc | with_reducible apply Own.put | ((with_reducible apply Own.off); (focus (first | (simp; done) | (simp; omega) | omega))) | (with_reducible refine Own.new_ ?_ (by with_reducible assumption)) | rfl | (refine Own.fr ?_ (by with_reducible assumption) (by show ¬ (_ = _); omega)))
end Go.Proofs.YtjcpdpdhegcgoaaGreatDoor
