/- The first numbers, the numbers of the steps, the words of a block. -/
import Derived.Test.YtjcpdpdhegcgoaaGreatDoorShaBits
import Derived.Deep.WholeRow
import Derived.Lib.ConvBytes
namespace Go.Proofs.YtjcpdpdhegcgoaaGreatDoor
open Go.RowKit
set_option linter.unusedVariables false

/-- Eight numbers as a value's parts. -/
abbrev ShaS.cells (s : ShaS) : Array Value := #[U s.a, U s.b, U s.c, U s.d, U s.e, U s.f, U s.g, U s.h]
set_option maxRecDepth 100000 in
theorem start_any (w : World) : Calls Tryz.prog 97 #[] w fun e w' => e = .returned (.agg shaStart.cells) ∧ New w w' := by
  go_enter Tryz.func97, Tryz.ntmps97
  go_wp2
  refine bodyPost_ret (v := .agg shaStart.cells) (by (simp [results, Tryz.results97, go_sem, *]); decide) rfl ⟨rfl, ?_⟩
  repeat (first | with_reducible exact Fr.refl _ _ | with_reducible assumption | with_reducible refine Fr.drew ?_ | with_reducible refine Fr.drewN ?_ _ | with_reducible refine Fr.alloc ?_ _ | with_reducible refine Fr.set ?_ (by first | exact fun _ => rfl | (intro hlt; exfalso; simp at hlt; try omega) | (simp; omega)) _ | with_reducible refine Fr.new_ ?_ (by assumption))
set_option maxRecDepth 100000 in
theorem refStart_any (w : World) : Calls Tryz.prog 100 #[] w fun e w' => e = .returned (.agg shaStart.cells) ∧ New w w' := by
  go_enter Tryz.func100, Tryz.ntmps100
  go_wp2
  refine bodyPost_ret (v := .agg shaStart.cells) (by (simp [results, Tryz.results100, go_sem, *]); decide) rfl ⟨rfl, ?_⟩
  repeat (first | with_reducible exact Fr.refl _ _ | with_reducible assumption | with_reducible refine Fr.drew ?_ | with_reducible refine Fr.drewN ?_ _ | with_reducible refine Fr.alloc ?_ _ | with_reducible refine Fr.set ?_ (by first | exact fun _ => rfl | (intro hlt; exfalso; simp at hlt; try omega) | (simp; omega)) _ | with_reducible refine Fr.new_ ?_ (by assumption))
/-- Eighty numbers. -/
def zero80 : Array Value := Array.replicate 80 (.int .u64 0)
theorem info80 : (Tryz.prog.info? 160).map (fun i => (i.zero, i.size)) = some (some (.agg zero80), 80) := by kernel_rfl
def saltV : Array Value := #[.int .u64 4794697086780616226, .int .u64 8158064640168781261, .int .u64 13096744586834688815, .int .u64 16840607885511220156, .int .u64 4131703408338449720, .int .u64 6480981068601479193, .int .u64 10538285296894168987, .int .u64 12329834152419229976, .int .u64 15566598209576043074, .int .u64 1334009975649890238, .int .u64 2608012711638119052, .int .u64 6128411473006802146, .int .u64 8268148722764581231, .int .u64 9286055187155687089, .int .u64 11230858885718282805, .int .u64 13951009754708518548, .int .u64 16472876342353939154, .int .u64 17275323862435702243, .int .u64 1135362057144423861, .int .u64 2597628984639134821, .int .u64 3308224258029322869, .int .u64 5365058923640841347, .int .u64 6679025012923562964, .int .u64 8573033837759648693, .int .u64 10970295158949994411, .int .u64 12119686244451234320, .int .u64 12683024718118986047, .int .u64 13788192230050041572, .int .u64 14330467153632333762, .int .u64 15395433587784984357, .int .u64 489312712824947311, .int .u64 1452737877330783856, .int .u64 2861767655752347644, .int .u64 3322285676063803686, .int .u64 5560940570517711597, .int .u64 5996557281743188959, .int .u64 7280758554555802590, .int .u64 8532644243296465576, .int .u64 9350256976987008742, .int .u64 10552545826968843579, .int .u64 11727347734174303076, .int .u64 12113106623233404929, .int .u64 14000437183269869457, .int .u64 14369950271660146224, .int .u64 15101387698204529176, .int .u64 15463397548674623760, .int .u64 17586052441742319658, .int .u64 1182934255886127544, .int .u64 1847814050463011016, .int .u64 2177327727835720531, .int .u64 2830643537854262169, .int .u64 3796741975233480872, .int .u64 4115178125766777443, .int .u64 5681478168544905931, .int .u64 6601373596472566643, .int .u64 7507060721942968483, .int .u64 8399075790359081724, .int .u64 8693463985226723168, .int .u64 9568029438360202098, .int .u64 10144078919501101548, .int .u64 10430055236837252648, .int .u64 11840083180663258601, .int .u64 13761210420658862357, .int .u64 14299343276471374635, .int .u64 14566680578165727644, .int .u64 15097957966210449927, .int .u64 16922976911328602910, .int .u64 17689382322260857208, .int .u64 500013540394364858, .int .u64 748580250866718886, .int .u64 1242879168328830382, .int .u64 1977374033974150939, .int .u64 2944078676154940804, .int .u64 3659926193048069267, .int .u64 4368137639120453308, .int .u64 4836135668995329356, .int .u64 5532061633213252278, .int .u64 6448918945643986474, .int .u64 6902733635092675308, .int .u64 7801388544844847127]
theorem saltV_eq : saltV = (salts.map U).toArray := by kernel_rfl
theorem oper_val {P : Program} {o : Oper} {a : Act} {w w' : World} {next : Act → World → Prop} {Q : Exit → Act → World → Prop} (v : Value) (h : (execOp a.eval o).run P w = .ok (.value v) w') (k : next (a.put o.dst v) w') : o.wp P a w next Q := by
  unfold Oper.wp
  rw [h]
  exact k
theorem oper_skip {P : Program} {o : Oper} {a : Act} {w w' : World} {next : Act → World → Prop} {Q : Exit → Act → World → Prop} (h : (execOp a.eval o).run P w = .ok .skip w') (k : next (a.put o.dst undef) w') : o.wp P a w next Q := by
  unfold Oper.wp
  rw [h]
  exact k
theorem results_cell1 {fn : Func} {p : Tmp} {ty : TypeId} (h : fn.results = #[.cell p ty]) (tmps : Array Value) (P : Program) (w : World) :
    (results fn tmps).run P w = ((asAddr (tmps.getD p undef)).run P w).andThen fun a w₁ => ((loadVar ty a).run P w₁).andThen fun v w₂ => .ok v w₂ := by
  simp only [results, h]
  simp [Sem.run_bind, Result.andThen]
  repeat' (first | rfl | assumption | split)
set_option maxRecDepth 100000 in
set_option maxHeartbeats 2000000 in
theorem salt_any (w : World) : Calls Tryz.prog 111 #[] w fun e w' => e = .returned (.agg saltV) ∧ New w w' := by
  go_enter Tryz.func111, Tryz.ntmps111
  go_step
  go_step
  go_step
  go_step
  go_simp
  first
    | (rw [(zero_of_info info80).1]; simp only [Result.andThen]; rw [Oper.upon_value])
    | (rw [show Tryz.zeroCells160 = zero80 by kernel_rfl])
  go_step
  go_step
  go_step
  go_step
  go_step
  go_step
  go_step
  refine oper_val (w' := w.alloc (.cells zero80 160)) (.agg saltV) ?_ ?_
  · kernel_rfl
  go_step
  go_step
  refine oper_skip (w' := w.alloc (.cells saltV 160)) ?_ ?_
  · have hs := run_storeAt_new (P := Tryz.prog) w 160 zero80 saltV (zero_of_info info80).2 (by decide) (by kernel_rfl)
    simp [execOp, Act.put, Act.eval, hs]
    done
  go_step
  go_step
  go_step
  go_step
  go_step
  go_step
  refine bodyPost_ret (v := .agg saltV) ?_ rfl ⟨rfl, (Fr.refl _ _).alloc _⟩
  rw [results_cell1 rfl]
  have hl := run_loadVar_new (P := Tryz.prog) w 160 saltV 80 22 Tryz.underlying160 (zero_of_info info80).2
  simp [Act.put, asAddr, Result.andThen, hl]
set_option maxRecDepth 100000 in
theorem refSalts_any (w : World) : Calls Tryz.prog 115 #[] w fun e w' => e = .returned (.agg saltV) ∧ New w w' := by
  go_enter Tryz.func115, Tryz.ntmps115
  go_step
  go_step
  go_step
  go_step
  go_simp
  first
    | (rw [(zero_of_info info80).1]; simp only [Result.andThen]; rw [Oper.upon_value])
    | (rw [show Tryz.zeroCells160 = zero80 by kernel_rfl])
  go_step
  go_step
  go_step
  go_step
  go_step
  go_step
  go_step
  refine oper_val (w' := w.alloc (.cells zero80 160)) (.agg saltV) ?_ ?_
  · kernel_rfl
  go_step
  go_step
  refine oper_skip (w' := w.alloc (.cells saltV 160)) ?_ ?_
  · have hs := run_storeAt_new (P := Tryz.prog) w 160 zero80 saltV (zero_of_info info80).2 (by decide) (by kernel_rfl)
    simp [execOp, Act.put, Act.eval, hs]
    done
  go_step
  go_step
  go_step
  go_step
  go_step
  go_step
  refine bodyPost_ret (v := .agg saltV) ?_ rfl ⟨rfl, (Fr.refl _ _).alloc _⟩
  rw [results_cell1 rfl]
  have hl := run_loadVar_new (P := Tryz.prog) w 160 saltV 80 22 Tryz.underlying160 (zero_of_info info80).2
  simp [Act.put, asAddr, Result.andThen, hl]

theorem ret_int' {k : IntKind} {a b : Int} (h : a = b) : Value.int k a = .int k b := by rw [h]
/-- The bytes of a string, in a row of the call's own. -/
theorem convS_bytes (w : World) (s : ByteArray) : ∃ c w', (convert 9 82 (.string s)).run Tryz.prog w = .ok (.slice (some ⟨w.heap.size, 0, none⟩) s.size c) w' ∧ New w w' ∧ w'.heap.size = w.heap.size + 1 ∧
    ∀ j, j < s.size → w'.cell? ⟨w.heap.size, j, none⟩ = some (.int .u8 (s.data.toList.getD j 0).toNat) :=
  ⟨_, _, Lib.run_convert_string_bytes w 9 82 5 s Tryz.underlying9 Tryz.underlying82 Tryz.underlying5,
    ⟨rfl, rfl, rfl, by rw [Lib.bytesWorld_size]; omega, fun k hk _ => Lib.bytesWorld_at_old w _ s k hk⟩, Lib.bytesWorld_size w _ s, fun j hj => Lib.bytesWorld_cell w _ s j hj⟩
theorem wordL_snoc (l : List UInt8) (c : UInt8) : wordL (l ++ [c]) = wordL l * 256#64 + BitVec.ofNat 64 c.toNat := by
  unfold wordL
  rw [List.foldl_append, List.foldl_cons, List.foldl_nil]
theorem getD_get (l : List UInt8) (i : Nat) (h : i < l.length) : l.getD i 0 = l[i] := by simp [List.getD, h]
theorem word_step (n : W64) (d : UInt8) : IntKind.u64.wrap (IntKind.u64.wrap ((n.toNat : Int) * 256) + (d.toNat : Int)) = ((n * 256#64 + BitVec.ofNat 64 d.toNat).toNat : Int) := by
  have := d.toNat_lt
  rw [IntKind.wrap_u64, IntKind.wrap_u64, BitVec.toNat_add, BitVec.toNat_mul, BitVec.toNat_ofNat, BitVec.toNat_ofNat]
  omega
set_option maxRecDepth 100000 in
theorem word_any (s : ByteArray) (hs : 8 ≤ s.size) (hz : s.size ≤ 9223372036854775807) (w : World) : Calls Tryz.prog 112 #[.string s] w fun e w' => e = .returned (U (wordL (s.data.toList.take 8))) ∧ New w w' := by
  obtain ⟨c, w1, hr, hn, hsz, hc⟩ := convS_bytes w (s.extract 0 8)
  have he : (s.extract 0 8).data.toList = s.data.toList.take 8 := by simp [ByteArray.data_extract]
  have hl : (s.extract 0 8).size = 8 := by simp [ByteArray.size_extract]; omega
  have hll : (s.data.toList.take 8).length = 8 := by rw [List.length_take]; show min 8 s.size = 8; omega
  rw [hl] at hr hc
  rw [he] at hc
  obtain ⟨l, hL⟩ : ∃ l, s.data.toList.take 8 = l := ⟨_, rfl⟩
  rw [hL] at hc hll ⊢
  clear he hL hl
  go_enter Tryz.func112, Tryz.ntmps112
  go_wp2
  go_loop [3, 5, 10] (fun nv _ iv => ∃ i : Nat, i ≤ 8 ∧ iv = .int .i64 i ∧ nv = U (wordL (l.take i))) (fun _ _ iv => 8 - (intOf iv).toNat)
  case atStart => exact ⟨0, by omega, rfl, rfl⟩
  case round =>
    obtain ⟨i, hi, rfl, rfl⟩ := hrel
    by_cases hlt : i < 8
    · have hlt2 : (i : Int) < 8 := by omega
      have hci := hc i hlt
      have hb := blt (wordL (l.take i))
      have hc2 : ((l.getD i 0).toNat : Int) < 256 := by have := (l.getD i 0).toNat_lt; omega
      obtain ⟨n, hn'⟩ : ∃ n, wordL (l.take i) = n := ⟨_, rfl⟩
      have HN := Lib.hid hn'
      obtain ⟨d, hd'⟩ : ∃ d, l.getD i 0 = d := ⟨_, rfl⟩
      have HD := Lib.hid hd'
      rw [hd'] at hci hc2
      rw [hn'] at hb ⊢
      clear hn' hd' hc
      go_wp2
      go_round
      case rel =>
        refine ⟨i + 1, by omega, by go_num, ret_int' ?_⟩
        rw [List.take_succ_eq_append_getElem (by omega), wordL_snoc, HN.out, ← getD_get l i (by omega), HD.out]
        exact word_step n d
      case measure => simp [intOf]; omega
    · obtain rfl : i = 8 := by omega
      have HL : Hid (List.take 8 l = l) := List.take_of_length_le (by omega)
      go_wp2
      go_ret
      exact ⟨by rw [HL.out]; rfl, hn⟩
end Go.Proofs.YtjcpdpdhegcgoaaGreatDoor
