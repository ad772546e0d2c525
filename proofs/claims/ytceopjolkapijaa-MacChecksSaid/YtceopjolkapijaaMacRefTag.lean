/- The document's tag of a text under a key. -/
import Derived.Test.YtceopjolkapijaaMacCheck
import Derived.Test.YtceopjolkapijaaShaMixes
import Derived.Deep.AppendLies
import Derived.Deep.RegionLaw
namespace Go.Proofs.Ytceopjolkapijaa
open Go.RowKit
set_option linter.unusedVariables false

/-- A row of bytes of the call's own, in block g. -/
def Byt (W : World) (B g n c : Nat) (L : List UInt8) : Prop := W.ownsRow B 5 1 (.slice (some ⟨g, 0, none⟩) n c) n (Lib.byteCells L)
theorem Byt.fr {W W' : World} {B g n c : Nat} {L : List UInt8} {F : Nat → Prop} (h : Byt W B g n c L) (f : Fr F W W') (hg : ¬ F g) : Byt W' B g n c L := by
  rcases h.2 with ⟨e, h0⟩ | ⟨g', cap, cur, e, hB, hb, r⟩
  · cases e
  · have e' : g = g' := by injection e with e1; injection e1 with e1; injection e1
    subst e'
    exact ⟨h.1, .inr ⟨g, cap, cur, e, hB, (f.block g (lt_of_block hb) hg).trans hb, r⟩⟩
theorem Byt.new_ {W W' : World} {B g n c : Nat} {L : List UInt8} (h : Byt W B g n c L) (f : New W W') : Byt W' B g n c L := h.fr f fun k => k
theorem Byt.alloc {W : World} {B g n c : Nat} {L : List UInt8} (h : Byt W B g n c L) (o : Obj) : Byt (W.alloc o) B g n c L := h.new_ ((Fr.refl _ W).alloc o)
theorem Byt.drew {W : World} {B g n c : Nat} {L : List UInt8} (h : Byt W B g n c L) : Byt W.drew B g n c L := h.new_ (Fr.refl _ W).drew
theorem Byt.base {W : World} {B g n c : Nat} {L : List UInt8} (h : Byt W B g n c L) : B ≤ g ∧ g < W.heap.size := by
  rcases h.2 with ⟨e, h0⟩ | ⟨g', cap, cur, e, hB, hb, r⟩
  · cases e
  · have e' : g = g' := by injection e with e1; injection e1 with e1; injection e1
    subst e'
    exact ⟨hB, lt_of_block hb⟩
theorem Byt.start {W : World} {B g : Nat} (h : Own W g 5 #[]) (hB : B ≤ g) : Byt W B g 0 0 [] :=
  ⟨rfl, .inr ⟨g, 0, #[], rfl, hB, h, by omega, by simp [maxLen], rfl, rfl⟩⟩
theorem Byt.conv {W : World} {B g n c : Nat} {L : List UInt8} (h : Byt W B g n c L) (hL : L.length = n) : (convert 54 9 (.slice (some ⟨g, 0, none⟩) n c)).run Try.prog W = .ok (.string ⟨L.toArray⟩) W := by
  subst hL
  refine run_convert_bytes_back (P := Try.prog) W 54 9 5 ⟨g, 0, none⟩ c L Try.underlying54 Try.underlying5 Try.underlying9 fun j hj => ?_
  rcases h.2 with ⟨e, h0⟩ | ⟨g', cap, cur, e, hB, hb, h1, h2, h3, h4⟩
  · cases e
  · have e' : g = g' := by injection e with e1; injection e1 with e1; injection e1
    subst e'
    have ea : (⟨g, 0, none⟩ : Addr).add j = ⟨g, j, none⟩ := by unfold Addr.add; split <;> simp_all
    have hc : W.cell? ⟨g, j, none⟩ = cur[j]? := Own.cell (w := W) (b := g) (t := 5) (cs := cur) hb j
    rw [ea, hc]
    have e2 : cur.toList[j]? = (cur.toList.take (L.length * 1))[j]? := by rw [List.getElem?_take]; simp [hj]
    rw [← Array.getElem?_toList, e2, h4]
    simp [Lib.byteCells, hj]
theorem info_byte : (Try.prog.info? 5).map (fun i => (i.zero, i.size, i.bytes)) = some (some (.int .u8 0), 1, 1) := by kernel_rfl
/-- One byte more, as a step of a region that draws. -/
theorem step_byt {ops : Array Oper} {o : Oper} {a : Act} {W : World} {K : Act → World → Prop} {Q : Exit → Act → World → Prop} {E : Prop} (hgd : o.guard = none) (s x : Operand)
    (ho : o.op = .call { callee := .builtin .append, args := #[s, x], argTypes := #[54, 54] }) {B g n c blk : Nat} {L : List UInt8} {p : Int}
    (hs : a.eval s = .slice (some ⟨g, 0, none⟩) n c) (hx : a.eval x = .slice (some ⟨blk, 0, none⟩) 1 1) (h : Byt W B g n c L) (hb : Own W blk 5 #[.int .u8 p]) (d : UInt8) (hd : p = (d.toNat : Int)) {w1 : World} (hw : New w1 W) (hB : B = w1.heap.size) (hn : n ≤ 1000) (N : Nat) (hN : N ≤ W.heap.size)
    (k : ∀ g' c' W', Byt W' B g' (n + 1) c' (L ++ [d]) → Fr (fun j => j = g) W W' → (g' = g ∨ N ≤ g') → g' < W'.heap.size → N ≤ W'.heap.size → New w1 W' → K (a.put o.dst (.slice (some ⟨g', 0, none⟩) (n + 1) c')) W') :
    if Region.wanted o (yielded ops a.tmps) = true then Oper.wp Try.prog o a W K Q else E := by
  obtain ⟨i, hi, hv⟩ := Option.map_eq_some_iff.1 info_byte
  have z1 : i.zero = some (.int .u8 0) := congrArg Prod.fst hv
  have z2 : i.size = 1 := congrArg (fun x => x.2.1) hv
  have z3 : i.bytes = 1 := congrArg (fun x => x.2.2) hv
  have hBs : B ≤ W.heap.size := by rw [hB]; exact hw.size
  have hgB := h.base.1
  refine step_append_lies (P := Try.prog) W hgd s x 54 ho B 5 i _ 1 1 Try.underlying54 hi z1 z2 z3 rfl (by omega) _ n _ hs h ⟨blk, 0, none⟩ 1 1 [.int .u8 p] hx rfl
    (fun j u hu => World.news_of_block hb j u hu) (by simp [Value.oneCell']) (by omega) (by simp [maxLen]; omega) (by omega) hBs _ rfl ?_
  intro g' c' W' h1 h2 h3 h4
  have hf : Fr (fun j => j = g) W W' := (fr_of_grown h2).mono fun j e => by
    have : some g = some j := e
    injection this with this
    exact this.symm
  refine k g' c' W' ?_ hf ?_ h4 (Nat.le_trans hN hf.size) (hw.trans hf fun j hj e => by have e : j = g := e; omega)
  · unfold Byt Lib.byteCells at *
    rw [List.map_append, List.map_cons, List.map_nil, ← hd]
    exact h1
  · rcases h3 with e | e
    · left
      have : some g = some g' := e
      injection this with this
      exact this.symm
    · right
      omega
theorem lay {p q : Prop} (h : p) (k : p → q) : q := k h
/-- Two rows of bytes. -/
def Two8 (w W : World) (g1 c1 g2 c2 n : Nat) (L1 L2 : List UInt8) : Prop := Byt W w.heap.size g1 n c1 L1 ∧ Byt W w.heap.size g2 n c2 L2 ∧ g1 ≠ g2 ∧ New w W
theorem take_next (l : List UInt8) (x : UInt8) (i : Nat) (b : UInt8) (h : l[i]? = some b) : (l.take i).map (· ^^^ x) ++ [b ^^^ x] = (l.take (i + 1)).map (· ^^^ x) := by
  obtain ⟨hi, rfl⟩ := List.getElem?_eq_some_iff.1 h
  rw [List.take_succ_eq_append_getElem hi, List.map_append]
  rfl
theorem full_pad (kk : ByteArray) (h : kk.size ≤ 128) : (kk ++ ⟨(List.replicate (128 - kk.size) (0 : UInt8)).toArray⟩).data.toList = fullL kk := by
  rw [fullL_eq kk h, app_list]
theorem keyB_full (k : ByteArray) (x : UInt8) : keyB k x = ⟨((fullL (shortB k)).map (· ^^^ x)).toArray⟩ := by
  unfold keyB
  rw [keyL_eq]
  rfl
set_option maxRecDepth 100000 in
set_option maxHeartbeats 2000000 in
theorem refTag_any (k s : ByteArray) (hk : k.size ≤ 100000) (hs : s.size ≤ 100000) (w : World) : Calls Try.prog 26 #[.string k, .string s] w fun e w' => e = .returned (.string (macB k s)) ∧ New w w' := by
  have hz := shortB_size k
  have HS := Lib.hid (fun w => refSum_any k (by omega) w)
  have HM : Hid (macB k s = shaB (⟨((fullL (shortB k)).map (· ^^^ 92)).toArray⟩ ++ shaB (⟨((fullL (shortB k)).map (· ^^^ 54)).toArray⟩ ++ s))) := by
    show macB k s = _
    rw [← keyB_full, ← keyB_full]
    rfl
  rcases (by by_cases h : 128 < k.size <;> simp [h] : 128 < k.size ∨ ¬ 128 < k.size) with hlt | hlt
  all_goals
    first | (have hlt2 : (128 : Int) < (k.size : Int) := by omega) | (have hlt2 : ¬ (128 : Int) < (k.size : Int) := by omega)
    first | (have hsh : shortB k = shaB k := if_pos hlt) | (have hsh : shortB k = k := if_neg hlt)
    rw [hsh] at hz HM
    clear hsh
    go_enter Try.func26, Try.ntmps26
    go_wp2_with fail
    first | (refine (HS.out _).mono ?_; rintro e w1 ⟨rfl, g1⟩) | (obtain ⟨w1, hw1⟩ : ∃ w1, w1 = w := ⟨_, rfl⟩; have g1 : New w w1 := (by rw [hw1]; exact Fr.refl _ _); rw [← hw1]; clear hw1)
    go_wp2_with fail
    first | (obtain ⟨kk, hkk⟩ : ∃ kk, shaB k = kk := ⟨_, rfl⟩; rw [hkk] at hz HM; rw [hkk]; clear hkk) | (obtain ⟨kk, hkk⟩ : ∃ kk, kk = k := ⟨_, rfl⟩; have HKK := Lib.hid hkk; rw [← hkk] at hz HM; rw [← hkk]; clear hkk)
    go_loop [0] (fun bv => ∃ (j : Nat) (r : ByteArray), bv = .string r ∧ r.size = kk.size + j ∧ r.size ≤ 128 ∧ Hid (r = kk ++ ⟨(List.replicate j (0 : UInt8)).toArray⟩)) (fun bv => 128 - strLen bv)
    case atStart => exact ⟨0, kk, rfl, by omega, hz, app_empty kk⟩
    case round =>
      obtain ⟨j, r, rfl, hr, hr2, HR⟩ := hrel
      by_cases hlt3 : r.size < 128
      · have hlt4 : (r.size : Int) < 128 := by omega
        have e : (r ++ ⟨#[0]⟩ : ByteArray).size = r.size + 1 := by rw [ByteArray.size_append]; rfl
        have HE := Lib.hid e
        clear e
        go_wp2_with fail
        go_round
        case rel =>
          refine ⟨j + 1, r ++ ⟨#[0]⟩, rfl, by rw [HE.out, hr]; omega, by rw [HE.out]; omega, ?_⟩
          show _ = _
          rw [HR.out, ByteArray.append_assoc]
          congr 1
          apply ByteArray.ext
          apply Array.ext'
          rw [app_list]
          show List.replicate j 0 ++ [0] = List.replicate (j + 1) 0
          rw [List.replicate_succ']
        case measure =>
          simp only [strLen, HE.out]
          omega
      · have hr128 : r.size = 128 := by omega
        have hlt4 : ¬ (r.size : Int) < 128 := by omega
        obtain ⟨l, hl⟩ : ∃ l, fullL kk = l := ⟨_, rfl⟩
        have hll := fullL_length kk
        have hrl : r.data.toList = l := by
          rw [← hl, ← full_pad kk hz, HR.out, show j = 128 - kk.size by omega]
        rw [hl] at HM hll
        have HRL := Lib.hid hrl
        clear hl hrl HR hr hr2 hlt3
        go_wp2_with fail
        go_loopw [7, 5, 6] (fun iv av bv wr => ∃ i g1 c1 g2 c2 : Nat, iv = .int .i64 i ∧ i ≤ 128 ∧ av = .slice (some ⟨g1, 0, none⟩) i c1 ∧ bv = .slice (some ⟨g2, 0, none⟩) i c2 ∧ Two8 w1 wr g1 c1 g2 c2 i ((l.take i).map (· ^^^ 54)) ((l.take i).map (· ^^^ 92))) (fun iv _ _ _ => 128 - (intOf iv).toNat)
        case atStart =>
          refine ⟨0, _, _, _, _, rfl, by omega, rfl, rfl, Byt.start ?_ ?_, Byt.start ?_ ?_, ?_, ?_⟩
          · repeat (first | with_reducible assumption | with_reducible exact Own.fresh _ _ _ | (with_reducible apply Own.new'; simp; done) | with_reducible apply Own.drew | with_reducible apply Own.drewN | with_reducible apply Own.alloc | with_reducible apply Own.put | ((with_reducible apply Own.off); (focus (first | (simp; done) | (simp; omega) | omega))) | (with_reducible refine Own.new_ ?_ (by with_reducible assumption)) | rfl | (refine Own.fr ?_ (by with_reducible assumption) (by show ¬ (_ = _); omega)))
          · omega
          · repeat (first | with_reducible assumption | with_reducible exact Own.fresh _ _ _ | (with_reducible apply Own.new'; simp; done) | with_reducible apply Own.drew | with_reducible apply Own.drewN | with_reducible apply Own.alloc | with_reducible apply Own.put | ((with_reducible apply Own.off); (focus (first | (simp; done) | (simp; omega) | omega))) | (with_reducible refine Own.new_ ?_ (by with_reducible assumption)) | rfl | (refine Own.fr ?_ (by with_reducible assumption) (by show ¬ (_ = _); omega)))
          · omega
          · omega
          · repeat (first | with_reducible exact Fr.refl _ _ | with_reducible assumption | with_reducible refine Fr.drew ?_ | with_reducible refine Fr.drewN ?_ _ | with_reducible refine Fr.alloc ?_ _ | with_reducible refine Fr.set ?_ (by first | exact fun _ => rfl | (intro hlt; exfalso; simp at hlt; try omega) | (simp; omega)) _ | with_reducible refine Fr.new_ ?_ (by with_reducible assumption) | (with_reducible refine Fr.trans ?_ (by with_reducible assumption) (fun i hi e => by (first | omega | (simp at e; omega)))))
        case round =>
          obtain ⟨i, b1, c1, b2, c2, rfl, hi, rfl, rfl, h1, h2, hne, n8⟩ := hrel
          by_cases hlt5 : i < 128
          · have hlt6 : (i : Int) < 128 := by omega
            have hit : i < r.size := by omega
            have hgi := get_list r i hit
            rw [HRL.out] at hgi
            have t1 := take_next l 54 i _ hgi
            have t2 := take_next l 92 i _ hgi
            have x1 : bits .xor .u8 (r[i].toNat : Int) 54 = ((r[i] ^^^ 54).toNat : Int) := xor_u8 r[i] 54
            have x2 : bits .xor .u8 (r[i].toNat : Int) 92 = ((r[i] ^^^ 92).toNat : Int) := xor_u8 r[i] 92
            obtain ⟨y1, hy1⟩ : ∃ y, r[i] ^^^ 54 = y := ⟨_, rfl⟩
            obtain ⟨y2, hy2⟩ : ∃ y, r[i] ^^^ 92 = y := ⟨_, rfl⟩
            rw [hy1] at x1 t1
            rw [hy2] at x2 t2
            have T1 := Lib.hid t1
            have T2 := Lib.hid t2
            have l1 := h1.base
            have l2 := h2.base
            clear t1 t2 hgi hy1 hy2
            go_wp2_with fail
            go_region_law (first
              | (refine step_byt rfl (.tmp 24) (.tmp 29) rfl rfl rfl (by (repeat (first | with_reducible assumption | with_reducible apply Byt.drew | with_reducible apply Byt.alloc)); done) (by (repeat (first | with_reducible assumption | with_reducible exact Own.fresh _ _ _ | (with_reducible apply Own.new'; simp; done) | with_reducible apply Own.drew | with_reducible apply Own.drewN | with_reducible apply Own.alloc | with_reducible apply Own.put | ((with_reducible apply Own.off); (focus (first | (simp; done) | (simp; omega) | omega))) | (with_reducible refine Own.new_ ?_ (by with_reducible assumption)) | rfl | (refine Own.fr ?_ (by with_reducible assumption) (by show ¬ (_ = _); omega)))); done) y1 rfl (w1 := w1) (by repeat (first | with_reducible exact Fr.refl _ _ | with_reducible assumption | with_reducible refine Fr.drew ?_ | with_reducible refine Fr.drewN ?_ _ | with_reducible refine Fr.alloc ?_ _ | with_reducible refine Fr.set ?_ (by first | exact fun _ => rfl | (intro hlt; exfalso; simp at hlt; try omega) | (simp; omega)) _ | with_reducible refine Fr.new_ ?_ (by with_reducible assumption) | (with_reducible refine Fr.trans ?_ (by with_reducible assumption) (fun i hi e => by (first | omega | (simp at e; omega)))))) rfl (by omega) wr.heap.size (by first | exact Nat.le_refl _ | (simp; done) | (simp; omega)) ?_; intro ga ca Wa ka fa ea za ya na; (have kb : Byt Wa w1.heap.size b2 i c2 ((l.take i).map (· ^^^ 92)) := Byt.fr (by (repeat (first | with_reducible assumption | with_reducible apply Byt.drew | with_reducible apply Byt.alloc)); done) fa (by show ¬ (_ = _); omega)); have hab : ga ≠ b2 := (by omega); (first | (refine lay (p := Own Wa (wr.heap.size + 1) 5 #[.int .u8 (y2.toNat : Int)]) ?_ (fun oB => ?_); (focus (refine Own.fr ?_ fa ?_; (focus ((repeat (first | with_reducible assumption | with_reducible exact Own.fresh _ _ _ | (with_reducible apply Own.new'; simp; done) | with_reducible apply Own.drew | with_reducible apply Own.drewN | with_reducible apply Own.alloc | with_reducible apply Own.put | ((with_reducible apply Own.off); (focus (first | (simp; done) | (simp; omega) | omega))) | (with_reducible refine Own.new_ ?_ (by with_reducible assumption)) | rfl | (refine Own.fr ?_ (by with_reducible assumption) (by show ¬ (_ = _); omega)))); done)); (focus (show ¬ (_ = _); omega))))) | (refine lay (p := Own Wa wr.heap.size 5 #[.int .u8 (y2.toNat : Int)]) ?_ (fun oB => ?_); (focus (refine Own.fr ?_ fa ?_; (focus ((repeat (first | with_reducible assumption | with_reducible exact Own.fresh _ _ _ | (with_reducible apply Own.new'; simp; done) | with_reducible apply Own.drew | with_reducible apply Own.drewN | with_reducible apply Own.alloc | with_reducible apply Own.put | ((with_reducible apply Own.off); (focus (first | (simp; done) | (simp; omega) | omega))) | (with_reducible refine Own.new_ ?_ (by with_reducible assumption)) | rfl | (refine Own.fr ?_ (by with_reducible assumption) (by show ¬ (_ = _); omega)))); done)); (focus (show ¬ (_ = _); omega))))) | skip))
              | (refine step_byt rfl (.tmp 31) (.tmp 36) rfl rfl rfl (by (repeat (first | with_reducible assumption | with_reducible apply Byt.drew | with_reducible apply Byt.alloc)); done) (by (repeat (first | with_reducible assumption | with_reducible exact Own.fresh _ _ _ | (with_reducible apply Own.new'; simp; done) | with_reducible apply Own.drew | with_reducible apply Own.drewN | with_reducible apply Own.alloc | with_reducible apply Own.put | ((with_reducible apply Own.off); (focus (first | (simp; done) | (simp; omega) | omega))) | (with_reducible refine Own.new_ ?_ (by with_reducible assumption)) | rfl | (refine Own.fr ?_ (by with_reducible assumption) (by show ¬ (_ = _); omega)))); done) y2 rfl (w1 := w1) (by repeat (first | with_reducible exact Fr.refl _ _ | with_reducible assumption | with_reducible refine Fr.drew ?_ | with_reducible refine Fr.drewN ?_ _ | with_reducible refine Fr.alloc ?_ _ | with_reducible refine Fr.set ?_ (by first | exact fun _ => rfl | (intro hlt; exfalso; simp at hlt; try omega) | (simp; omega)) _ | with_reducible refine Fr.new_ ?_ (by with_reducible assumption) | (with_reducible refine Fr.trans ?_ (by with_reducible assumption) (fun i hi e => by (first | omega | (simp at e; omega)))))) rfl (by omega) Wa.heap.size (by first | exact Nat.le_refl _ | (simp; done) | (simp; omega)) ?_; intro gb cb Wb kb2 fb eb zb yb nb; have ka2 : Byt Wb w1.heap.size ga (i + 1) ca _ := Byt.fr (by (repeat (first | with_reducible assumption | with_reducible apply Byt.drew | with_reducible apply Byt.alloc)); done) fb (by show ¬ (_ = _); omega)))
            all_goals go_wp2_with fail
            all_goals exact ⟨⟨i + 1, ga, ca, gb, cb, by go_num, by omega, rfl, rfl, by rw [← T1.out]; exact ka2, by rw [← T2.out]; exact kb2, by omega, nb⟩, by simp [intOf]; omega⟩
          · obtain rfl : i = 128 := by omega
            rw [List.take_of_length_le (by omega)] at h1 h2
            have C1 : ∀ x, (convert 54 9 (.slice (some ⟨b1, 0, none⟩) 128 c1)).run Try.prog (Go.Proofs.Ytceopjolkapijaa.nw wr x) = .ok (.string ⟨(l.map (· ^^^ 54)).toArray⟩) (Go.Proofs.Ytceopjolkapijaa.nw wr x) := fun x => (h1.new_ (nw_new wr x)).conv (by simp [hll])
            have C2 : ∀ x, (convert 54 9 (.slice (some ⟨b2, 0, none⟩) 128 c2)).run Try.prog (Go.Proofs.Ytceopjolkapijaa.nw wr x) = .ok (.string ⟨(l.map (· ^^^ 92)).toArray⟩) (Go.Proofs.Ytceopjolkapijaa.nw wr x) := fun x => (h2.new_ (nw_new wr x)).conv (by simp [hll])
            have za : (⟨(l.map (· ^^^ 54)).toArray⟩ : ByteArray).size = 128 := by rw [← data_len]; simp [hll]
            have zb : (⟨(l.map (· ^^^ 92)).toArray⟩ : ByteArray).size = 128 := by rw [← data_len]; simp [hll]
            obtain ⟨a, ha⟩ : ∃ a : ByteArray, ⟨(l.map (· ^^^ 54)).toArray⟩ = a := ⟨_, rfl⟩
            obtain ⟨b, hb⟩ : ∃ a : ByteArray, ⟨(l.map (· ^^^ 92)).toArray⟩ = a := ⟨_, rfl⟩
            rw [ha] at C1 za HM
            rw [hb] at C2 zb HM
            have s1 : (a ++ s).size = 128 + s.size := by rw [ByteArray.size_append, za]
            have S1 : ∀ x, Calls Try.prog 18 #[.string (a ++ s)] (Go.Proofs.Ytceopjolkapijaa.nw wr x) fun e w' => e = .returned (.string (shaB (a ++ s))) ∧ ∃ y, w' = Go.Proofs.Ytceopjolkapijaa.nw wr y := fun x => Calls.nw_of (refSum_any (a ++ s) (by omega) _)
            have s3 := shaB_size (a ++ s)
            obtain ⟨d, hd⟩ : ∃ d, shaB (a ++ s) = d := ⟨_, rfl⟩
            rw [hd] at S1 HM s3
            have s2 : (b ++ d).size = 160 := by rw [ByteArray.size_append, zb, s3]
            have S2 : ∀ x, Calls Try.prog 18 #[.string (b ++ d)] (Go.Proofs.Ytceopjolkapijaa.nw wr x) fun e w' => e = .returned (.string (shaB (b ++ d))) ∧ ∃ y, w' = Go.Proofs.Ytceopjolkapijaa.nw wr y := fun x => Calls.nw_of (refSum_any (b ++ d) (by omega) _)
            have nw' := n8
            have g1' := g1
            clear ha hb hd hi hlt5 h1 h2 HRL hll hlt4 hr128
            go_wp2_with fail
            refine wp_region_new_lit (by kernel_rfl) (by kernel_rfl) ?_; (repeat (any_goals (first | go_big_quiet_step ((first | (go_at_call 18; with_reducible exact S1 _) | (go_at_call 18; with_reducible exact S2 _))) | quiet_step ((first | (go_at_call 18; with_reducible exact S1 _) | (go_at_call 18; with_reducible exact S2 _))) | (refine wpQuiet_step (fun K hK => ?_); go_simp; split <;> (refine hK _ ?_; clear hK K))))); all_goals (refine wpQuiet_nil ?_; intro _ hw'; obtain ⟨xq, hw''⟩ := hw'; subst hw''; have hnq := nw_new _ xq)
            go_wp2
            go_ret
            first | exact ⟨ret_str HM.out.symm, (g1'.new_ nw').new_ hnq⟩ | exact ⟨ret_str (by rw [← HM.out, HKK.out]), (g1'.new_ nw').new_ hnq⟩
end Go.Proofs.Ytceopjolkapijaa
