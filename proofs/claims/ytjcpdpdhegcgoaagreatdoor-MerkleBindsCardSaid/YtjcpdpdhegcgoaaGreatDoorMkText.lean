/- Texts from few numbers: of just so many bytes. -/
import Derived.Test.YtjcpdpdhegcgoaaGreatDoorMkGear
import Derived.Test.YtjcpdpdhegcgoaaGreatDoorTxL
import Derived.Laws.BytesString
namespace Go.Proofs.YtjcpdpdhegcgoaaGreatDoor
open Go.RowKit
set_option linter.unusedVariables false
set_option linter.unusedSimpArgs false

/-- A row of bytes of the call's own. -/
def ByL (W : World) (B : Nat) (v : Value) (l : List Int) : Prop := W.ownsRow B 5 1 v l.length (l.map (Value.int .u8))
theorem ByL.fr {W W' : World} {B : Nat} {v : Value} {l : List Int} {G : Nat → Prop} (h : ByL W B v l) (f : Fr G W W') (hv : ∀ k, v.ownBlock = some k → ¬ G k) : ByL W' B v l := by
  rcases h.2 with ⟨e, h0⟩ | ⟨g, cap, cur, e, hB, hg, r⟩
  · exact ⟨h.1, .inl ⟨e, h0⟩⟩
  · subst e
    exact ⟨h.1, .inr ⟨g, cap, cur, rfl, hB, (f.block g (lt_of_block hg) (hv g rfl)).trans hg, r⟩⟩
theorem ByL.base {W : World} {B : Nat} {v : Value} {l : List Int} (h : ByL W B v l) {k : Nat} (hk : v.ownBlock = some k) : B ≤ k ∧ k < W.heap.size := by
  rcases h.2 with ⟨e, h0⟩ | ⟨g, cap, cur, e, hB, hg, r⟩
  · rw [e] at hk; cases hk
  · subst e
    injection hk with hk
    have : g = k := hk
    subst this
    exact ⟨hB, lt_of_block hg⟩
theorem ByL.form {W : World} {B : Nat} {v : Value} {l : List Int} (h : ByL W B v l) : ∃ A cap, v = .slice A l.length cap := by
  rcases h.2 with ⟨e, h0⟩ | ⟨g, cap, cur, e, _⟩
  · exact ⟨none, 0, by rw [e, h0]⟩
  · exact ⟨_, cap, e⟩
theorem info_byte : (Tryz.prog.info? 5).map (fun i => (i.zero, i.size, i.bytes)) = some (some (.int .u8 0), 1, 1) := by kernel_rfl
/-- One byte more. -/
theorem append_byte {W : World} {B blk : Nat} {v : Value} {l : List Int} {x : Int} (h : ByL W B v l) (hB : B ≤ W.heap.size) (hn : l.length ≤ 100000) (hb : Own W blk 5 #[.int .u8 x]) :
    ∃ v' W', (Builtin.append_ #[82, 82] 82 #[v, .slice (some ⟨blk, 0, none⟩) 1 1]).run Tryz.prog W = .ok v' W' ∧ ByL W' B v' (l ++ [x]) ∧
      Fr (fun k => v.ownBlock = some k) W W' := by
  obtain ⟨i, hi, hv⟩ := Option.map_eq_some_iff.1 info_byte
  have z1 : i.zero = some (.int .u8 0) := congrArg Prod.fst hv
  have z2 : i.size = 1 := congrArg (fun x => x.2.1) hv
  have z3 : i.bytes = 1 := congrArg (fun x => x.2.2) hv
  obtain ⟨v', W', hr, h2, h3, h4, h5⟩ := run_append_own_at (P := Tryz.prog) W B 82 82 5 i _ 1 1 Tryz.underlying82 hi z1 z2 z3 rfl (by omega) v l.length _ h ⟨blk, 0, none⟩ 1 1 [.int .u8 x] rfl
    (fun j u hu => World.news_of_block hb j u hu) (by simp [Value.oneCell']) (by simp [maxLen]; omega) (by omega) hB
  refine ⟨v', W', hr, ?_, fr_of_grown h3⟩
  unfold ByL
  rw [List.length_append, List.map_append]
  exact h2
theorem foldpush_size : ∀ (l : List Int) (s : ByteArray), (l.foldl (fun r n => r.push (UInt8.ofNat n.toNat)) s).size = s.size + l.length
  | [], s => rfl
  | x :: l, s => by
    rw [List.foldl_cons, foldpush_size l, ByteArray.size_push, List.length_cons]
    omega
theorem bytes_string {W : World} {B : Nat} {v : Value} {l : List Int} (h : ByL W B v l) :
    ∃ s : ByteArray, (convert 82 9 v).run Tryz.prog W = .ok (.string s) W ∧ s.size = l.length := by
  rcases h.2 with ⟨e, h0⟩ | ⟨g, cap, cur, e, hB, hg, h1, h2, h3, h4⟩
  · subst e
    refine ⟨ByteArray.empty, ?_, by rw [h0]; rfl⟩
    rw [run_convert_bytes_string W 82 9 5 none 0 0 Tryz.underlying82 Tryz.underlying5 Tryz.underlying9]
    rfl
  · subst e
    refine ⟨_, ?_, foldpush_size l ByteArray.empty |>.trans (Nat.zero_add _)⟩
    rw [run_convert_bytes_string W 82 9 5 _ _ _ Tryz.underlying82 Tryz.underlying5 Tryz.underlying9]
    refine run_bytesToString W _ _ _ l ?_
    have := run_loadCells_list (P := Tryz.prog) (w := W) ⟨g, 0, none⟩ (l.map (Value.int .u8)) (fun j u hu => by
      have hj : j < l.length := by
        have := (List.getElem?_eq_some_iff.1 hu).1
        simpa using this
      have hc : W.cell? ⟨g, j, none⟩ = cur[j]? := Own.cell (w := W) (b := g) (t := 5) (cs := cur) hg j
      have hadd : (⟨g, 0, none⟩ : Addr).add j = ⟨g, j, none⟩ := by unfold Addr.add; split <;> simp_all
      rw [hadd, hc, ← hu, ← h4, List.getElem?_take]
      simp [hj])
    rw [List.length_map] at this
    exact this
/-- A conversion whose run is known. -/
theorem wpList_convert_run {P : Program} {w : World} {ops : Array Oper} {rest : List Oper} {o : Oper} {a : Act} {Q : Exit → Act → World → Prop} (hgd : o.guard = none) (t u : TypeId) (x : Operand)
    (ho : o.op = .convert t u x) {v v' : Value} {w' : World} (hx : a.eval x = v)
    (hr : (convert t u v).run P w = .ok v' w') (k : wpList P ops Q rest (a.put o.dst v') w') : wpList P ops Q (o :: rest) a w := by
  refine wpList_plain hgd fun K hK => ?_
  unfold Oper.wp execOp
  simp only [ho, Sem.run_bind, Sem.run_pure, Result.andThen_ok, hx, hr]
  exact hK _ _ k
set_option maxRecDepth 100000 in
set_option maxHeartbeats 8000000 in
theorem lawtext_any {x0 : W64} {n : Nat} (hn : n ≤ 8193) {w : World} : Calls Tryz.prog 38 #[U x0, .int .i64 n] w fun e W => ∃ s : ByteArray, e = .returned (.string s) ∧ s.size = n ∧ New w W := by
  have hx0 := blt x0
  go_enter Tryz.func38, Tryz.ntmps38
  unfold U
  go_wp2_with fail
  have hp0 : ByL (w.alloc (.cells #[] 5)) w.heap.size (.slice (some ⟨w.heap.size, 0, none⟩) 0 0) [] :=
    ⟨rfl, .inr ⟨w.heap.size, 0, #[], rfl, Nat.le_refl _, Own.fresh _ _ _, Nat.le_refl _, Nat.zero_le _, rfl, rfl⟩⟩
  have hn0 : New w (w.alloc (.cells #[] 5)) := (Fr.refl _ _).alloc _
  have H0 := Lib.hid (And.intro hp0 hn0)
  clear hp0 hn0
  go_loopw [5, 6, 7] (fun kv xv iv wr => ∃ (i : Nat) (X : W64) (A' : Option Addr) (cap' : Nat) (l : List Int), kv = .slice A' i cap' ∧ xv = .int .u64 (X.toNat : Int) ∧ iv = .int .i64 i ∧ i ≤ n ∧ Hid (i = l.length) ∧ Hid (ByL wr w.heap.size (.slice A' i cap') l ∧ New w wr)) (fun _ _ iv _ => n - (intOf iv).toNat)
  case atStart => exact ⟨0, x0, _, _, [], rfl, rfl, rfl, Nat.zero_le _, Lib.hid rfl, H0⟩
  case round =>
    clear H0
    obtain ⟨i, X, A', cap', l, rfl, rfl, rfl, him, HL, HR⟩ := hrel
    by_cases hlt : i < n
    · have h1' : (i : Int) < (n : Int) := by omega
      have hmi : (n : Int) ≤ 8193 := by omega
      obtain ⟨s0, hs0⟩ : ∃ x, x = X <<< 13 := ⟨_, rfl⟩
      have e1 : IntKind.u64.wrap ((X.toNat : Int) * 8192) = (s0.toNat : Int) := by rw [IntKind.wrap_u64, hs0]; exact bshl_ X 13
      obtain ⟨y0, hy0⟩ : ∃ x, x = X ^^^ s0 := ⟨_, rfl⟩
      have e2 : bits .xor .u64 (X.toNat : Int) (s0.toNat : Int) = (y0.toNat : Int) := by rw [hy0]; exact bx_ _ _
      obtain ⟨s1, hs1⟩ : ∃ x, x = y0 >>> 7 := ⟨_, rfl⟩
      have e3 : (y0.toNat : Int) / 128 = (s1.toNat : Int) := by rw [hs1]; exact bshr_ y0 7
      obtain ⟨y1, hy1⟩ : ∃ x, x = y0 ^^^ s1 := ⟨_, rfl⟩
      have e4 : bits .xor .u64 (y0.toNat : Int) (s1.toNat : Int) = (y1.toNat : Int) := by rw [hy1]; exact bx_ _ _
      obtain ⟨s2, hs2⟩ : ∃ x, x = y1 <<< 17 := ⟨_, rfl⟩
      have e5 : IntKind.u64.wrap ((y1.toNat : Int) * 131072) = (s2.toNat : Int) := by rw [IntKind.wrap_u64, hs2]; exact bshl_ y1 17
      obtain ⟨y2, hy2⟩ : ∃ x, x = y1 ^^^ s2 := ⟨_, rfl⟩
      have e6 : bits .xor .u64 (y1.toNat : Int) (s2.toNat : Int) = (y2.toNat : Int) := by rw [hy2]; exact bx_ _ _
      obtain ⟨y3, hy3⟩ : ∃ x, x = y2 + 11400714819323198485#64 := ⟨_, rfl⟩
      have e7 : IntKind.u64.wrap ((y2.toNat : Int) + 11400714819323198485) = (y3.toNat : Int) := by rw [IntKind.wrap_u64, hy3]; exact badd_ y2 11400714819323198485#64
      obtain ⟨c, hc⟩ : ∃ c, c = y3.toNat / 72057594037927936 := ⟨_, rfl⟩
      have hc2 : (y3.toNat : Int) / 72057594037927936 = (c : Int) := by omega
      have hcb : (c : Int) < 256 := by have := y3.isLt; omega
      clear hs0 hy0 hs1 hy1 hs2 hy2 hy3 hc
      have b0 := blt X
      have b1 := blt s0
      have b2 := blt y0
      have b3 := blt s1
      have b4 := blt y1
      have b5 := blt s2
      have b6 := blt y2
      have b7 := blt y3
      obtain ⟨v', W', hrun, t3, f3⟩ := append_byte (x := (c : Int)) (HR.out.1.fr ((Fr.refl _ _).alloc (.cells #[.int .u8 (c : Int)] 5)) (fun _ _ g => g)) (by have := HR.out.2.size; simp; omega) (by rw [← HL.out]; omega) (Own.fresh wr 5 #[.int .u8 (c : Int)])
      have n3 : New w W' := (HR.out.2.alloc (.cells #[.int .u8 (c : Int)] 5)).trans f3 fun k hk e => by have := (HR.out.1.base e).1; omega
      obtain ⟨g, cp, rfl⟩ := t3.form
      have HN := Lib.hid (And.intro t3 n3)
      rw [List.length_append, ← HL.out] at hrun
      simp only [List.length_singleton] at hrun
      clear t3 f3 n3
      go_wp2_with (at_builtin; refine wpList_append_run rfl _ _ _ rfl rfl rfl hrun ?_)
      exact ⟨⟨i + 1, y3, g, cp, l ++ [(c : Int)], rfl, rfl, by go_num, by omega, Lib.hid (by rw [HL.out]; simp), Lib.hid ⟨by have := HN.out.1; rw [List.length_append, ← HL.out] at this; exact this, HN.out.2⟩⟩, by simp [intOf]; omega⟩
    · obtain rfl : i = n := by omega
      have h1' : ¬ (i : Int) < (i : Int) := by omega
      obtain ⟨s, hrun, hss⟩ := bytes_string HR.out.1
      have HS := Lib.hid hss
      clear hss
      go_wp2_with (refine wpList_convert_run rfl _ _ _ rfl rfl hrun ?_)
      go_ret
      exact ⟨s, by simp, by rw [HS.out, HL.out], HR.out.2⟩
end Go.Proofs.YtjcpdpdhegcgoaaGreatDoor
