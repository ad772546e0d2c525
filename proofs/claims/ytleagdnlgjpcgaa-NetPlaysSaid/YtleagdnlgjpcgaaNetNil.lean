/- Nothing is sent. -/
import Derived.Test.YtleagdnlgjpcgaaNetDoE
namespace Go.Proofs.Ytleagdnlgjpcgaa
open Go.RowKit Go.Maps
set_option linter.unusedVariables false
set_option linter.unusedSimpArgs false

set_option maxHeartbeats 4000000 in
theorem send_nil {w : World} {n cap : Nat} {X : Nat → Prop} {s : NetV} {A : Option Addr} (h : NetB w n X s) :
    Calls Try.prog 9 #[.pointer (some ⟨n, 0, none⟩), .slice A 0 cap] w fun e W => e = .returned (.int .i64 0) ∧ NetTo w X n W s := by
  go_enter Try.func9, Try.ntmps9
  go_wp2_with fail
  go_loopw [5, 12] (fun kv iv wr => kv = .int .i64 0 ∧ iv = .int .i64 0 ∧ NetTo w X n wr s) (fun _ iv _ => 0)
  case atStart => exact ⟨rfl, rfl, NetTo.refl h⟩
  case round =>
    obtain ⟨rfl, rfl, hT⟩ := hrel
    clear h
    go_wp2_with fail
    go_ret
    exact ⟨rfl, hT⟩
set_option maxHeartbeats 4000000 in
theorem msend_nil {w : World} {cap : Nat} {X : Nat → Prop} {s : NetV} {mv : Value} {A : Option Addr} (h : ModB w X mv s) (hX : ∀ k, X k → k < w.heap.size) :
    Calls Try.prog 31 #[mv, .slice A 0 cap] w fun e W => ∃ mv', e = .returned (.tuple #[mv', .int .i64 0]) ∧ ModB W X mv' s ∧ New w W := by
  obtain ⟨A1, n1, c1, A2, n2, c2, A3, n3, c3, rfl, -, -⟩ := h.form
  go_enter Try.func31, Try.ntmps31
  go_wp2_with fail
  refine wp_world (fun W => Own W w.heap.size 43 #[.slice A1 n1 c1, .slice A2 n2 c2, .slice A3 n3 c3, .int .i64 s.sent, .int .i64 s.lost] ∧ Own W (w.heap.size + 1) 43 zMod ∧ New w W) ⟨Own.alloc (Own.fresh _ _ _) _, Own.new' (by simp), ((Fr.refl _ _).alloc _).alloc _⟩ ?_
  rintro W1 ⟨bm, br, hN⟩
  have h0 : ModB W1 (fun k => X k ∨ k = w.heap.size ∨ k = w.heap.size + 1) (.agg #[.slice A1 n1 c1, .slice A2 n2 c2, .slice A3 n3 c3, .int .i64 s.sent, .int .i64 s.lost]) s :=
    h.fr hN (fun _ g => g.elim) (fun k hk => by rcases hk with h | h | h; exact .inl h; exact .inr (by omega); exact .inr (by omega))
  have HH := Lib.hid (And.intro bm (And.intro br (And.intro hN h0)))
  clear bm br hN h0 h
  go_loopw [6, 7] (fun kv iv wr => kv = .int .i64 0 ∧ iv = .int .i64 0 ∧ wr = W1) (fun _ iv _ => 0)
  case atStart => exact ⟨rfl, rfl, rfl⟩
  case round =>
    obtain ⟨rfl, rfl, rfl⟩ := hrel
    obtain ⟨bm, br, hN, hm⟩ := HH.out
    obtain ⟨⟨m0, m1, m2, m3, m4⟩, f0, f1, f2, f3, f4⟩ := own5 bm
    obtain ⟨⟨r0, r1, r2, r3, r4⟩, y0, y1, y2, y3, y4⟩ := own5 br
    clear bm br hN hm
    go_wp2_with fail
    obtain ⟨bm, br, hN, hm⟩ := HH.out
    refine post_world (fun Wf => Own Wf (w.heap.size + 1) 43 #[.slice A1 n1 c1, .slice A2 n2 c2, .slice A3 n3 c3, .int .i64 s.sent, .int .i64 s.lost] ∧ Fr (fun k => k = w.heap.size + 1) wr Wf) (br.put5 _ _ _ _ _) ?_
    clear m0 m1 m2 m3 m4 f0 f1 f2 f3 f4 r0 r1 r2 r3 r4 y0 y1 y2 y3 y4
    rintro Wf ⟨brf, ff⟩
    obtain ⟨⟨r0, r1, r2, r3, r4⟩, -⟩ := own5 brf
    have gF : New w Wf := hN.trans ff fun k hk e => by omega
    exact bodyPost_ret (v := .tuple #[.agg #[.slice A1 n1 c1, .slice A2 n2 c2, .slice A3 n3 c3, .int .i64 s.sent, .int .i64 s.lost], .int .i64 0]) (by simp [results, Try.results31, go_sem, *]) rfl ⟨_, rfl, hm.fr ff (fun k e => .inr (.inr e)) (fun _ h => .inl (.inl h)), gF⟩
theorem send_some {w : World} {n cap : Nat} {X : Nat → Prop} {s : NetV} {A : Option Addr} {l : List Pkt} (h : NetB w n X s) (hA : PkS w A l) (hAX : ∀ a, A = some a → 0 < l.length → ¬ X a.block ∧ a.block < w.heap.size)
    (hl : s.l.length ≤ 4096) (hw : s.w.length + l.length ≤ 100000) (hs : s.lost + l.length ≤ 1000000) (ht : s.sent + l.length ≤ 1000000) (hp : ∀ p ∈ l, p.wf) :
    Calls Try.prog 9 #[.pointer (some ⟨n, 0, none⟩), .slice A l.length cap] w fun e W => e = .returned (.int .i64 (s.send l).2) ∧ NetTo w X n W (s.send l).1 := by
  cases l with
  | nil => exact send_nil h
  | cons p l => exact send_any h hA (fun a e => hAX a e (by simp)) hl hw hs ht hp
theorem msend_some {w : World} {X : Nat → Prop} {mv : Value} {s : NetV} {A : Option Addr} {l : List Pkt} {cap : Nat} (h : ModB w X mv s) (hX : ∀ k, X k → k < w.heap.size) (hA : PkS w A l) (hAl : ∀ a, A = some a → 0 < l.length → a.block < w.heap.size)
    (hl : s.l.length ≤ 4096) (hw : s.w.length + l.length ≤ 100000) (hs : s.lost + l.length ≤ 1000000) (ht : s.sent + l.length ≤ 1000000) :
    Calls Try.prog 31 #[mv, .slice A l.length cap] w fun e W => ∃ mv', e = .returned (.tuple #[mv', .int .i64 (s.send l).2]) ∧ ModB W X mv' (s.send l).1 ∧ New w W := by
  cases l with
  | nil => exact msend_nil h hX
  | cons p l => exact msend_any h hX hA (fun a e => hAl a e (by simp)) hl hw hs ht
end Go.Proofs.Ytleagdnlgjpcgaa
