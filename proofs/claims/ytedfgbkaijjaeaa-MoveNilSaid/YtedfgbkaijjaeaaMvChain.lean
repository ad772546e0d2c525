/- The way up from a thing ends: no thing stands below itself. -/
import Derived.Test.YtedfgbkaijjaeaaMvModel
namespace Go.Proofs.Ytedfgbkaijjaeaa
set_option linter.unusedVariables false

def Chain (th : Ths) : Nat → List Nat → Prop
  | id, [] => id ≤ 1
  | id, k :: c => k = id ∧ 2 ≤ id ∧ match th id with
    | none => c = []
    | some x => Chain th x.parent c
def Acyc (th : Ths) : Prop := ∃ r : Nat → Nat, ∀ i x, 2 ≤ i → th i = some x → 2 ≤ x.parent → r x.parent < r i
def Closed (th : Ths) : Prop := ∀ i x, th i = some x → x.parent ≤ 1 ∨ (th x.parent).isSome = true
def DomIn (th : Ths) (N : Nat) : Prop := ∃ dom : List Nat, dom.length ≤ N ∧ ∀ i, (th i).isSome = true → i ∈ dom
def Bnd (th : Ths) : Prop := ∀ i x, th i = some x → i < 18446744073709551616 ∧ x.parent < 18446744073709551616
theorem chain_ex {th : Ths} (h : Acyc th) (id : Nat) : ∃ c, Chain th id c := by
  obtain ⟨r, hr⟩ := h
  obtain ⟨n, hn⟩ : ∃ n, n = r id := ⟨_, rfl⟩
  induction n using Nat.strongRecOn generalizing id with
  | _ n ih =>
    subst hn
    rcases Nat.lt_or_ge 1 id with h2 | h1
    · cases ht : th id with
      | none => exact ⟨[id], rfl, h2, by rw [ht]⟩
      | some x =>
        rcases Nat.lt_or_ge 1 x.parent with hp | hp
        · obtain ⟨c, hc⟩ := ih (r x.parent) (hr id x h2 ht hp) x.parent rfl
          exact ⟨id :: c, rfl, h2, by rw [ht]; exact hc⟩
        · exact ⟨[id], rfl, h2, by rw [ht]; exact hp⟩
    · exact ⟨[], h1⟩
theorem chain_one {th : Ths} : ∀ {c d : List Nat} {id : Nat}, Chain th id c → Chain th id d → c = d
  | [], [], id, _, _ => rfl
  | [], k :: d, id, h, ⟨_, h2, _⟩ => by have h : id ≤ 1 := h; omega
  | k :: c, [], id, ⟨_, h2, _⟩, h => by have h : id ≤ 1 := h; omega
  | k :: c, k' :: d, id, ⟨e, h2, hm⟩, ⟨e', _, hm'⟩ => by
    subst e
    subst e'
    congr 1
    cases ht : th k' with
    | none =>
      rw [ht] at hm hm'
      exact hm.trans hm'.symm
    | some x =>
      rw [ht] at hm hm'
      exact chain_one hm hm'
theorem chain_low {th : Ths} {r : Nat → Nat} (hr : ∀ i x, 2 ≤ i → th i = some x → 2 ≤ x.parent → r x.parent < r i) : ∀ {c : List Nat} {id : Nat}, Chain th id c → c.Nodup ∧ ∀ k ∈ c, k = id ∨ r k < r id
  | [], id, h => ⟨List.nodup_nil, fun k hk => by cases hk⟩
  | a :: c, id, ⟨e, h2, hm⟩ => by
    subst e
    cases ht : th a with
    | none =>
      rw [ht] at hm
      have hm : c = [] := hm
      subst hm
      exact ⟨by simp, fun k hk => .inl (List.mem_singleton.1 hk)⟩
    | some x =>
      rw [ht] at hm
      have hm : Chain th x.parent c := hm
      have ih := chain_low hr hm
      have low : ∀ k ∈ c, r k < r a := fun k hk => by
        have hp : 2 ≤ x.parent := by
          match c, hm, hk with
          | b :: c, hm, _ => exact hm.2.1
        have := hr a x h2 ht hp
        rcases ih.2 k hk with e | e
        · rw [e]; exact this
        · omega
      refine ⟨List.nodup_cons.2 ⟨fun hk => by have := low a hk; omega, ih.1⟩, fun k hk => ?_⟩
      rcases List.mem_cons.1 hk with e | hk
      · exact .inl e
      · exact .inr (low k hk)
theorem chain_dom {th : Ths} (hc : Closed th) : ∀ {c : List Nat} {id : Nat}, Chain th id c → (th id).isSome = true → ∀ k ∈ c, (th k).isSome = true
  | [], id, h, _, k, hk => by cases hk
  | a :: c, id, ⟨e, h2, hm⟩, hs, k, hk => by
    subst e
    rcases List.mem_cons.1 hk with e | hk
    · rw [e]; exact hs
    · cases ht : th a with
      | none => rw [ht] at hs; cases hs
      | some x =>
        rw [ht] at hm
        have hm : Chain th x.parent c := hm
        rcases hc a x ht with hp | hp
        · match c, hm, hk with
          | b :: c, hm, _ => have := hm.2.1; omega
        · exact chain_dom hc hm hp k hk
theorem nodup_le : ∀ (l d : List Nat), l.Nodup → (∀ x ∈ l, x ∈ d) → l.length ≤ d.length
  | [], d, _, _ => Nat.zero_le _
  | a :: l, d, hn, hs => by
    obtain ⟨h1, h2⟩ := List.nodup_cons.1 hn
    have ha := hs a List.mem_cons_self
    have := nodup_le l (d.erase a) h2 fun x hx => (List.mem_erase_of_ne (fun e : x = a => h1 (by rw [← e]; exact hx))).2 (hs x (List.mem_cons_of_mem _ hx))
    have hl := List.length_erase_of_mem ha
    have hp : 0 < d.length := List.length_pos_of_mem ha
    rw [List.length_cons]
    omega
theorem chain_length {th : Ths} {N : Nat} (ha : Acyc th) (hc : Closed th) (hd : DomIn th N) {c : List Nat} {id : Nat} (h : Chain th id c) : c.length ≤ N + 1 := by
  obtain ⟨r, hr⟩ := ha
  obtain ⟨dom, hl, hd⟩ := hd
  cases ht : th id with
  | none =>
    match c, h with
    | [], _ => exact Nat.zero_le _
    | a :: c, ⟨e, h2, hm⟩ =>
      rw [ht] at hm
      have hm : c = [] := hm
      subst hm
      simp
  | some x =>
    have := nodup_le c dom (chain_low hr h).1 fun k hk => hd k (chain_dom hc h (by rw [ht]; rfl) k hk)
    omega
theorem chainF_eq {th : Ths} : ∀ {c : List Nat} {f id : Nat}, Chain th id c → c.length < f → chainF th f id = c
  | c, 0, id, _, hl => by omega
  | [], f + 1, id, h, _ => by
    have h : id ≤ 1 := h
    unfold chainF
    rw [if_pos h]
  | a :: c, f + 1, id, ⟨e, h2, hm⟩, hl => by
    subst e
    unfold chainF
    rw [if_neg (by omega)]
    cases ht : th a with
    | none =>
      rw [ht] at hm
      have hm : c = [] := hm
      subst hm
      rfl
    | some x =>
      rw [ht] at hm
      have hm : Chain th x.parent c := hm
      simp only
      rw [chainF_eq hm (by simp only [List.length_cons] at hl; omega)]
structure Inv (s : TkV) (N : Nat) : Prop where
  ids : IdsOk s
  kids : KidsOk s
  acyc : Acyc s.th
  closed : Closed s.th
  dom : DomIn s.th N
  bnd : Bnd s.th
theorem Inv.chain {s : TkV} {N : Nat} (h : Inv s N) (hN : N ≤ 900) (id : Nat) : Chain s.th id (upT s.th id) := by
  obtain ⟨c, hc⟩ := chain_ex h.acyc id
  have hl := chain_length h.acyc h.closed h.dom hc
  have e : upT s.th id = c := chainF_eq hc (by omega)
  rw [e]
  exact hc
theorem Inv.chain_len {s : TkV} {N : Nat} (h : Inv s N) (hN : N ≤ 900) (id : Nat) : (upT s.th id).length ≤ N + 1 := chain_length h.acyc h.closed h.dom (h.chain hN id)
theorem Inv.up_step {s : TkV} {N : Nat} (h : Inv s N) (hN : N ≤ 900) {i : Nat} {x : ThV} (hi : 2 ≤ i) (hx : s.th i = some x) : upT s.th i = i :: upT s.th x.parent := by
  refine chain_one (h.chain hN i) ⟨rfl, hi, ?_⟩
  rw [hx]
  exact h.chain hN x.parent
theorem folder_some {th : Ths} {p : Nat} (h : folderF th p = true) : p = 0 ∨ (th p).isSome = true := by
  unfold folderF at h
  cases ht : th p with
  | none =>
    rw [ht] at h
    simp [zeroT] at h
    exact .inl h
  | some x => exact .inr rfl
theorem next_cases {th : Ths} {o : OpV} (h : (nextF th o).2 = true) :
    (th o.thing = none ∧ folderF th o.parent = true ∧ (nextF th o).1.parent = o.parent) ∨
    ∃ old, th o.thing = some old ∧ ((folderF th o.parent = true ∧ o.thing ∉ upT th o.parent ∧ (nextF th o).1.parent = o.parent) ∨ (nextF th o).1.parent = 1 ∨ (nextF th o).1.parent = old.parent) := by
  unfold nextF at h ⊢
  simp only at h ⊢
  cases ht : th o.thing with
  | none =>
    rw [ht] at h
    simp only [Option.isSome_none, Option.getD_none] at h ⊢
    left
    split at h
    · rename_i h1
      rw [if_pos h1]
      split at h
      · cases h
      · rename_i h2
        rw [if_neg h2]
        refine ⟨trivial, ?_, rfl⟩
        cases hf : folderF th o.parent with
        | true => rfl
        | false => exact absurd (.inr hf) h2
    · split at h
      · split at h
        · cases h
        · rename_i h3
          exact absurd (.inl trivial) h3
      · split at h
        · cases h
        · split at h <;> cases h
  | some old =>
    rw [ht] at h
    simp only [Option.isSome_some, Option.getD_some] at h ⊢
    right
    refine ⟨old, rfl, ?_⟩
    split at h
    · rename_i h1
      split at h
      · cases h
      · rename_i h2
        exact absurd (.inl trivial) h2
    · rename_i h1
      rw [if_neg h1]
      split at h
      · rename_i h2
        rw [if_pos h2]
        split at h
        · cases h
        · rename_i h3
          rw [if_neg h3]
          left
          refine ⟨?_, fun hm => h3 (.inr (.inr hm)), rfl⟩
          cases hf : folderF th o.parent with
          | true => rfl
          | false => exact absurd (.inr (.inl hf)) h3
      · rename_i h2
        rw [if_neg h2]
        right
        split
        · exact .inl rfl
        · right
          split <;> rfl
theorem do_inv {s : TkV} {N : Nat} (h : Inv s N) (hN : N ≤ 900) {e : EnV} (h1 : e.op.thing < 18446744073709551616) (h2 : e.op.parent < 18446744073709551616) : Inv (doS s e) (N + 1) := by
  obtain ⟨hi, hk⟩ := do_ok h.ids h.kids e
  by_cases hd : (nextF s.th e.op).2 = true
  case neg =>
    have es : doS s e = s := by unfold doS; rw [if_neg hd]
    rw [es]
    obtain ⟨dom, hl, hd⟩ := h.dom
    exact ⟨h.ids, h.kids, h.acyc, h.closed, ⟨dom, by omega, hd⟩, h.bnd⟩
  have hid := next_id h.ids hd
  have hcs := next_cases hd
  obtain ⟨x, hx⟩ : ∃ x, x = (nextF s.th e.op).1 := ⟨_, rfl⟩
  rw [← hx] at hid hcs
  obtain ⟨t, ht⟩ : ∃ t, t = e.op.thing := ⟨_, rfl⟩
  obtain ⟨p, hp⟩ : ∃ p, p = e.op.parent := ⟨_, rfl⟩
  rw [← ht] at hid hcs h1
  rw [← hp] at hcs h2
  have hth : (doS s e).th = updF s.th t (some x) := by
    unfold doS
    rw [if_pos hd, ← hx]
    show updF s.th x.id (some x) = _
    rw [hid]
  have hat : ∀ i y, updF s.th t (some x) i = some y → (i = t ∧ y = x) ∨ (i ≠ t ∧ s.th i = some y) := fun i y hy => by
    by_cases ei : i = t
    · subst ei
      rw [updF_same] at hy
      exact .inl ⟨rfl, (Option.some.inj hy).symm⟩
    · rw [updF_other _ _ ei] at hy
      exact .inr ⟨ei, hy⟩
  have hsome : ∀ i, (s.th i).isSome = true → (updF s.th t (some x) i).isSome = true := fun i hs => by
    by_cases ei : i = t
    · subst ei; rw [updF_same]; rfl
    · rw [updF_other _ _ ei]; exact hs
  have hxp : x.parent ≤ 1 ∨ (s.th x.parent).isSome = true := by
    rcases hcs with ⟨_, hf, e1⟩ | ⟨old, ho, (⟨hf, _, e1⟩ | e1 | e1)⟩
    · rw [e1]
      rcases folder_some hf with e | e
      · exact .inl (by omega)
      · exact .inr e
    · rw [e1]
      rcases folder_some hf with e | e
      · exact .inl (by omega)
      · exact .inr e
    · exact .inl (by omega)
    · rw [e1]; exact h.closed _ _ ho
  have hac : Acyc (updF s.th t (some x)) := by
    obtain ⟨r, hr⟩ := h.acyc
    rcases hcs with ⟨hn, hf, e1⟩ | ⟨old, ho, (⟨hf, hup, e1⟩ | e1 | e1)⟩
    · refine ⟨updF r t (r p + 1), fun i y hi2 hy hy2 => ?_⟩
      rcases hat i y hy with ⟨rfl, rfl⟩ | ⟨ne, hy⟩
      · have hpt : y.parent ≠ i := by
          intro e2
          rcases hxp with h3 | h3
          · omega
          · rw [e2, hn] at h3; cases h3
        rw [updF_same, updF_other _ _ hpt, e1]
        omega
      · have hpt : y.parent ≠ t := by
          intro e2
          rcases h.closed i y hy with h3 | h3
          · omega
          · rw [e2, hn] at h3; cases h3
        rw [updF_other _ _ ne, updF_other _ _ hpt]
        exact hr i y hi2 hy hy2
    · refine ⟨fun j => if t ∈ upT s.th j then r j + r p + 1 else r j, fun i y hi2 hy hy2 => ?_⟩
      rcases hat i y hy with ⟨rfl, rfl⟩ | ⟨ne, hy⟩
      · have hself : i ∈ upT s.th i := by rw [h.up_step hN hi2 ho]; exact List.mem_cons_self
        simp only [e1]
        rw [if_neg hup, if_pos hself]
        omega
      · have hst := h.up_step hN hi2 hy
        have hiff : t ∈ upT s.th i ↔ t ∈ upT s.th y.parent := by
          rw [hst, List.mem_cons]
          constructor
          · rintro (e2 | e2)
            · exact absurd e2.symm ne
            · exact e2
          · exact .inr
        have := hr i y hi2 hy hy2
        simp only
        by_cases hm : t ∈ upT s.th y.parent
        · rw [if_pos hm, if_pos (hiff.2 hm)]
          omega
        · rw [if_neg hm, if_neg (fun hh => hm (hiff.1 hh))]
          exact this
    · refine ⟨r, fun i y hi2 hy hy2 => ?_⟩
      rcases hat i y hy with ⟨rfl, rfl⟩ | ⟨ne, hy⟩
      · omega
      · exact hr i y hi2 hy hy2
    · refine ⟨r, fun i y hi2 hy hy2 => ?_⟩
      rcases hat i y hy with ⟨rfl, rfl⟩ | ⟨ne, hy⟩
      · have := hr i old hi2 ho (by omega)
        rw [e1]
        exact this
      · exact hr i y hi2 hy hy2
  refine ⟨hi, hk, by rw [hth]; exact hac, ?_, ?_, ?_⟩
  · rw [hth]
    intro i y hy
    rcases hat i y hy with ⟨rfl, rfl⟩ | ⟨ne, hy⟩
    · rcases hxp with h3 | h3
      · exact .inl h3
      · exact .inr (hsome _ h3)
    · rcases h.closed i y hy with h3 | h3
      · exact .inl h3
      · exact .inr (hsome _ h3)
  · rw [hth]
    obtain ⟨dom, hl, hdm⟩ := h.dom
    refine ⟨t :: dom, by simp; omega, fun i hs => ?_⟩
    by_cases ei : i = t
    · subst ei; exact List.mem_cons_self
    · rw [updF_other _ _ ei] at hs
      exact List.mem_cons_of_mem _ (hdm i hs)
  · rw [hth]
    intro i y hy
    rcases hat i y hy with ⟨rfl, rfl⟩ | ⟨ne, hy⟩
    · refine ⟨h1, ?_⟩
      rcases hcs with ⟨_, _, e1⟩ | ⟨old, ho, (⟨_, _, e1⟩ | e1 | e1)⟩
      · rw [e1]; exact h2
      · rw [e1]; exact h2
      · omega
      · rw [e1]; exact (h.bnd _ _ ho).2
    · exact h.bnd i y hy
theorem foldl_inv : ∀ (es : List EnV) (s : TkV) (N : Nat), Inv s N → N + es.length ≤ 900 → (∀ e ∈ es, e.op.thing < 18446744073709551616 ∧ e.op.parent < 18446744073709551616) → Inv (es.foldl doS s) (N + es.length)
  | [], s, N, h, _, _ => h
  | e :: es, s, N, h, hN, hb => by
    have hb1 := hb e List.mem_cons_self
    have := foldl_inv es (doS s e) (N + 1) (do_inv h (by simp only [List.length_cons] at hN; omega) hb1.1 hb1.2) (by simp only [List.length_cons] at hN; omega) (fun x hx => hb x (List.mem_cons_of_mem _ hx))
    rw [List.length_cons, show N + (es.length + 1) = N + 1 + es.length by omega]
    exact this
theorem none_inv : Inv noneS 0 := by
  refine ⟨none_ok.1, none_ok.2, ⟨fun _ => 0, ?_⟩, ?_, ⟨[], Nat.le_refl _, ?_⟩, ?_⟩
  · intro i x _ h
    cases h
  · intro i x h
    cases h
  · intro i h
    cases h
  · intro i x h
    cases h
theorem run_inv (es : List EnV) (hl : es.length ≤ 900) (hb : ∀ e ∈ es, e.op.thing < 18446744073709551616 ∧ e.op.parent < 18446744073709551616) : Inv (runS es) es.length := by
  have := foldl_inv es noneS 0 none_inv (by omega) hb
  rw [Nat.zero_add] at this
  exact this
end Go.Proofs.Ytedfgbkaijjaeaa
