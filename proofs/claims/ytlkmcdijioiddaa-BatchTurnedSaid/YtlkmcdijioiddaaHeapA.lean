/- Heaps, as bags of things of which the one ahead of all is told. Plain. Not a proof of any statement by itself. -/
import Derived.Test.YtlkmcdijioiddaaHeapW
namespace Go.Proofs.Ytlkmcdijioiddaa
set_option linter.unusedVariables false
set_option linter.unusedSimpArgs false

/-- the map tells just the places of the list's things -/
def placedAll (l : List GThing) (kv : List (Int × Int)) : Prop := (∀ j : Nat, j < l.length → aget kv (gt l j).id = some (j : Int)) ∧ (∀ k p, aget kv k = some p → ∃ j : Nat, j < l.length ∧ p = (j : Int) ∧ (gt l j).id = k)
/-- the same, but for place i, where x belongs -/
structure plEx (l : List GThing) (kv : List (Int × Int)) (i : Nat) (x : GThing) : Prop where
  a : ∀ j : Nat, j < l.length → j ≠ i → aget kv (gt l j).id = some (j : Int)
  b : ∀ k p, aget kv k = some p → k = x.id ∨ ∃ j : Nat, j < l.length ∧ j ≠ i ∧ p = (j : Int) ∧ (gt l j).id = k
  c : ∀ j : Nat, j < l.length → j ≠ i → (gt l j).id ≠ x.id
theorem plEx.inj {l : List GThing} {kv : List (Int × Int)} {i : Nat} {x : GThing} (h : plEx l kv i x) {j k : Nat} (hj : j < l.length) (hk : k < l.length) (h1 : j ≠ i) (h2 : k ≠ i) (e : (gt l j).id = (gt l k).id) : j = k := by
  have e1 := h.a j hj h1
  have e2 := h.a k hk h2
  rw [e, e2] at e1
  simp only [Option.some.injEq] at e1
  omega
theorem placedAll.ex {l : List GThing} {kv : List (Int × Int)} (h : placedAll l kv) (i : Nat) (hi : i < l.length) : plEx l kv i (gt l i) := by
  refine ⟨fun j hj _ => h.1 j hj, fun k p hk => ?_, fun j hj hne e => ?_⟩
  · obtain ⟨j, h1, h2, h3⟩ := h.2 k p hk
    by_cases e : j = i
    · subst e; exact .inl h3.symm
    · exact .inr ⟨j, h1, e, h2, h3⟩
  · have e1 := h.1 j hj
    have e2 := h.1 i hi
    rw [e, e2] at e1
    simp only [Option.some.injEq] at e1
    omega
theorem plEx.step {l : List GThing} {kv : List (Int × Int)} {i p : Nat} {x : GThing} (h : plEx l kv i x) (hi : i < l.length) (hp : p < l.length) (hne : p ≠ i) : plEx (l.set i (gt l p)) (aset kv (gt l p).id i) p x := by
  refine ⟨fun j hj h1 => ?_, fun k q hk => ?_, fun j hj h1 => ?_⟩
  · simp only [List.length_set] at hj
    rw [gt_set _ hi, aget_aset]
    by_cases e : j = i
    · simp [e]
    · simp only [if_neg e]
      have : (gt l j).id ≠ (gt l p).id := fun e2 => h1 (h.inj hj hp e hne e2)
      simp only [if_neg this]
      exact h.a j hj e
  · rw [aget_aset] at hk
    by_cases e : k = (gt l p).id
    · simp only [if_pos e, Option.some.injEq] at hk
      refine .inr ⟨i, by simpa using hi, fun e => hne e.symm, hk.symm, ?_⟩
      rw [gt_set _ hi]; simp [e]
    · simp only [if_neg e] at hk
      rcases h.b k q hk with h1 | ⟨j, h1, h2, h3, h4⟩
      · exact .inl h1
      · refine .inr ⟨j, by simpa using h1, fun e2 => e (by rw [← h4, e2]), h3, ?_⟩
        rw [gt_set _ hi, if_neg h2]; exact h4
  · simp only [List.length_set] at hj
    rw [gt_set _ hi]
    by_cases e : j = i
    · simp only [if_pos e]; exact h.c p hp hne
    · simp only [if_neg e]; exact h.c j hj e
theorem plEx.done {l : List GThing} {kv : List (Int × Int)} {i : Nat} {x : GThing} (h : plEx l kv i x) (hi : i < l.length) : placedAll (l.set i x) (aset kv x.id i) := by
  refine ⟨fun j hj => ?_, fun k p hk => ?_⟩
  · simp only [List.length_set] at hj
    rw [gt_set _ hi, aget_aset]
    by_cases e : j = i
    · simp [e]
    · simp only [if_neg e, if_neg (h.c j hj e)]; exact h.a j hj e
  · rw [aget_aset] at hk
    by_cases e : k = x.id
    · simp only [if_pos e, Option.some.injEq] at hk
      refine ⟨i, by simpa using hi, hk.symm, ?_⟩
      rw [gt_set _ hi]; simp [e]
    · simp only [if_neg e] at hk
      rcases h.b k p hk with h1 | ⟨j, h1, h2, h3, h4⟩
      · exact absurd h1 e
      · refine ⟨j, by simpa using h1, h3, ?_⟩
        rw [gt_set _ hi, if_neg h2]; exact h4
theorem upF_placed (x : GThing) : ∀ (i : Nat) (l : List GThing) (kv : List (Int × Int)), i < l.length → plEx l kv i x → placedAll (upF l kv i x).1 (upF l kv i x).2.1 := by
  intro i
  induction i using Nat.strongRecOn with
  | _ i ih =>
    intro l kv hi h
    unfold upF
    split
    · rename_i hc
      exact ih ((i - 1) / 2) (by omega) _ _ (by simp; omega) (h.step hi (by omega) (by omega))
    · exact h.done hi
theorem downF_placed (x : GThing) : ∀ (m i : Nat) (l : List GThing) (kv : List (Int × Int)), l.length - i = m → i < l.length → plEx l kv i x → placedAll (downF l kv i x).1 (downF l kv i x).2 := by
  intro m
  induction m using Nat.strongRecOn with
  | _ m ih =>
    intro i l kv hm hi h
    unfold downF
    split
    · rename_i hc
      have hg := lesser_gt l i
      exact ih (l.length - lesser l i) (by omega) (lesser l i) _ _ (by simp) (by simp; exact hc.1) (h.step hi hc.1 (by omega))
    · exact h.done hi
theorem upF_same (x : GThing) : ∀ (i : Nat) (l : List GThing) (kv : List (Int × Int)), (upF l kv i x).2.2 = i → (upF l kv i x).1 = l.set i x ∧ (upF l kv i x).2.1 = aset kv x.id i := by
  intro i l kv h
  unfold upF at h ⊢
  split at h
  · rename_i hc
    have := upF_le ((i - 1) / 2) (l.set i (gt l ((i - 1) / 2))) (aset kv (gt l ((i - 1) / 2)).id i) x
    omega
  · rename_i hc
    rw [dif_neg hc]; exact ⟨rfl, rfl⟩
theorem gt_set_self {l : List GThing} {i : Nat} (x : GThing) (h : i < l.length) : gt (l.set i x) i = x := by rw [gt_set x h]; simp
theorem fixF_placed {l : List GThing} {kv : List (Int × Int)} {i : Nat} {x : GThing} (hi : i < l.length) (h : plEx l kv i x) : placedAll (fixF l kv i x).1 (fixF l kv i x).2 := by
  unfold fixF
  have h1 := upF_placed x i l kv hi h
  by_cases he : (upF l kv i x).2.2 = i
  · rw [if_pos he]
    obtain ⟨e1, e2⟩ := upF_same x i l kv he
    rw [e1, e2] at h1 ⊢
    have h2 := h1.ex i (by simpa using hi)
    rw [gt_set_self x hi] at h2
    exact downF_placed x _ i _ _ rfl (by simpa using hi) h2
  · rw [if_neg he]; exact h1
/-- a heap that is right -/
def hpR (l : List GThing) (kv : List (Int × Int)) : Prop := ordered l ∧ placedAll l kv
theorem hpR.ok {l : List GThing} {kv : List (Int × Int)} (h : hpR l kv) : hpOk l kv := fun k p hk => by
  obtain ⟨j, h1, h2, h3⟩ := h.2.2 k p hk
  subst h2
  exact ⟨by omega, by omega, by rw [Int.toNat_natCast]; exact h3⟩
theorem hpR_nil : hpR [] [] := ⟨fun j h0 h1 => by simp at h1, fun j h => by simp at h, fun k p h => by cases h⟩
theorem hpR.mem {l : List GThing} {kv : List (Int × Int)} (h : hpR l kv) (k : Int) : (aget kv k).isSome = true ↔ ∃ x ∈ l, x.id = k := by
  constructor
  · intro hs
    obtain ⟨p, hp⟩ := Option.isSome_iff_exists.1 hs
    obtain ⟨j, h1, h2, h3⟩ := h.2.2 k p hp
    exact ⟨gt l j, List.mem_of_getElem? (gt_get h1), h3⟩
  · rintro ⟨x, hx, rfl⟩
    obtain ⟨j, hj, rfl⟩ := List.mem_iff_getElem.1 hx
    have := h.2.1 j hj
    have e : gt l j = l[j] := by have := gt_get hj; rw [List.getElem?_eq_getElem hj] at this; simpa using this.symm
    rw [e] at this; rw [this]; rfl
theorem gt_append {l : List GThing} {y : GThing} {j : Nat} (h : j < l.length) : gt (l ++ [y]) j = gt l j := by
  unfold gt; simp only [List.getD_eq_getElem?_getD]; rw [List.getElem?_append_left h]
theorem ordEx_append {l : List GThing} {y : GThing} (h : ordered l) : ordEx (l ++ [y]) l.length := by
  intro j h0 h1 h2
  simp only [List.length_append, List.length_cons, List.length_nil] at h1
  have hj : j < l.length := by omega
  refine ⟨fun _ => ?_, fun h3 => by omega⟩
  rw [gt_append hj, gt_append (by omega)]
  exact h j h0 hj
theorem put_new {l : List GThing} {kv : List (Int × Int)} {x : GThing} (h : hpR l kv) (hn : aget kv x.id = none) : hpR (putF l kv x).1 (putF l kv x).2 ∧ (putF l kv x).1.Perm (x :: l) := by
  rw [putF_none hn]
  have hi : l.length < (l ++ [x]).length := by simp
  have hx : plEx (l ++ [x]) kv l.length x := by
    refine ⟨fun j hj h1 => ?_, fun k p hk => ?_, fun j hj h1 e => ?_⟩
    · have hj' : j < l.length := by simp at hj; omega
      rw [gt_append hj']; exact h.2.1 j hj'
    · obtain ⟨j, h1, h2, h3⟩ := h.2.2 k p hk
      exact .inr ⟨j, by simp; omega, by omega, h2, by rw [gt_append h1]; exact h3⟩
    · have hj' : j < l.length := by simp at hj; omega
      rw [gt_append hj'] at e
      have := h.2.1 j hj'
      rw [e, hn] at this; cases this
  obtain ⟨a1, a2, a3⟩ := fixF_spec (l := l ++ [x]) (kv := kv) (i := l.length) (x := x) hi (ordEx_append h.1)
  refine ⟨⟨a3, fixF_placed hi hx⟩, ?_⟩
  have h2 := (a2 x (by simp)).cons_inv
  exact h2.symm.trans (List.perm_append_comm (l₁ := l) (l₂ := [x]))
theorem take_last {l : List GThing} (h : 0 < l.length) : l = l.take (l.length - 1) ++ [gt l (l.length - 1)] := by
  have e := gt_get (l := l) (i := l.length - 1) (by omega)
  have h1 : l.drop (l.length - 1) = [gt l (l.length - 1)] := by
    rw [List.drop_eq_getElem_cons (by omega)]
    rw [List.getElem?_eq_getElem (by omega)] at e
    simp only [Option.some.injEq] at e
    rw [e, show l.length - 1 + 1 = l.length by omega, List.drop_length]
  conv => lhs; rw [← List.take_append_drop (l.length - 1) l]
  rw [h1]
theorem gt_take {l : List GThing} {j n : Nat} (h : j < n) : gt (l.take n) j = gt l j := by
  unfold gt; simp only [List.getD_eq_getElem?_getD]; rw [List.getElem?_take_of_lt h]
theorem ordered_take {l : List GThing} (h : ordered l) (n : Nat) : ordered (l.take n) := fun j h0 h1 => by
  have h2 : j < n ∧ j < l.length := by simp at h1; omega
  rw [gt_take h2.1, gt_take (by omega)]
  exact h j h0 h2.2
theorem drop_spec {l : List GThing} {kv : List (Int × Int)} {id i : Int} (h : hpR l kv) (hnd : (akeys kv).Nodup) (hk : aget kv id = some i) : ∃ x, x ∈ l ∧ x.id = id ∧ l.Perm (x :: (dropF l kv id).1) ∧ hpR (dropF l kv id).1 (dropF l kv id).2 := by
  obtain ⟨j, h1, rfl, h3⟩ := h.2.2 id i hk
  have hp : 0 < l.length := by omega
  have hl := take_last hp
  refine ⟨gt l j, List.mem_of_getElem? (gt_get h1), h3, ?_⟩
  have htl : (l.take (l.length - 1)).length = l.length - 1 := by simp
  have hadel : ∀ k, aget (adel kv id) k = if k = id then none else aget kv k := fun k => aget_adel kv hnd id k
  by_cases hlast : (gt l (l.length - 1)).id = id
  · rw [dropF_last hk hlast]
    have hj : j = l.length - 1 := by
      have e1 := h.2.1 j h1
      have e2 := h.2.1 (l.length - 1) (by omega)
      rw [h3] at e1; rw [hlast, e1] at e2
      simp only [Option.some.injEq] at e2; omega
    subst hj
    refine ⟨?_, ordered_take h.1 _, fun k hk2 => ?_, fun k p hk2 => ?_⟩
    · have e : (l.take (l.length - 1) ++ [gt l (l.length - 1)]).Perm (gt l (l.length - 1) :: l.take (l.length - 1)) := List.perm_append_comm (l₂ := [gt l (l.length - 1)])
      rw [← hl] at e; exact e
    · rw [htl] at hk2
      rw [gt_take (by omega), hadel]
      have e1 := h.2.1 k (by omega)
      have : (gt l k).id ≠ id := fun e => by
        rw [e, hk] at e1; simp only [Option.some.injEq] at e1; omega
      rw [if_neg this]; exact e1
    · rw [hadel] at hk2
      by_cases e : k = id
      · rw [if_pos e] at hk2; cases hk2
      · rw [if_neg e] at hk2
        obtain ⟨q, q1, q2, q3⟩ := h.2.2 k p hk2
        have : q ≠ l.length - 1 := fun e2 => e (by rw [← q3, e2, hlast])
        exact ⟨q, by rw [htl]; omega, q2, by rw [gt_take (by omega)]; exact q3⟩
  · rw [dropF_fix hk hlast]
    have hj : j < l.length - 1 := by
      rcases Nat.lt_or_ge j (l.length - 1) with h | h
      · exact h
      · exfalso; apply hlast; rw [← h3, show j = l.length - 1 by omega]
    have hjt : j < (l.take (l.length - 1)).length := by rw [htl]; exact hj
    have hx : plEx (l.take (l.length - 1)) (adel kv id) j (gt l (l.length - 1)) := by
      refine ⟨fun k hk2 hne => ?_, fun k p hk2 => ?_, fun k hk2 hne e => ?_⟩
      · rw [htl] at hk2
        rw [gt_take (by omega), hadel]
        have e1 := h.2.1 k (by omega)
        have : (gt l k).id ≠ id := fun e => by
          rw [e, hk] at e1; simp only [Option.some.injEq] at e1; omega
        rw [if_neg this]; exact e1
      · rw [hadel] at hk2
        by_cases e : k = id
        · rw [if_pos e] at hk2; cases hk2
        · rw [if_neg e] at hk2
          obtain ⟨q, q1, q2, q3⟩ := h.2.2 k p hk2
          by_cases e2 : q = l.length - 1
          · left; rw [← q3, e2]
          · refine .inr ⟨q, by rw [htl]; omega, fun e3 => e (by rw [← q3, e3, h3]), q2, by rw [gt_take (by omega)]; exact q3⟩
      · rw [htl] at hk2
        rw [gt_take (by omega)] at e
        have e1 := h.2.1 k (by omega)
        have e2 := h.2.1 (l.length - 1) (by omega)
        rw [e, e2] at e1
        simp only [Option.some.injEq] at e1; omega
    obtain ⟨a1, a2, a3⟩ := fixF_spec (l := l.take (l.length - 1)) (kv := adel kv id) (i := j) (x := gt l (l.length - 1)) hjt (ordered_ex (ordered_take h.1 _) j)
    refine ⟨?_, a3, fixF_placed hjt hx⟩
    have h4 := a2 (gt l j) (by have := gt_get hjt; rw [gt_take hj] at this; exact this)
    have e : (l.take (l.length - 1) ++ [gt l (l.length - 1)]).Perm (gt l (l.length - 1) :: l.take (l.length - 1)) := List.perm_append_comm (l₂ := [gt l (l.length - 1)])
    rw [← hl] at e
    exact e.trans h4
theorem pop_spec {l : List GThing} {kv : List (Int × Int)} (h : hpR l kv) (hnd : (akeys kv).Nodup) (hne : l ≠ []) : ∃ x, x ∈ l ∧ x.id = headId l ∧ (∀ y ∈ l, ahead y x = false) ∧ l.Perm (x :: (popF l kv).1) ∧ hpR (popF l kv).1 (popF l kv).2 := by
  obtain ⟨h1, h2, h3⟩ := head_get hne
  have hp : 0 < l.length := List.length_pos_iff.2 hne
  have hk := h.2.1 0 hp
  rw [h2] at hk
  obtain ⟨x, x1, x2, x3, x4⟩ := drop_spec h hnd hk
  have hx : x = gt l 0 := by
    obtain ⟨j, hj, rfl⟩ := List.mem_iff_getElem.1 x1
    have e : gt l j = l[j] := by have := gt_get hj; rw [List.getElem?_eq_getElem hj] at this; simpa using this.symm
    have e1 := h.2.1 j hj
    rw [e, x2, hk] at e1
    simp only [Option.some.injEq] at e1
    have : j = 0 := by omega
    subst this; exact e.symm
  unfold popF
  rw [if_neg (by rw [h3]; decide)]
  refine ⟨x, x1, x2, fun y hy => ?_, x3, x4⟩
  obtain ⟨j, hj, rfl⟩ := List.mem_iff_getElem.1 hy
  have e : gt l j = l[j] := by have := gt_get hj; rw [List.getElem?_eq_getElem hj] at this; simpa using this.symm
  rw [← e, hx]
  exact ordered_first h.1 j hj
end Go.Proofs.Ytlkmcdijioiddaa
