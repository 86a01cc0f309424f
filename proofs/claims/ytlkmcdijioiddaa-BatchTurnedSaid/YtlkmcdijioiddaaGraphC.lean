/- When a graph's order has all nodes. Plain. Not a proof of any statement by itself. -/
import Derived.Test.YtlkmcdijioiddaaGraphT
namespace Go.Proofs.Ytlkmcdijioiddaa
set_option linter.unusedVariables false
set_option linter.unusedSimpArgs false
theorem indeg_zero {g : List GArc} {out : List Int} {n : Int} : indeg g out n = 0 ↔ ∀ a ∈ g, a.To = n → a.From ∈ out := by
  unfold indeg
  rw [List.length_eq_zero_iff, List.filter_eq_nil_iff]
  constructor
  · intro h a ha ht
    have := h a ha
    simp only [ht, decide_true, Bool.true_and, Bool.not_eq_true', decide_eq_false_iff_not, Decidable.not_not] at this
    exact this
  · intro h a ha
    by_cases ht : a.To = n
    · have := h a ha ht
      simp [this]
    · simp [ht]
/-- what is told in order: nobody ahead of what it comes after -/
def forward (g : List GArc) (o : List Int) : Prop := ∀ (p : List Int) (n : Int) (s : List Int), o = p ++ n :: s → ∀ a ∈ g, a.To = n → a.From ∈ p
theorem topoF_props (nodes : List Int) (g : List GArc) : ∀ (k : Nat) (out : List Int), out.Nodup → (∀ x ∈ out, x ∈ nodes) → forward g out →
    (topoF nodes g k out).Nodup ∧ (∀ x ∈ topoF nodes g k out, x ∈ nodes) ∧ forward g (topoF nodes g k out) ∧ ∃ t, topoF nodes g k out = out ++ t
  | 0, out, h1, h2, h3 => ⟨h1, h2, h3, [], (List.append_nil _).symm⟩
  | k + 1, out, h1, h2, h3 => by
    unfold topoF
    cases hr : (readyL nodes g out).head? with
    | none => exact ⟨h1, h2, h3, [], (List.append_nil _).symm⟩
    | some n =>
      have hn : n ∈ readyL nodes g out := List.mem_of_mem_head? (by rw [hr]; rfl)
      obtain ⟨n1, n2, n3⟩ := mem_ready.1 hn
      have q1 : (out ++ [n]).Nodup := by
        rw [List.nodup_append]; exact ⟨h1, by simp, fun a ha b hb e => by simp at hb; subst hb; subst e; exact n2 ha⟩
      have q2 : ∀ x ∈ out ++ [n], x ∈ nodes := fun x hx => by
        rcases List.mem_append.1 hx with hx | hx
        · exact h2 x hx
        · simp only [List.mem_singleton] at hx; rw [hx]; exact n1
      have q3 : forward g (out ++ [n]) := fun p m s he a ha ht => by
        rcases List.eq_nil_or_concat s with rfl | ⟨s', y, rfl⟩
        · have := List.append_inj' he (by simp)
          obtain ⟨e1, e2⟩ := this
          simp only [List.cons.injEq, and_true] at e2
          subst e1; subst e2
          exact indeg_zero.1 n3 a ha ht
        · have he2 : out ++ [n] = (p ++ m :: s') ++ [y] := by rw [he]; simp
          have := List.append_inj' he2 (by simp)
          exact h3 p m s' this.1 a ha ht
      obtain ⟨r1, r2, r3, t, r4⟩ := topoF_props nodes g k (out ++ [n]) q1 q2 q3
      exact ⟨r1, r2, r3, n :: t, by simp only; rw [r4]; simp⟩
theorem topo_props (nodes : List Int) (g : List GArc) : (topo nodes g).Nodup ∧ (∀ x ∈ topo nodes g, x ∈ nodes) ∧ forward g (topo nodes g) := by
  obtain ⟨h1, h2, h3, _⟩ := topoF_props nodes g nodes.length [] List.nodup_nil (fun x h => by cases h) (fun p n s h => by cases p <;> cases h)
  exact ⟨h1, h2, h3⟩
theorem split_first {p : Int → Prop} [DecidablePred p] : ∀ (l : List Int), (∃ x ∈ l, p x) → ∃ a n b, l = a ++ n :: b ∧ p n ∧ ∀ x ∈ a, ¬ p x
  | [], h => by obtain ⟨x, hx, _⟩ := h; cases hx
  | y :: r, h => by
    by_cases hy : p y
    · exact ⟨[], y, r, rfl, hy, fun x h => by cases h⟩
    · obtain ⟨x, hx, hp⟩ := h
      rcases List.mem_cons.1 hx with rfl | hx
      · exact absurd hp hy
      · obtain ⟨a, n, b, h1, h2, h3⟩ := split_first r ⟨x, hx, hp⟩
        refine ⟨y :: a, n, b, by rw [h1]; rfl, h2, fun z hz => ?_⟩
        rcases List.mem_cons.1 hz with rfl | hz
        · exact hy
        · exact h3 z hz
/-- if there is any order, this one has all nodes -/
theorem topoF_all {nodes : List Int} {g : List GArc} {o : List Int} (ho : ∀ x ∈ nodes, x ∈ o) (hn : nodes.Nodup) (hf : forward g o) (hg : ∀ a ∈ g, a.From ∈ nodes) : ∀ (k : Nat) (out : List Int), out.Nodup → (∀ x ∈ out, x ∈ nodes) → nodes.length ≤ k + out.length → ∀ x ∈ nodes, x ∈ topoF nodes g k out
  | 0, out, h1, h2, h3 => fun x hx => by
    unfold topoF
    by_cases hm : x ∈ out
    · exact hm
    · exfalso
      have h4 := nodup_sub_length (l := x :: out) (m := nodes) (List.nodup_cons.2 ⟨hm, h1⟩) fun y hy => by
        rcases List.mem_cons.1 hy with rfl | hy
        · exact hx
        · exact h2 y hy
      simp only [List.length_cons] at h4
      omega
  | k + 1, out, h1, h2, h3 => fun x hx => by
    unfold topoF
    cases hr : (readyL nodes g out).head? with
    | none =>
      by_cases hm : x ∈ out
      · exact hm
      · exfalso
        -- the first one of o that is no node told yet is ready
        obtain ⟨a, n, b, e, ⟨p1, p2⟩, p3⟩ := split_first (p := fun y => y ∈ nodes ∧ y ∉ out) o ⟨x, ho x hx, hx, hm⟩
        have hready : n ∈ readyL nodes g out := mem_ready.2 ⟨p1, p2, indeg_zero.2 fun c hc ht => by
          have h4 := hf a n b e c hc ht
          have h5 := p3 _ h4
          by_cases h6 : c.From ∈ out
          · exact h6
          · exact absurd ⟨hg c hc, h6⟩ h5⟩
        cases hq : readyL nodes g out with
        | nil => rw [hq] at hready; cases hready
        | cons y r => rw [hq] at hr; cases hr
    | some n =>
      have hn2 : n ∈ readyL nodes g out := List.mem_of_mem_head? (by rw [hr]; rfl)
      obtain ⟨n1, n2, n3⟩ := mem_ready.1 hn2
      exact topoF_all ho hn hf hg k (out ++ [n]) (by rw [List.nodup_append]; exact ⟨h1, by simp, fun a ha b hb e => by simp at hb; subst hb; subst e; exact n2 ha⟩) (fun y hy => by
        rcases List.mem_append.1 hy with hy | hy
        · exact h2 y hy
        · simp only [List.mem_singleton] at hy; rw [hy]; exact n1) (by simp; omega) x hx
theorem topo_full {nodes : List Int} {g : List GArc} (hn : nodes.Nodup) (hg : ∀ a ∈ g, a.From ∈ nodes) : (topo nodes g).length = nodes.length ↔ ∃ o : List Int, (∀ x ∈ nodes, x ∈ o) ∧ forward g o := by
  obtain ⟨h1, h2, h3⟩ := topo_props nodes g
  constructor
  · intro hl
    refine ⟨topo nodes g, fun x hx => ?_, h3⟩
    by_cases hm : x ∈ topo nodes g
    · exact hm
    · have h4 := nodup_sub_length (l := x :: topo nodes g) (m := nodes) (List.nodup_cons.2 ⟨hm, h1⟩) fun y hy => by
        rcases List.mem_cons.1 hy with rfl | hy
        · exact hx
        · exact h2 y hy
      simp only [List.length_cons] at h4
      omega
  · rintro ⟨o, ho, hf⟩
    have h4 := topoF_all ho hn hf hg nodes.length [] List.nodup_nil (fun x h => by cases h) (by simp)
    have h5 := nodup_sub_length h1 h2
    have h6 := nodup_sub_length hn h4
    exact Nat.le_antisymm h5 h6
/-- the arrows' order does not matter -/
theorem topoF_perm {nodes : List Int} {g g' : List GArc} (h : g.Perm g') : ∀ (k : Nat) (out : List Int), topoF nodes g k out = topoF nodes g' k out
  | 0, out => rfl
  | k + 1, out => by
    have hr : readyL nodes g out = readyL nodes g' out := by
      unfold readyL
      have : (fun n => !decide (n ∈ out) && decide (indeg g out n = 0)) = fun n => !decide (n ∈ out) && decide (indeg g' out n = 0) := funext fun n => by
        have : indeg g out n = indeg g' out n := (h.filter _).length_eq
        rw [this]
      rw [this]
    unfold topoF
    rw [hr]
    cases (readyL nodes g' out).head? with
    | none => rfl
    | some n => exact topoF_perm h k (out ++ [n])
theorem topo_perm {nodes : List Int} {g g' : List GArc} (h : g.Perm g') : topo nodes g = topo nodes g' := topoF_perm h _ _
end Go.Proofs.Ytlkmcdijioiddaa
