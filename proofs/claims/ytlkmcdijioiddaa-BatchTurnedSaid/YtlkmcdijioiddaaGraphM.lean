/- Graphs, plain. Not a proof of any statement by itself. -/
import Derived.Test.YtlkmcdijioiddaaMapS
namespace Go.Proofs.Ytlkmcdijioiddaa
set_option linter.unusedVariables false
set_option linter.unusedSimpArgs false
def goodA (nodes : List Int) (l : List GArc) : List GArc := l.filter fun a => decide (a.From ∈ nodes) && decide (a.To ∈ nodes)
def tosA (g : List GArc) (n : Int) : List Int := (g.filter fun a => decide (a.From = n)).map (·.To)
def indeg (g : List GArc) (out : List Int) (n : Int) : Nat := (g.filter fun a => decide (a.To = n) && !decide (a.From ∈ out)).length
theorem take_succ' {α : Type} {l : List α} {i : Nat} {x : α} (h : l[i]? = some x) : l.take (i + 1) = l.take i ++ [x] := by
  rw [List.take_add_one, h]; rfl
theorem goodA_yes {nodes : List Int} {l : List GArc} {x : GArc} (h : x.From ∈ nodes ∧ x.To ∈ nodes) : goodA nodes (l ++ [x]) = goodA nodes l ++ [x] := by
  unfold goodA; rw [List.filter_append]; simp [h.1, h.2]
theorem goodA_no {nodes : List Int} {l : List GArc} {x : GArc} (h : ¬ (x.From ∈ nodes ∧ x.To ∈ nodes)) : goodA nodes (l ++ [x]) = goodA nodes l := by
  unfold goodA; rw [List.filter_append]
  have : ([x].filter fun a => decide (a.From ∈ nodes) && decide (a.To ∈ nodes)) = [] := by
    simp only [List.filter_cons, List.filter_nil]
    rw [if_neg]
    simp only [Bool.and_eq_true, decide_eq_true_eq]; exact h
  rw [this, List.append_nil]
theorem tosA_add {g : List GArc} {x : GArc} (n : Int) : tosA (g ++ [x]) n = if n = x.From then tosA g n ++ [x.To] else tosA g n := by
  unfold tosA
  rw [List.filter_append, List.map_append]
  by_cases h : n = x.From
  · rw [if_pos h]; simp [h]
  · rw [if_neg h]
    have : ¬ x.From = n := fun e => h e.symm
    simp [this]
theorem indeg_add {g : List GArc} {x : GArc} (n : Int) : indeg (g ++ [x]) [] n = if n = x.To then indeg g [] n + 1 else indeg g [] n := by
  unfold indeg
  rw [List.filter_append, List.length_append]
  by_cases h : n = x.To
  · rw [if_pos h]; simp [h]
  · rw [if_neg h]
    have : ¬ x.To = n := fun e => h e.symm
    simp [this]
theorem goodA_len (nodes : List Int) (l : List GArc) : (goodA nodes l).length ≤ l.length := List.length_filter_le ..
theorem indeg_len (g : List GArc) (out : List Int) (n : Int) : indeg g out n ≤ g.length := List.length_filter_le ..
theorem tosA_len (g : List GArc) (n : Int) : (tosA g n).length ≤ g.length := by unfold tosA; rw [List.length_map]; exact List.length_filter_le ..
end Go.Proofs.Ytlkmcdijioiddaa
