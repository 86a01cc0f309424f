/- slices.Compact at lists of numbers: the shelf's contract, in the words of the walk; what it makes of a sorted list. Not a proof of any statement by itself. -/
import Derived.Shelf.Slices.CompactI
import Derived.Test.YtlkmcdijioiddaaSort
namespace Go.Proofs.Ytlkmcdijioiddaa
open Go.Shelf Go.RowKit Go.Sort
set_option linter.unusedVariables false
set_option linter.unusedSimpArgs false
def laysCompact_ren : Go.Shelf.Ren := ⟨fun | 20 => 132 | n => n, fun | 22 => 27 | 3 => 3 | 4 => 4 | 0 => 0 | n => n, fun | n => n⟩
theorem laysCompact : Go.Proofs.Lays2.n20 Try.prog laysCompact_ren := {
  mixed := by kernel_rfl
  f20 := Try.func132.trans (congrArg some (by kernel_rfl))
  t0 := Try.underlying0
  a0 := Try.isAgg0
  z0 := Try.sizeOf0
  v0 := Try.zeroValue0
  t3 := Try.underlying3
  a3 := Try.isAgg3
  z3 := Try.sizeOf3
  v3 := Try.zeroValue3
  t4 := Try.underlying4
  a4 := Try.isAgg4
  z4 := Try.sizeOf4
  v4 := Try.zeroValue4
  t22 := Try.underlying27
  a22 := Try.isAgg27
  z22 := Try.sizeOf27
  v22 := Try.zeroValue27
  i3 := by kernel_rfl }
def rising (l : List Int) : Prop := l.Pairwise (· < ·)
theorem compactUpTo_props (d : Array Int) (hd : ∀ i j, i ≤ j → j < d.size → d[i]! ≤ d[j]!) : ∀ m, m ≤ d.size →
    rising (Lib.compactUpTo d m) ∧ (∀ y ∈ Lib.compactUpTo d m, ∃ j, j < m ∧ d[j]! = y) ∧ (∀ j, j < m → d[j]! ∈ Lib.compactUpTo d m) ∧ (Lib.compactUpTo d m).length ≤ m := by
  intro m
  induction m with
  | zero => intro _; exact ⟨by simp [Lib.compactUpTo, rising], by simp [Lib.compactUpTo], fun j h => by omega, by simp [Lib.compactUpTo]⟩
  | succ m ih =>
    intro hm
    obtain ⟨h1, h2, h3, h4⟩ := ih (by omega)
    rw [Lib.compactUpTo_succ]
    by_cases hk : Lib.keeps d m = true
    · rw [if_pos hk]
      refine ⟨?_, ?_, ?_, by simp; omega⟩
      · unfold rising
        rw [List.pairwise_append]
        refine ⟨h1, by simp, fun a ha b hb => ?_⟩
        simp only [List.mem_singleton] at hb
        subst hb
        obtain ⟨j, hj, rfl⟩ := h2 a ha
        simp only [Lib.keeps, decide_eq_true_eq] at hk
        have h5 : d[m]! ≠ d[m - 1]! := by rcases hk with h | h; omega; exact h
        have h6 := hd j (m - 1) (by omega) (by omega)
        have h7 := hd (m - 1) m (by omega) (by omega)
        omega
      · intro y hy
        rcases List.mem_append.1 hy with hy | hy
        · obtain ⟨j, hj, e⟩ := h2 y hy; exact ⟨j, by omega, e⟩
        · simp only [List.mem_singleton] at hy; exact ⟨m, by omega, hy.symm⟩
      · intro j hj
        by_cases e : j = m
        · subst e; simp
        · exact List.mem_append_left _ (h3 j (by omega))
    · rw [if_neg hk, List.append_nil]
      refine ⟨h1, fun y hy => ?_, fun j hj => ?_, by omega⟩
      · obtain ⟨j, hj, e⟩ := h2 y hy; exact ⟨j, by omega, e⟩
      · by_cases e : j = m
        · subst e
          simp only [Lib.keeps, decide_eq_true_eq, not_or, Decidable.not_not] at hk
          rw [hk.2]; exact h3 (j - 1) (by omega)
        · exact h3 j (by omega)
theorem msort_sorted (l : List Int) : ∀ i j, i ≤ j → j < (msort l).toArray.size → (msort l).toArray[i]! ≤ (msort l).toArray[j]! := by
  intro i j hij hj
  have hp : (msort l).Pairwise (fun a b => decide (a ≤ b) = true) := List.pairwise_mergeSort (le := fun a b : Int => decide (a ≤ b)) (fun a b c h1 h2 => by simp at *; omega) (fun a b => by simp; omega) l
  have hj' : j < (msort l).length := by simpa using hj
  have hi' : i < (msort l).length := by omega
  have e1 : (msort l).toArray[i]! = (msort l)[i] := by simp [hi']
  have e2 : (msort l).toArray[j]! = (msort l)[j] := by simp [hj']
  rw [e1, e2]
  rcases Nat.lt_or_ge i j with h | h
  · have := List.pairwise_iff_getElem.1 hp i j hi' hj' h
    simpa using this
  · have : i = j := by omega
    subst this; exact Int.le_refl _
/-- the numbers of a list, rising -/
def setOf (l : List Int) : List Int := Lib.compact (msort l)
theorem setOf_rising (l : List Int) : rising (setOf l) := by
  have := (compactUpTo_props (msort l).toArray (msort_sorted l) (msort l).length (by simp)).1
  exact this
theorem mem_setOf {l : List Int} {x : Int} : x ∈ setOf l ↔ x ∈ l := by
  obtain ⟨_, h2, h3, _⟩ := compactUpTo_props (msort l).toArray (msort_sorted l) (msort l).length (by simp)
  have hm : x ∈ msort l ↔ x ∈ l := (List.mergeSort_perm l fun x y => decide (x ≤ y)).mem_iff
  rw [← hm]
  constructor
  · intro h
    obtain ⟨j, hj, e⟩ := h2 x h
    have e1 : (msort l).toArray[j]! = (msort l)[j] := by simp [hj]
    rw [e1] at e; rw [← e]; exact List.getElem_mem ..
  · intro h
    obtain ⟨j, hj, rfl⟩ := List.mem_iff_getElem.1 h
    have e1 : (msort l).toArray[j]! = (msort l)[j] := by simp [hj]
    have := h3 j hj
    rw [e1] at this; exact this
theorem setOf_length (l : List Int) : (setOf l).length ≤ l.length := by
  have := (compactUpTo_props (msort l).toArray (msort_sorted l) (msort l).length (by simp)).2.2.2
  have h2 : (msort l).length = l.length := msort_length l
  unfold setOf Lib.compact
  omega
theorem rising_ext : ∀ {l l' : List Int}, rising l → rising l' → (∀ x, x ∈ l ↔ x ∈ l') → l = l'
  | [], [], _, _, _ => rfl
  | [], a :: r, _, _, h => by have := (h a).2 (List.mem_cons_self ..); cases this
  | a :: r, [], _, _, h => by have := (h a).1 (List.mem_cons_self ..); cases this
  | a :: r, b :: t, h1, h2, h => by
    obtain ⟨p1, p2⟩ := List.pairwise_cons.1 h1
    obtain ⟨q1, q2⟩ := List.pairwise_cons.1 h2
    have e : a = b := by
      rcases List.mem_cons.1 ((h a).1 (List.mem_cons_self ..)) with e | e
      · exact e
      · rcases List.mem_cons.1 ((h b).2 (List.mem_cons_self ..)) with e' | e'
        · exact e'.symm
        · have := q1 a e; have := p1 b e'; omega
    subst e
    congr 1
    refine rising_ext p2 q2 fun x => ⟨fun hx => ?_, fun hx => ?_⟩
    · rcases List.mem_cons.1 ((h x).1 (List.mem_cons_of_mem _ hx)) with e | e
      · have := p1 x hx; omega
      · exact e
    · rcases List.mem_cons.1 ((h x).2 (List.mem_cons_of_mem _ hx)) with e | e
      · have := q1 x hx; omega
      · exact e
theorem compact_mem (l : List Int) : (∀ y ∈ Lib.compact l, y ∈ l) ∧ (Lib.compact l).length ≤ l.length := by
  have key : ∀ m, m ≤ l.length → (∀ y ∈ Lib.compactUpTo l.toArray m, y ∈ l) ∧ (Lib.compactUpTo l.toArray m).length ≤ m := by
    intro m
    induction m with
    | zero => intro _; simp [Lib.compactUpTo]
    | succ m ih =>
      intro hm
      obtain ⟨h1, h2⟩ := ih (by omega)
      rw [Lib.compactUpTo_succ]
      by_cases hk : Lib.keeps l.toArray m = true
      · rw [if_pos hk]
        refine ⟨fun y hy => ?_, by simp; omega⟩
        rcases List.mem_append.1 hy with hy | hy
        · exact h1 y hy
        · simp only [List.mem_singleton] at hy
          have hlt : m < l.length := by omega
          have e1 : l.toArray[m]! = l[m] := by simp [hlt]
          rw [hy, e1]; exact List.getElem_mem ..
      · rw [if_neg hk, List.append_nil]; exact ⟨h1, by omega⟩
  exact key _ (Nat.le_refl _)
theorem S_slices_Compact (s : Sl Int) (e : TypeId) : Fn Try.prog 132 [s.val] [Own TInt e s] (fun v_ S_ => v_ = Sl.val ⟨s.A, s.c, Lib.compact s.xs⟩ ∧ S_ [Own TInt e ⟨s.A, s.c, Lib.compact s.xs⟩]) := by
  refine ⟨callable_of Try.func132 rfl rfl, fun E w F hs => ?_⟩
  have hs0 := hs
  obtain ⟨en, hs', x1⟩ := hs0
  obtain ⟨hh, tt, rfl, ⟨h1, h2, h3, h4, h5⟩, sb, c, x2⟩ := satsL_cons x1
  rcases h5 with ⟨h6, h7⟩ | ⟨g, cs, h6, h7, h8, h9⟩
  · have hx : s.xs = [] := List.eq_nil_of_length_eq_zero (by omega)
    have hc := Any.slices_Compact_int_empty laysCompact s.A s.c w
    have e1 : s.val = .slice s.A 0 s.c := by unfold Sl.val; rw [hx]; rfl
    have e2 : (⟨s.A, s.c, Lib.compact s.xs⟩ : Sl Int) = s := by
      obtain ⟨A, c', xs⟩ := s
      simp only at hx; subst hx; simp [Lib.compact, Lib.compactUpTo]
    rw [e2, e1]
    refine Calls.mono hc ?_
    rintro ex w' ⟨rfl, rfl⟩
    exact ⟨_, rfl, rfl, hs⟩
  · have hb := sb _ _ _ h7
    have hlt : g < w.heap.size := (Array.getElem?_eq_some_iff.1 hb).1
    have hH : Holds (Value.int .i64) w g 0 s.xs.toArray := by
      intro j hj
      have hj' : j < s.xs.length := by simpa using hj
      refine ⟨?_, by simp [World.frozen?, hb]⟩
      rw [flat_int] at h9
      have h10 : (cs.toList.take (s.xs.length * 1))[j]? = (s.xs.map (Value.int .i64))[j]? := by rw [← h9]; rfl
      rw [Nat.mul_one, List.getElem?_take_of_lt hj'] at h10
      simp only [World.cell?, hb, Nat.zero_add]
      simp only [Option.isSome_none, Bool.false_eq_true, if_false]
      rw [← Array.getElem?_toList, h10]
      simp [hj']
    have hc := Any.slices_Compact_int laysCompact g 0 s.c s.xs w hH (by have := big_is; omega) h1
    have e1 : s.val = .slice (some ⟨g, 0, none⟩) s.xs.length s.c := by unfold Sl.val; rw [h6]
    rw [e1]
    refine Calls.mono hc ?_
    rintro ex w' ⟨rfl, q, rfl⟩
    obtain ⟨m1, m2⟩ := compact_mem s.xs
    refine ⟨_, rfl, by unfold Sl.val; rw [h6], ?_⟩
    have h11 := row_sats (n := q) (os := #[]) (Lib.compact s.xs ++ List.replicate (s.xs.length - (Lib.compact s.xs).length) 0) (by simp; omega) (fun y hy => by
      rcases List.mem_append.1 hy with hy | hy
      · exact .inl (m1 y hy)
      · exact .inr (List.eq_of_mem_replicate hy)) h6 hs
    rw [grow_empty] at h11
    have h12 := own_take h11 (Lib.compact s.xs).length
    simpa using h12
end Go.Proofs.Ytlkmcdijioiddaa
