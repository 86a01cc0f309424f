/- Heaps as lists: what goes up and down, and that the first one is ahead of all. Plain Lean: no program here. -/
import Derived.Test.YtlkmcdijioiddaaMapI
namespace Go.Proofs.Ytlkmcdijioiddaa
set_option linter.unusedVariables false
set_option linter.unusedSimpArgs false

def cmp3 (a b : Int) : Int := if a < b then -1 else if b < a then 1 else 0
def orI : List Int → Int
  | [] => 0
  | x :: r => if x = 0 then orI r else x
def ahead (x y : GThing) : Bool := decide (orI [cmp3 y.key x.key, cmp3 x.seq y.seq, cmp3 x.id y.id] < 0)
theorem ahead_iff (x y : GThing) : ahead x y = true ↔ (y.key < x.key ∨ y.key = x.key ∧ (x.seq < y.seq ∨ x.seq = y.seq ∧ x.id < y.id)) := by
  unfold ahead orI orI orI orI cmp3
  simp only [decide_eq_true_eq]
  split <;> split <;> (try split) <;> (try split) <;> (try split) <;> (try split) <;> (try split) <;> (try split) <;> (try split) <;> (try split) <;> omega
theorem ahead_no (x y : GThing) : ahead x y = false ↔ ¬ (y.key < x.key ∨ y.key = x.key ∧ (x.seq < y.seq ∨ x.seq = y.seq ∧ x.id < y.id)) := by
  rw [← ahead_iff]; simp
theorem ahead_irr (x : GThing) : ahead x x = false := by rw [ahead_no]; omega
theorem ahead_asym {x y : GThing} (h : ahead x y = true) : ahead y x = false := by rw [ahead_iff] at h; rw [ahead_no]; omega
/-- 'not ahead' goes on -/
theorem na_trans {x y z : GThing} (h : ahead x y = false) (k : ahead y z = false) : ahead x z = false := by rw [ahead_no] at *; omega
theorem na_of {x y z : GThing} (h : ahead x y = false) (k : ahead z y = true) : ahead x z = false := by rw [ahead_iff] at k; rw [ahead_no] at *; omega
theorem ahead_total {x y : GThing} (h : ahead x y = false) (k : ahead y x = false) : x = y := by
  rw [ahead_no] at *
  obtain ⟨a, b, c⟩ := x; obtain ⟨a', b', c'⟩ := y
  simp only at h k
  have h1 : a = a' := by omega
  have h2 : b = b' := by omega
  have h3 : c = c' := by omega
  rw [h1, h2, h3]

def d0 : GThing := ⟨0, 0, 0⟩
def gt (l : List GThing) (i : Nat) : GThing := l.getD i d0
theorem gt_get {l : List GThing} {i : Nat} (h : i < l.length) : l[i]? = some (gt l i) := by
  unfold gt; rw [List.getD_eq_getElem?_getD, List.getElem?_eq_getElem h]; rfl
theorem gt_set {l : List GThing} {i : Nat} (x : GThing) (h : i < l.length) (j : Nat) : gt (l.set i x) j = if j = i then x else gt l j := by
  unfold gt
  simp only [List.getD_eq_getElem?_getD, List.getElem?_set]
  by_cases hj : j = i
  · subst hj; simp [h]
  · have : ¬ i = j := fun e => hj e.symm
    simp [hj, this]

def upF (l : List GThing) (kv : List (Int × Int)) (i : Nat) (x : GThing) : List GThing × List (Int × Int) × Nat :=
  if h : 0 < i ∧ ahead x (gt l ((i - 1) / 2)) = true then upF (l.set i (gt l ((i - 1) / 2))) (aset kv (gt l ((i - 1) / 2)).id i) ((i - 1) / 2) x
  else (l.set i x, aset kv x.id i, i)
termination_by i
decreasing_by omega
def lesser (l : List GThing) (i : Nat) : Nat := if 2 * i + 2 < l.length ∧ ahead (gt l (2 * i + 2)) (gt l (2 * i + 1)) = true then 2 * i + 2 else 2 * i + 1
theorem lesser_gt (l : List GThing) (i : Nat) : i < lesser l i := by unfold lesser; split <;> omega
def downF (l : List GThing) (kv : List (Int × Int)) (i : Nat) (x : GThing) : List GThing × List (Int × Int) :=
  if h : lesser l i < l.length ∧ ahead (gt l (lesser l i)) x = true then downF (l.set i (gt l (lesser l i))) (aset kv (gt l (lesser l i)).id i) (lesser l i) x
  else (l.set i x, aset kv x.id i)
termination_by l.length - i
decreasing_by have := lesser_gt l i; simp; omega
def fixF (l : List GThing) (kv : List (Int × Int)) (i : Nat) (x : GThing) : List GThing × List (Int × Int) :=
  if (upF l kv i x).2.2 = i then downF (upF l kv i x).1 (upF l kv i x).2.1 i x else ((upF l kv i x).1, (upF l kv i x).2.1)

/-- no one is ahead of the one above it -/
def ordered (l : List GThing) : Prop := ∀ j, 0 < j → j < l.length → ahead (gt l j) (gt l ((j - 1) / 2)) = false
/-- the same, but for place i; what is below i is not ahead of what is above i -/
def ordEx (l : List GThing) (i : Nat) : Prop := ∀ j, 0 < j → j < l.length → j ≠ i →
  ((j - 1) / 2 ≠ i → ahead (gt l j) (gt l ((j - 1) / 2)) = false) ∧ ((j - 1) / 2 = i → 0 < i → ahead (gt l j) (gt l ((i - 1) / 2)) = false)
theorem ordered_ex {l : List GThing} (h : ordered l) (i : Nat) : ordEx l i := fun j h0 h1 h2 => ⟨fun _ => h j h0 h1, fun he hi => by
  have h3 := h j h0 h1
  rw [he] at h3
  exact na_trans h3 (h i hi (by omega))⟩
/-- what is below place i is not ahead of x -/
def belowOk (l : List GThing) (i : Nat) (x : GThing) : Prop := ∀ j, 0 < j → j < l.length → (j - 1) / 2 = i → j ≠ i → ahead (gt l j) x = false
theorem ordered_of {l : List GThing} {i : Nat} {x : GThing} (hi : i < l.length) (h : ordEx l i) (hb : belowOk l i x) (ha : 0 < i → ahead x (gt l ((i - 1) / 2)) = false) : ordered (l.set i x) := by
  intro j h0 h1
  simp only [List.length_set] at h1
  rw [gt_set x hi, gt_set x hi]
  by_cases hj : j = i
  · subst hj
    have : ¬ (j - 1) / 2 = j := by omega
    simp only [if_true, if_neg this]
    exact ha h0
  · simp only [if_neg hj]
    by_cases hp : (j - 1) / 2 = i
    · simp only [if_pos hp]; exact hb j h0 h1 hp hj
    · simp only [if_neg hp]; exact (h j h0 h1 hj).1 hp
/-- the ids' places -/
def placed (l : List GThing) (kv : List (Int × Int)) : Prop := ∀ j, j < l.length → aget kv (gt l j).id = some (j : Int)

/-- the multiset with a hole at i -/
theorem set_perm {α : Type} : ∀ {l : List α} {i : Nat} {y : α} (x : α), l[i]? = some y → (x :: l).Perm (y :: l.set i x)
  | [], i, y, x, h => by simp at h
  | a :: r, 0, y, x, h => by simp at h; subst h; exact List.Perm.swap _ _ _
  | a :: r, i + 1, y, x, h => by
    have ih := set_perm (l := r) (i := i) x (by simpa using h)
    simp only [List.set_cons_succ]
    exact (List.Perm.swap _ _ _).trans ((ih.cons a).trans (List.Perm.swap _ _ _))

theorem upF_spec (x : GThing) : ∀ (i : Nat) (l : List GThing) (kv : List (Int × Int)), i < l.length → ordEx l i → ∀ r, r = upF l kv i x →
    r.1.length = l.length ∧ r.2.2 ≤ i ∧ (∀ y, l[i]? = some y → (x :: l).Perm (y :: r.1)) ∧
    (r.2.2 = i → r.1 = l.set i x ∧ (0 < i → ahead x (gt l ((i - 1) / 2)) = false)) ∧ (r.2.2 ≠ i ∨ belowOk l i x → ordered r.1) ∧ gt r.1 r.2.2 = x := by
  intro i
  induction i using Nat.strongRecOn with
  | _ i ih =>
    intro l kv hi ho r hr
    unfold upF at hr
    by_cases hc : 0 < i ∧ ahead x (gt l ((i - 1) / 2)) = true
    · rw [dif_pos hc] at hr
      have hp : (i - 1) / 2 < i := by omega
      have hpl : (i - 1) / 2 < l.length := by omega
      -- the hole goes up
      have ho2 : ordEx (l.set i (gt l ((i - 1) / 2))) ((i - 1) / 2) := by
        intro j h0 h1 h2
        simp only [List.length_set] at h1
        rw [gt_set _ hi]
        constructor
        · intro h3
          rw [gt_set _ hi]
          by_cases hj : j = i
          · exact absurd (by rw [hj]) h3
          · simp only [if_neg hj]
            by_cases hq : (j - 1) / 2 = i
            · simp only [if_pos hq]; exact (ho j h0 h1 hj).2 hq hc.1
            · simp only [if_neg hq]; exact (ho j h0 h1 hj).1 hq
        · intro h3 h4
          rw [gt_set _ hi]
          have hne : ¬ ((i - 1) / 2 - 1) / 2 = i := by omega
          simp only [if_neg hne]
          have hpp := (ho ((i - 1) / 2) h4 hpl (by omega)).1 (by omega)
          by_cases hj : j = i
          · simp only [if_pos hj]; exact hpp
          · simp only [if_neg hj]
            have := (ho j h0 h1 hj).1 (by omega)
            rw [h3] at this
            exact na_trans this hpp
      have hb2 : belowOk (l.set i (gt l ((i - 1) / 2))) ((i - 1) / 2) x := by
        intro j h0 h1 h2 h3
        simp only [List.length_set] at h1
        rw [gt_set _ hi]
        by_cases hj : j = i
        · simp only [if_pos hj]; exact ahead_asym hc.2
        · simp only [if_neg hj]
          have := (ho j h0 h1 hj).1 (by omega)
          rw [h2] at this
          exact na_of this hc.2
      obtain ⟨a1, a2, a3, a4, a5, a6⟩ := ih _ hp (l.set i (gt l ((i - 1) / 2))) (aset kv (gt l ((i - 1) / 2)).id i) (by simp; omega) ho2 r hr
      refine ⟨by simpa using a1, by omega, fun y hy => ?_, fun he => by omega, fun _ => a5 (.inr hb2), a6⟩
      have h1 := a3 (gt l ((i - 1) / 2)) (by rw [List.getElem?_set_ne (by omega)]; exact gt_get hpl)
      have h2 := set_perm (gt l ((i - 1) / 2)) hy
      -- x :: l ~ y :: r.1
      have h3 : ((gt l ((i - 1) / 2)) :: x :: l).Perm (gt l ((i - 1) / 2) :: y :: r.1) := by
        have e1 : ((gt l ((i - 1) / 2)) :: x :: l).Perm (x :: (gt l ((i - 1) / 2) :: l)) := List.Perm.swap _ _ _
        have e2 : (x :: (gt l ((i - 1) / 2) :: l)).Perm (x :: (y :: l.set i (gt l ((i - 1) / 2)))) := h2.cons x
        have e3 : (x :: (y :: l.set i (gt l ((i - 1) / 2)))).Perm (y :: (x :: l.set i (gt l ((i - 1) / 2)))) := List.Perm.swap _ _ _
        have e4 : (y :: (x :: l.set i (gt l ((i - 1) / 2)))).Perm (y :: (gt l ((i - 1) / 2) :: r.1)) := h1.cons y
        have e5 : (y :: (gt l ((i - 1) / 2) :: r.1)).Perm (gt l ((i - 1) / 2) :: (y :: r.1)) := List.Perm.swap _ _ _
        exact e1.trans (e2.trans (e3.trans (e4.trans e5)))
      exact h3.cons_inv
    · rw [dif_neg hc] at hr
      subst hr
      refine ⟨by simp, Nat.le_refl _, fun y hy => set_perm x hy, fun _ => ⟨rfl, fun h0 => ?_⟩, fun h => ?_, by rw [gt_set x hi]; simp⟩
      · cases h : ahead x (gt l ((i - 1) / 2)) with
        | false => rfl
        | true => exact absurd ⟨h0, h⟩ hc
      · rcases h with h | h
        · exact absurd rfl h
        · refine ordered_of hi ho h fun h0 => ?_
          cases h2 : ahead x (gt l ((i - 1) / 2)) with
          | false => rfl
          | true => exact absurd ⟨h0, h2⟩ hc
theorem lesser_is (l : List GThing) (i j : Nat) (h0 : 0 < j) (hj : j < l.length) (hp : (j - 1) / 2 = i) (hne : j ≠ i) : lesser l i < l.length ∧ ahead (gt l j) (gt l (lesser l i)) = false := by
  have h1 : j = 2 * i + 1 ∨ j = 2 * i + 2 := by omega
  unfold lesser
  by_cases hc : 2 * i + 2 < l.length ∧ ahead (gt l (2 * i + 2)) (gt l (2 * i + 1)) = true
  · rw [if_pos hc]
    refine ⟨hc.1, ?_⟩
    rcases h1 with rfl | rfl
    · exact ahead_asym hc.2
    · exact ahead_irr _
  · rw [if_neg hc]
    rcases h1 with rfl | rfl
    · exact ⟨hj, ahead_irr _⟩
    · refine ⟨by omega, ?_⟩
      cases h : ahead (gt l (2 * i + 2)) (gt l (2 * i + 1)) with
      | false => rfl
      | true => exact absurd ⟨hj, h⟩ hc
theorem downF_spec (x : GThing) : ∀ (m i : Nat) (l : List GThing) (kv : List (Int × Int)), l.length - i = m → i < l.length → ordEx l i → (0 < i → ahead x (gt l ((i - 1) / 2)) = false) → ∀ r, r = downF l kv i x →
    r.1.length = l.length ∧ (∀ y, l[i]? = some y → (x :: l).Perm (y :: r.1)) ∧ ordered r.1 := by
  intro m
  induction m using Nat.strongRecOn with
  | _ m ih =>
    intro i l kv hm hi ho ha r hr
    unfold downF at hr
    by_cases hc : lesser l i < l.length ∧ ahead (gt l (lesser l i)) x = true
    · rw [dif_pos hc] at hr
      have hgt := lesser_gt l i
      have hle : lesser l i = 2 * i + 1 ∨ lesser l i = 2 * i + 2 := by unfold lesser; split <;> omega
      have hpar : (lesser l i - 1) / 2 = i := by omega
      have ho2 : ordEx (l.set i (gt l (lesser l i))) (lesser l i) := by
        intro j h0 h1 h2
        simp only [List.length_set] at h1
        rw [gt_set _ hi]
        constructor
        · intro h3
          rw [gt_set _ hi]
          by_cases hj : j = i
          · subst hj
            have : ¬ (j - 1) / 2 = j := by omega
            simp only [if_true, if_neg this]
            exact (ho (lesser l j) (by omega) hc.1 (by omega)).2 hpar h0
          · simp only [if_neg hj]
            by_cases hq : (j - 1) / 2 = i
            · simp only [if_pos hq]; exact (lesser_is l i j h0 h1 hq hj).2
            · simp only [if_neg hq]; exact (ho j h0 h1 hj).1 hq
        · intro h3 h4
          rw [gt_set _ hi]
          have hj : ¬ j = i := by omega
          simp only [if_neg hj, hpar, if_true]
          have := (ho j h0 h1 hj).1 (by omega)
          rw [h3] at this; exact this
      have ha2 : 0 < lesser l i → ahead x (gt (l.set i (gt l (lesser l i))) ((lesser l i - 1) / 2)) = false := fun _ => by
        rw [hpar, gt_set _ hi]; simp only [if_true]; exact ahead_asym hc.2
      obtain ⟨a1, a3, a5⟩ := ih (l.length - lesser l i) (by omega) (lesser l i) (l.set i (gt l (lesser l i))) (aset kv (gt l (lesser l i)).id i) (by simp) (by simp; exact hc.1) ho2 ha2 r hr
      refine ⟨by simpa using a1, fun y hy => ?_, a5⟩
      have h1 := a3 (gt l (lesser l i)) (by rw [List.getElem?_set_ne (by omega)]; exact gt_get hc.1)
      have h2 := set_perm (gt l (lesser l i)) hy
      have h3 : ((gt l (lesser l i)) :: x :: l).Perm (gt l (lesser l i) :: y :: r.1) := by
        have e1 : ((gt l (lesser l i)) :: x :: l).Perm (x :: (gt l (lesser l i) :: l)) := List.Perm.swap _ _ _
        have e2 : (x :: (gt l (lesser l i) :: l)).Perm (x :: (y :: l.set i (gt l (lesser l i)))) := h2.cons x
        have e3 : (x :: (y :: l.set i (gt l (lesser l i)))).Perm (y :: (x :: l.set i (gt l (lesser l i)))) := List.Perm.swap _ _ _
        have e4 : (y :: (x :: l.set i (gt l (lesser l i)))).Perm (y :: (gt l (lesser l i) :: r.1)) := h1.cons y
        have e5 : (y :: (gt l (lesser l i) :: r.1)).Perm (gt l (lesser l i) :: (y :: r.1)) := List.Perm.swap _ _ _
        exact e1.trans (e2.trans (e3.trans (e4.trans e5)))
      exact h3.cons_inv
    · rw [dif_neg hc] at hr
      subst hr
      refine ⟨by simp, fun y hy => set_perm x hy, ordered_of hi ho ?_ ha⟩
      intro j h0 h1 h2 h3
      obtain ⟨h4, h5⟩ := lesser_is l i j h0 h1 h2 h3
      have h6 : ahead (gt l (lesser l i)) x = false := by
        cases h : ahead (gt l (lesser l i)) x with
        | false => rfl
        | true => exact absurd ⟨h4, h⟩ hc
      exact na_trans h5 h6
theorem fixF_spec {l : List GThing} {kv : List (Int × Int)} {i : Nat} {x : GThing} (hi : i < l.length) (ho : ordEx l i) : (fixF l kv i x).1.length = l.length ∧ (∀ y, l[i]? = some y → (x :: l).Perm (y :: (fixF l kv i x).1)) ∧ ordered (fixF l kv i x).1 := by
  obtain ⟨a1, a2, a3, a4, a5, a6⟩ := upF_spec x i l kv hi ho _ rfl
  unfold fixF
  by_cases he : (upF l kv i x).2.2 = i
  · rw [if_pos he]
    obtain ⟨b1, b2⟩ := a4 he
    rw [b1]
    have ho2 : ordEx (l.set i x) i := by
      intro j h0 h1 h2
      simp only [List.length_set] at h1
      rw [gt_set _ hi]
      simp only [if_neg h2]
      constructor
      · intro h3; rw [gt_set _ hi, if_neg h3]; exact (ho j h0 h1 h2).1 h3
      · intro h3 h4
        rw [gt_set _ hi, if_neg (by omega)]; exact (ho j h0 h1 h2).2 h3 h4
    obtain ⟨c1, c2, c3⟩ := downF_spec x _ i (l.set i x) (upF l kv i x).2.1 rfl (by simpa using hi) ho2 (fun h0 => by rw [gt_set _ hi, if_neg (by omega)]; exact b2 h0) _ rfl
    refine ⟨by simpa using c1, fun y hy => ?_, c3⟩
    have h1 := c2 x (by rw [List.getElem?_set_self hi])
    have h2 := set_perm x hy
    exact h2.trans ((h1.cons_inv).cons y)
  · rw [if_neg he]
    exact ⟨a1, a3, a5 (.inl he)⟩
/-- the first one is ahead of all -/
theorem ordered_first {l : List GThing} (h : ordered l) : ∀ j, j < l.length → ahead (gt l j) (gt l 0) = false := by
  intro j
  induction j using Nat.strongRecOn with
  | _ j ih =>
    intro hj
    by_cases h0 : j = 0
    · subst h0; exact ahead_irr _
    · exact na_trans (h j (by omega) hj) (ih ((j - 1) / 2) (by omega) (by omega))
end Go.Proofs.Ytlkmcdijioiddaa
