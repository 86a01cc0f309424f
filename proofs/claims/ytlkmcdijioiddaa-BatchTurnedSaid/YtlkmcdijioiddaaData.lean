/- Lists in memory, in the words of the walk: those that stay, and those of one's own. Not a proof of any statement by itself. -/
import Derived.Test.YtlkmcdijioiddaaOps
namespace Go.Proofs.Ytlkmcdijioiddaa
open Go.RowKit
set_option linter.unusedVariables false
set_option linter.unusedSimpArgs false

def big : Nat := 17592186044416
theorem big_is : big = 17592186044416 := rfl
def MLe (M M' : MH) : Prop := ∀ k o, M k = some o → M' k = some o
/-- a kind of things that lie in a list: how many cells each one takes, which, and what must stay beside it -/
structure Ty (α : Type) where
  size : Nat
  enc : α → List Value
  ok : MH → α → Prop
  len : ∀ x, (enc x).length = size
  one : ∀ x, ∀ v ∈ enc x, v.oneCell' = true
  mono : ∀ M M' x, MLe M M' → ok M x → ok M' x
structure Sl (α : Type) where
  A : Option Addr
  c : Nat
  xs : List α
def Sl.val {α : Type} (s : Sl α) : Value := .slice s.A s.xs.length s.c
def Sl.a0 {α : Type} (s : Sl α) : Addr := s.A.getD ⟨0, 0, none⟩
def Sl.nil {α : Type} : Sl α := ⟨none, 0, []⟩
/-- the cells of a list, one behind the other -/
def flat {α : Type} (T : Ty α) : List α → List Value
  | [] => []
  | x :: r => T.enc x ++ flat T r
theorem flat_length {α : Type} (T : Ty α) : ∀ l : List α, (flat T l).length = l.length * T.size
  | [] => by simp [flat]
  | x :: r => by simp [flat, flat_length T r, T.len x, Nat.add_mul]; omega
theorem flat_append {α : Type} (T : Ty α) : ∀ l m : List α, flat T (l ++ m) = flat T l ++ flat T m
  | [], m => rfl
  | x :: r, m => by simp [flat, flat_append T r m]
theorem flat_get {α : Type} (T : Ty α) : ∀ (l : List α) (i j : Nat) (x : α) (v : Value), l[i]? = some x → (T.enc x)[j]? = some v → (flat T l)[i * T.size + j]? = some v
  | [], i, j, x, v, h, _ => by simp at h
  | y :: r, 0, j, x, v, h, hv => by
    simp only [List.getElem?_cons_zero, Option.some.injEq] at h
    subst h
    simp only [flat, Nat.zero_mul, Nat.zero_add]
    have : j < (T.enc y).length := by
      rcases Nat.lt_or_ge j (T.enc y).length with h | h
      · exact h
      · rw [List.getElem?_eq_none h] at hv; cases hv
    rw [List.getElem?_append_left this]; exact hv
  | y :: r, i + 1, j, x, v, h, hv => by
    simp only [List.getElem?_cons_succ] at h
    have ih := flat_get T r i j x v h hv
    simp only [flat]
    rw [List.getElem?_append_right (by rw [T.len]; simp [Nat.add_mul]; omega), T.len]
    rw [show (i + 1) * T.size + j - T.size = i * T.size + j by simp [Nat.add_mul]; omega]
    exact ih
theorem flat_one {α : Type} (T : Ty α) : ∀ (l : List α), ∀ v ∈ flat T l, v.oneCell' = true
  | [], v, h => by cases h
  | x :: r, v, h => by
    simp only [flat, List.mem_append] at h
    rcases h with h | h
    · exact T.one x v h
    · exact flat_one T r v h

/-- a list that stays as it is -/
def Rd {α : Type} (T : Ty α) (s : Sl α) (M : MH) : Prop :=
  s.xs.length ≤ s.c ∧ s.xs.length ≤ big ∧ (∀ x ∈ s.xs, T.ok M x) ∧
  (s.xs = [] ∨ ∃ a cs e fr, s.A = some a ∧ a.spot = none ∧ M a.block = some (.cells cs e fr) ∧ ∀ j v, (flat T s.xs)[j]? = some v → cs[a.off + j]? = some v)
theorem Rd.mono {α : Type} {T : Ty α} {s : Sl α} {M M' : MH} (h : Rd T s M) (m : MLe M M') : Rd T s M' := by
  obtain ⟨h1, h2, h3, h4⟩ := h
  refine ⟨h1, h2, fun x hx => T.mono M M' x m (h3 x hx), ?_⟩
  rcases h4 with h4 | ⟨a, cs, e, fr, a1, a2, a3, a4⟩
  · exact .inl h4
  · exact .inr ⟨a, cs, e, fr, a1, a2, m _ _ a3, a4⟩
/-- a list of one's own: nobody else knows its block -/
def Own {α : Type} (T : Ty α) (e : TypeId) (s : Sl α) : HP := fun h =>
  s.xs.length ≤ s.c ∧ s.c ≤ 9223372036854775807 ∧ s.xs.length ≤ big ∧ (∀ x ∈ s.xs, T.ok (imm h) x) ∧
  ((s.A = none ∧ s.c = 0) ∨ ∃ g cs, s.A = some ⟨g, 0, none⟩ ∧ h g = some (.cells cs e (0, 0), false) ∧ cs.size = s.c * T.size ∧ cs.toList.take (s.xs.length * T.size) = flat T s.xs)

theorem MLe.of_sub {h h' : PH} (s : PHsub h h') : MLe (imm h) (imm h') := fun k o hk => by
  have := s _ _ (imm_some hk)
  unfold imm; rw [this]

section data
variable {P : Program} {n : Nat} {fs : Fs} {E : Env} {L : List HP} {α : Type} {T : Ty α}

/-- a nil list of one's own -/
theorem sats.own_nil {w : World} (hs : sats E w L) (T : Ty α) (e : TypeId) : sats E w (Own T e (Sl.nil : Sl α) :: L) :=
  (hs.pure_put (p := True) trivial).imp fun h _ => by
    refine ⟨Nat.le_refl _, by show 0 ≤ _; omega, by show 0 ≤ _; omega, ?_, Or.inl ⟨rfl, rfl⟩⟩
    intro x hx; cases hx
/-- nobody writes it any more -/
theorem sats.own_rd {w : World} {e : TypeId} {s : Sl α} (hs : sats E w (Own T e s :: L)) : sats E w (per (Rd T s) :: L) := by
  obtain ⟨en, hs', x⟩ := hs
  obtain ⟨h, t, rfl, a, sb, c, x⟩ := satsL_cons x
  obtain ⟨h1, h2, h3, h4, h5⟩ := a
  rcases h5 with ⟨h6, h7⟩ | ⟨g, cs, h6, h7, h8, h9⟩
  · refine ⟨en, h :: t, ⟨h1, h3, h4, .inl ?_⟩, sb, c, x⟩
    exact List.eq_nil_of_length_eq_zero (by omega)
  · -- the block is frozen
    refine ⟨en, (fun k => if k = g then some (.cells cs e (0, 0), true) else h k) :: t, ?_, ?_, ?_, x⟩
    · have hle : MLe (imm h) (imm (fun k => if k = g then some (.cells cs e (0, 0), true) else h k)) := fun k o hk => by
        have hk' := imm_some hk
        have hne : k ≠ g := fun e => by subst e; rw [h7] at hk'; cases hk'
        simp only [imm, if_neg hne, hk']
      refine ⟨h1, h3, fun y hy => T.mono _ _ y hle (h4 y hy), ?_⟩
      rcases hx : s.xs with _ | ⟨y, r⟩
      · exact .inl rfl
      · refine .inr ⟨⟨g, 0, none⟩, cs, e, (0, 0), h6, rfl, by simp [imm], fun j v hj => ?_⟩
        rw [← hx, ← h9, List.getElem?_take] at hj
        split at hj
        · simpa using hj
        · cases hj
    · intro k o b hk
      by_cases hkg : k = g
      · subst hkg; simp only [if_true, Option.some.injEq, Prod.mk.injEq] at hk
        rw [← hk.1]; exact sb _ _ _ h7
      · simp only [if_neg hkg] at hk; exact sb _ _ _ hk
    · intro q hq k o b o' b' hk hk'
      by_cases hkg : k = g
      · subst hkg
        have := c q hq _ _ _ _ _ h7 hk'
        exact absurd this.1 (by simp)
      · simp only [if_neg hkg] at hk; exact c q hq _ _ _ _ _ hk hk'
theorem sats.rd_get {w : World} {s : Sl α} (hs : sats E w (per (Rd T s) :: L)) : s.xs.length ≤ s.c ∧ s.xs.length ≤ big ∧ (s.xs ≠ [] → s.A = some s.a0 ∧ s.a0.spot = none) ∧ (∀ j v, (flat T s.xs)[j]? = some v → w.cell? (s.a0.add j) = some v) := by
  obtain ⟨M, ⟨h1, h2, h3, h4⟩, hM⟩ := hs.per_get
  refine ⟨h1, h2, fun hne => ?_, fun j v hj => ?_⟩
  · rcases h4 with h4 | ⟨a, cs, e, fr, a1, a2, a3, a4⟩
    · exact absurd h4 hne
    · simp [Sl.a0, a1, a2]
  · rcases h4 with h4 | ⟨a, cs, e, fr, a1, a2, a3, a4⟩
    · rw [h4] at hj; simp [flat] at hj
    · have h5 := hM _ _ a3
      have h6 := a4 j v hj
      have : s.a0 = a := by simp [Sl.a0, a1]
      rw [this]
      obtain ⟨ab, ao, as⟩ := a
      simp only at a2 h5 h6
      subst a2
      rw [add_at]
      simp [World.cell?, h5, h6]
theorem sats.own_get {w : World} {e : TypeId} {s : Sl α} (hs : sats E w (Own T e s :: L)) : s.xs.length ≤ s.c ∧ s.xs.length ≤ big ∧ (s.xs ≠ [] → s.A = some s.a0 ∧ s.a0.spot = none) ∧ (∀ j v, (flat T s.xs)[j]? = some v → w.cell? (s.a0.add j) = some v) := hs.own_rd.rd_get
theorem sats.rd_ok {w : World} {s : Sl α} {x : α} (hs : sats E w (per (Rd T s) :: L)) (hx : x ∈ s.xs) : sats E w (per (fun M => T.ok M x) :: L) := hs.per_imp fun M h => h.2.2.1 x hx
theorem sats.own_ok {w : World} {e : TypeId} {s : Sl α} {x : α} (hs : sats E w (Own T e s :: L)) (hx : x ∈ s.xs) : sats E w (per (fun M => T.ok M x) :: L) := hs.imp fun M h => h.2.2.2.1 x hx

theorem add_add {a : Addr} (h : a.spot = none) (j k : Nat) : (a.add j).add k = a.add (j + k) := by
  obtain ⟨b, o, s⟩ := a
  simp only at h; subst h
  rw [add_at, add_at, add_at, Nat.add_assoc]

/-! an element's place -/
theorem q_index {t e : TypeId} {x i : Operand} {A : Option Addr} {m c sz : Nat} {k : IntKind} {j : Int} (hu : P.underlying t = some (.slice e)) (hsz : (P.info? e).map (·.size) = some sz) (hx : ev fs x = some (.slice A m c)) (hi : ev fs i = some (.int k j)) (h0 : 0 ≤ j) (h1 : j < m)
    (ad : Addr) (hA : ∀ w, sats E w L → A = some ad) : QEv P (.indexAddr t x i) n fs E L (.pointer (some (ad.add (j.toNat * sz)))) := fun a w o ho hf hs => by
  have hA' := hA w hs
  subst hA'
  unfold execOp; rw [ho]
  show ((Instr.indexAt t (a.eval x) (a.eval i)) >>= fun y => pure (Next.value y)).run P w = _
  rw [hf.ev hx, hf.ev hi]
  have : (Instr.indexAt t (.slice (some ad) m c) (.int k j)).run P w = .ok (.pointer (some (ad.add (j.toNat * sz)))) w := by
    obtain ⟨info, hi1, hi2⟩ : ∃ info, P.info? e = some info ∧ info.size = sz := by
      cases h : P.info? e with
      | none => rw [h] at hsz; cases hsz
      | some info => rw [h] at hsz; exact ⟨info, rfl, by simpa using hsz⟩
    simp [Instr.indexAt, asIntOf, run_underlying hu, go_sem, h0, h1, sizeOf, typeInfo, hi1, hi2]
  rw [run_bind this]; rfl
theorem length_pos_of {j : Int} {xs : List α} (h0 : 0 ≤ j) (h1 : j < (xs.length : Int)) : xs ≠ [] := by
  intro e; subst e; simp at h1; omega
theorem q_indexR {t e : TypeId} {x i : Operand} {s : Sl α} {R : List HP} {k : IntKind} {j : Int} (hu : P.underlying t = some (.slice e)) (hsz : (P.info? e).map (·.size) = some T.size) (hx : ev fs x = some s.val) (hi : ev fs i = some (.int k j)) (hat : At (per (Rd T s)) L R) (h0 : 0 ≤ j) (h1 : j < s.xs.length) : QEv P (.indexAddr t x i) n fs E L (.pointer (some (s.a0.add (j.toNat * T.size)))) :=
  q_index hu hsz hx hi h0 h1 s.a0 fun w hs => ((hs.at hat).rd_get.2.2.1 (length_pos_of h0 h1)).1
theorem q_indexO {t e e' : TypeId} {x i : Operand} {s : Sl α} {R : List HP} {k : IntKind} {j : Int} (hu : P.underlying t = some (.slice e)) (hsz : (P.info? e).map (·.size) = some T.size) (hx : ev fs x = some s.val) (hi : ev fs i = some (.int k j)) (hat : At (Own T e' s) L R) (h0 : 0 ≤ j) (h1 : j < s.xs.length) : QEv P (.indexAddr t x i) n fs E L (.pointer (some (s.a0.add (j.toNat * T.size)))) :=
  q_index hu hsz hx hi h0 h1 s.a0 fun w hs => ((hs.at hat).own_get.2.2.1 (length_pos_of h0 h1)).1
/-! an element, or a part of it, is read -/
theorem cell_elem {w : World} {s : Sl α} {x : α} {i off : Nat} {v : Value} (h : ∀ j v, (flat T s.xs)[j]? = some v → w.cell? (s.a0.add j) = some v) (hx : s.xs[i]? = some x) (hv : (T.enc x)[off]? = some v) : w.cell? (s.a0.add (i * T.size + off)) = some v := h _ _ (flat_get T s.xs i off x v hx hv)
theorem ne_of_get {s : Sl α} {x : α} {i : Nat} (hx : s.xs[i]? = some x) : s.xs ≠ [] := by intro e; rw [e] at hx; simp at hx
theorem q_elemR {t : TypeId} {p : Operand} {s : Sl α} {x : α} {R : List HP} {i off : Nat} {v : Value} (h : ev fs p = some (.pointer (some ((s.a0.add (i * T.size)).add off)))) (ht : aggB P t = false) (hat : At (per (Rd T s)) L R) (hx : s.xs[i]? = some x) (hv : (T.enc x)[off]? = some v) : QEv P (.load t p) n fs E L v :=
  q_load h fun w hs => by
    have h1 := (hs.at hat).rd_get
    rw [add_add (h1.2.2.1 (ne_of_get hx)).2]
    exact loadVar_cell ht (cell_elem h1.2.2.2 hx hv)
theorem q_elemO {t e' : TypeId} {p : Operand} {s : Sl α} {x : α} {R : List HP} {i off : Nat} {v : Value} (h : ev fs p = some (.pointer (some ((s.a0.add (i * T.size)).add off)))) (ht : aggB P t = false) (hat : At (Own T e' s) L R) (hx : s.xs[i]? = some x) (hv : (T.enc x)[off]? = some v) : QEv P (.load t p) n fs E L v :=
  q_load h fun w hs => by
    have h1 := (hs.at hat).own_get
    rw [add_add (h1.2.2.1 (ne_of_get hx)).2]
    exact loadVar_cell ht (cell_elem h1.2.2.2 hx hv)
/-- a whole element, a struct -/
theorem agg_elem {w : World} {t : TypeId} {s : Sl α} {x : α} {i : Nat} (h1 : s.xs.length ≤ s.c ∧ s.xs.length ≤ big ∧ (s.xs ≠ [] → s.A = some s.a0 ∧ s.a0.spot = none) ∧ (∀ j v, (flat T s.xs)[j]? = some v → w.cell? (s.a0.add j) = some v)) (ht : aggSz P t T.size = true) (hx : s.xs[i]? = some x) : (loadVar t (s.a0.add (i * T.size))).run P w = .ok (.agg (T.enc x).toArray) w :=
  loadVar_agg (by rw [T.len]; exact ht) fun j v hj => by rw [add_add (h1.2.2.1 (ne_of_get hx)).2]; exact cell_elem h1.2.2.2 hx hj
theorem q_elemRA {t : TypeId} {p : Operand} {s : Sl α} {x : α} {R : List HP} {i : Nat} (h : ev fs p = some (.pointer (some (s.a0.add (i * T.size))))) (ht : aggSz P t T.size = true) (hat : At (per (Rd T s)) L R) (hx : s.xs[i]? = some x) : QEv P (.load t p) n fs E L (.agg (T.enc x).toArray) :=
  q_load h fun w hs => agg_elem (hs.at hat).rd_get ht hx
theorem q_elemOA {t e' : TypeId} {p : Operand} {s : Sl α} {x : α} {R : List HP} {i : Nat} (h : ev fs p = some (.pointer (some (s.a0.add (i * T.size))))) (ht : aggSz P t T.size = true) (hat : At (Own T e' s) L R) (hx : s.xs[i]? = some x) : QEv P (.load t p) n fs E L (.agg (T.enc x).toArray) :=
  q_load h fun w hs => agg_elem (hs.at hat).own_get ht hx
/-- a whole element of one cell -/
theorem one_elem {w : World} {t : TypeId} {s : Sl α} {x : α} {i : Nat} {v : Value} (h1 : s.xs.length ≤ s.c ∧ s.xs.length ≤ big ∧ (s.xs ≠ [] → s.A = some s.a0 ∧ s.a0.spot = none) ∧ (∀ j v, (flat T s.xs)[j]? = some v → w.cell? (s.a0.add j) = some v)) (ht : aggB P t = false) (hx : s.xs[i]? = some x) (hv : T.enc x = [v]) : (loadVar t (s.a0.add (i * T.size))).run P w = .ok v w :=
  loadVar_cell ht (by have := cell_elem h1.2.2.2 hx (off := 0) (v := v) (by rw [hv]; rfl); simpa using this)
theorem q_elemR1 {t : TypeId} {p : Operand} {s : Sl α} {x : α} {R : List HP} {i : Nat} {v : Value} (h : ev fs p = some (.pointer (some (s.a0.add (i * T.size))))) (ht : aggB P t = false) (hat : At (per (Rd T s)) L R) (hx : s.xs[i]? = some x) (hv : T.enc x = [v]) : QEv P (.load t p) n fs E L v :=
  q_load h fun w hs => one_elem (hs.at hat).rd_get ht hx hv
theorem q_elemO1 {t e' : TypeId} {p : Operand} {s : Sl α} {x : α} {R : List HP} {i : Nat} {v : Value} (h : ev fs p = some (.pointer (some (s.a0.add (i * T.size))))) (ht : aggB P t = false) (hat : At (Own T e' s) L R) (hx : s.xs[i]? = some x) (hv : T.enc x = [v]) : QEv P (.load t p) n fs E L v :=
  q_load h fun w hs => one_elem (hs.at hat).own_get ht hx hv
end data

/-! ### Kinds -/
def inI64 (x : Int) : Prop := -9223372036854775808 ≤ x ∧ x ≤ 9223372036854775807
def TInt : Ty Int where
  size := 1
  enc x := [.int .i64 x]
  ok _ x := inI64 x
  len _ := rfl
  one x v h := by simp at h; subst h; rfl
  mono _ _ _ _ h := h
def gi (l : List Int) (i : Int) : Int := l.getD i.toNat 0
theorem gi_get {l : List Int} {i : Int} (h0 : 0 ≤ i) (h1 : i < l.length) : l[i.toNat]? = some (gi l i) := by
  unfold gi
  rw [List.getD_eq_getElem?_getD, List.getElem?_eq_getElem (by omega)]; rfl
end Go.Proofs.Ytlkmcdijioiddaa
