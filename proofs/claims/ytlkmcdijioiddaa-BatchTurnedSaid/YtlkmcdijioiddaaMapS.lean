/- Maps from ints to lists of ints of one's own. Not a proof of any statement by itself. -/
import Derived.Test.YtlkmcdijioiddaaMore
namespace Go.Proofs.Ytlkmcdijioiddaa
open Go.RowKit
set_option linter.unusedVariables false
set_option linter.unusedSimpArgs false
def encS (l : List (Int × Sl Int)) : List (Int × Value) := l.map fun p => (p.1, p.2.val)
def mpS (r : Nat) (l : List (Int × Sl Int)) : HP := mp r (encS l)
def sget (l : List (Int × Sl Int)) (k : Int) : Sl Int := (aget l k).getD Sl.nil
def owns (e : TypeId) (l : List (Int × Sl Int)) : HP := stars (l.map fun p => Own TInt e p.2)
theorem aget_encS (k : Int) : ∀ l : List (Int × Sl Int), (aget (encS l) k).getD (.slice none 0 0) = (sget l k).val
  | [] => rfl
  | (j, v) :: l => by
    have ih := aget_encS k l
    show (if k = j then some v.val else aget (encS l) k).getD _ = Sl.val ((if k = j then some v else aget l k).getD Sl.nil)
    split
    · rfl
    · exact ih
theorem aset_encS (k : Int) (v : Sl Int) : ∀ l : List (Int × Sl Int), aset (encS l) k v.val = encS (aset l k v)
  | [] => rfl
  | (j, u) :: l => by
    have ih := aset_encS k v l
    show (if k = j then (j, v.val) :: encS l else (j, u.val) :: aset (encS l) k v.val) = encS (if k = j then (j, v) :: l else (j, u) :: aset l k v)
    rw [ih]; split <;> rfl
theorem sget_aset (l : List (Int × Sl Int)) (k : Int) (v : Sl Int) (j : Int) : sget (aset l k v) j = if j = k then v else sget l j := by
  unfold sget; rw [aget_aset]; split <;> rfl
section mapS
variable {P : Program} {n : Nat} {fs : Fs} {E : Env} {L : List HP} {C : Fs → List HP → Prop}
theorem q_lookupS {t kt et : TypeId} {x i : Operand} {r : Nat} {l : List (Int × Sl Int)} {R : List HP} {k : Int} (hu : P.underlying t = some (.map kt et)) (hk : P.underlying kt = some (.int .i64)) (hz : zeroIs P et (.slice none 0 0)) (hx : ev fs x = some (.map (some r))) (hi : ev fs i = some (.int .i64 k)) (hat : At (mpS r l) L R) :
    QEv P (.lookup t x i false) n fs E L (sget l k).val := by
  have := q_lookup (n := n) (E := E) (.slice none 0 0) hu hk hz hx hi (show At (mp r (encS l)) L R from hat)
  rw [aget_encS] at this; exact this
theorem lev_mapUpdateS {t kt et ty : TypeId} {x i y : Operand} {dst : Option Nat} {r : Nat} {l : List (Int × Sl Int)} {L' : List HP} {k : Int} {s : Sl Int} (hu : P.underlying t = some (.map kt et)) (hk : P.underlying kt = some (.int .i64)) (hx : ev fs x = some (.map (some r))) (hi : ev fs i = some (.int .i64 k)) (hy : ev fs y = some s.val) (hd : dst = none) (hup : Upd (mpS r l) (mpS r (aset l k s)) L L') (hC : C fs L') :
    LEv P (.mapUpdate t x i y) ty dst n fs E L C :=
  lev_mapUpdate (l := encS l) hu hk hx hi hy hd (by rw [aset_encS]; exact hup) hC
theorem lev_makeMapS {t ty : TypeId} {d : Nat} (hd : Nat.blt d n = true) (h : ∀ r, C ((d, .map (some r)) :: fs) (mpS r [] :: L)) : LEv P (.makeMap t none) ty (some d) n fs E L C := lev_makeMap hd h
theorem sats.owns_open {w : World} {e : TypeId} (k : Int) : ∀ {l : List (Int × Sl Int)} {R : List HP}, sats E w (owns e l :: R) → sats E w (Own TInt e (sget l k) :: owns e (adel l k) :: R)
  | [], R, hs => hs.own_nil TInt e
  | (j, s) :: l, R, hs => by
    have h1 : sats E w (Own TInt e s :: owns e l :: R) := hs.star_get
    by_cases hk : k = j
    · have e1 : sget ((j, s) :: l) k = s := by simp [sget, aget, hk]
      have e2 : adel ((j, s) :: l) k = l := by simp [adel, hk]
      rw [e1, e2]; exact h1
    · have e1 : sget ((j, s) :: l) k = sget l k := by simp [sget, aget, hk]
      have e2 : adel ((j, s) :: l) k = (j, s) :: adel l k := by simp [adel, hk]
      rw [e1, e2]
      have h2 : sats E w (owns e l :: Own TInt e s :: R) := h1.perm (List.Perm.swap _ _ _)
      have h3 := sats.owns_open k h2
      have h4 : sats E w (Own TInt e s :: owns e (adel l k) :: Own TInt e (sget l k) :: R) := h3.perm (((List.Perm.swap _ _ _).cons _).trans ((List.Perm.swap _ _ _).trans ((List.Perm.swap _ _ _).cons _)))
      have h5 : sats E w (owns e ((j, s) :: adel l k) :: Own TInt e (sget l k) :: R) := h4.star_put
      exact h5.perm (List.Perm.swap _ _ _)
theorem sats.owns_close {w : World} {e : TypeId} (k : Int) (s' : Sl Int) : ∀ {l : List (Int × Sl Int)} {R : List HP}, sats E w (Own TInt e s' :: owns e (adel l k) :: R) → sats E w (owns e (aset l k s') :: R)
  | [], R, hs => by
    have h1 : sats E w (Own TInt e s' :: stars [] :: R) := hs
    exact h1.star_put
  | (j, s) :: l, R, hs => by
    by_cases hk : k = j
    · have e1 : aset ((j, s) :: l) k s' = (j, s') :: l := by simp [aset, hk]
      have e2 : adel ((j, s) :: l) k = l := by simp [adel, hk]
      rw [e2] at hs; rw [e1]
      exact hs.star_put
    · have e1 : aset ((j, s) :: l) k s' = (j, s) :: aset l k s' := by simp [aset, hk]
      have e2 : adel ((j, s) :: l) k = (j, s) :: adel l k := by simp [adel, hk]
      rw [e2] at hs; rw [e1]
      have h1 : sats E w (owns e ((j, s) :: adel l k) :: Own TInt e s' :: R) := hs.perm (List.Perm.swap _ _ _)
      have h2 : sats E w (Own TInt e s :: owns e (adel l k) :: Own TInt e s' :: R) := h1.star_get
      have h3 : sats E w (Own TInt e s' :: owns e (adel l k) :: Own TInt e s :: R) := h2.perm ((List.Perm.swap _ _ _).trans (((List.Perm.swap _ _ _).cons _).trans (List.Perm.swap _ _ _)))
      have h4 := sats.owns_close k s' h3
      have h5 : sats E w (Own TInt e s :: owns e (aset l k s') :: R) := h4.perm (List.Perm.swap _ _ _)
      exact h5.star_put
theorem ent_ownsO {e : TypeId} {l : List (Int × Sl Int)} {R : List HP} (k : Int) (hat : At (owns e l) L R) : Ent E L (Own TInt e (sget l k) :: owns e (adel l k) :: R) := fun w hs => (hs.at hat).owns_open k
theorem ent_ownsC {e : TypeId} {l : List (Int × Sl Int)} {R R' : List HP} (k : Int) (s' : Sl Int) (hat : At (Own TInt e s') L R) (hat2 : At (owns e (adel l k)) R R') : Ent E L (owns e (aset l k s') :: R') := fun w hs => by
  have h1 : sats E w (Own TInt e s' :: owns e (adel l k) :: R') := (hs.at hat).perm (hat2.perm.cons _)
  exact h1.owns_close k s'
/-- all of the lists stay as they are from now on -/
def rdS (l : List (Int × Sl Int)) (M : MH) : Prop := ∀ p ∈ l, Rd TInt p.2 M
theorem rdS.mono {l : List (Int × Sl Int)} {M M' : MH} (h : rdS l M) (m : MLe M M') : rdS l M' := fun p hp => (h p hp).mono m
theorem sats.owns_rd {w : World} {e : TypeId} : ∀ {l : List (Int × Sl Int)} {R : List HP}, sats E w (owns e l :: R) → sats E w (per (rdS l) :: R)
  | [], R, hs => hs.drop.per_put fun M p hp => by cases hp
  | (j, s) :: l, R, hs => by
    have h1 : sats E w (Own TInt e s :: owns e l :: R) := hs.star_get
    have h2 : sats E w (per (Rd TInt s) :: owns e l :: R) := h1.own_rd
    have h3 := (h2.perm (List.Perm.swap _ _ _)).owns_rd
    have h4 : sats E w (per (Rd TInt s) :: per (rdS l) :: R) := h3.perm (List.Perm.swap _ _ _)
    refine (h4.per_and (fun M M' m h => h.mono m) (fun M M' m h => h.mono m)).per_imp fun M h p hp => ?_
    rcases List.mem_cons.1 hp with rfl | hp
    · exact h.1
    · exact h.2 p hp
theorem ent_ownsR {e : TypeId} {l : List (Int × Sl Int)} {R : List HP} (hat : At (owns e l) L R) : Ent E L (per (rdS l) :: R) := fun w hs => (hs.at hat).owns_rd
theorem rd_nil (M : MH) : Rd TInt (Sl.nil : Sl Int) M := by
  refine ⟨Nat.le_refl _, Nat.zero_le _, ?_, Or.inl rfl⟩
  intro x hx; cases hx
theorem rdS.get {l : List (Int × Sl Int)} {M : MH} (h : rdS l M) (k : Int) : Rd TInt (sget l k) M := by
  unfold sget
  cases hk : aget l k with
  | none => exact rd_nil M
  | some s => exact h _ (aget_mem hk)
theorem ent_rdS {l : List (Int × Sl Int)} {R : List HP} (k : Int) (hat : At (per (rdS l)) L R) : Ent E L (per (Rd TInt (sget l k)) :: L) := ent_per (.here hat fun M h => h.get k)
end mapS
end Go.Proofs.Ytlkmcdijioiddaa
