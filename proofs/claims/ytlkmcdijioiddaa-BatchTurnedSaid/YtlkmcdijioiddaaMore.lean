/- More steps of the walk: division, a front part of a list of one's own, what lists of one's own hold. Not a proof of any statement by itself. -/
import Derived.Test.YtlkmcdijioiddaaMapI
namespace Go.Proofs.Ytlkmcdijioiddaa
open Go.RowKit
set_option linter.unusedVariables false
set_option linter.unusedSimpArgs false
section more
variable {P : Program} {ops : Array Oper} {Q : Exit → Act → World → Prop} {n : Nat} {fs : Fs} {E : Env} {L : List HP} {α : Type} {T : Ty α} {C : Fs → List HP → Prop}
theorem q_quo {t t' : TypeId} {x y : Operand} {a b : Int} (hx : ev fs x = some (.int .i64 a)) (hy : ev fs y = some (.int .i64 b)) (hr : -9223372036854775808 ≤ a ∧ a ≤ 9223372036854775807 ∧ 0 < b) : QEv P (.binOp .quo t x y t') n fs E L (.int .i64 (a.tdiv b)) :=
  q_bin hx hy (fun _ => eqGuard_int) fun w _ => by
    have hb : ¬ b = 0 := by omega
    have h1 : -9223372036854775808 ≤ a.tdiv b ∧ a.tdiv b ≤ 9223372036854775807 := by
      rcases Int.lt_or_le a 0 with h | h
      · have e : a.tdiv b = -((-a).tdiv b) := by rw [Int.neg_tdiv]; omega
        have h2 : 0 ≤ (-a).tdiv b := Int.tdiv_nonneg (by omega) (by omega)
        have h3 : (-a).tdiv b ≤ -a := by rw [Int.tdiv_eq_ediv_of_nonneg (by omega)]; exact Int.ediv_le_self _ (by omega)
        omega
      · have h2 : 0 ≤ a.tdiv b := Int.tdiv_nonneg (by omega) (by omega)
        have h3 : a.tdiv b ≤ a := by rw [Int.tdiv_eq_ediv_of_nonneg h]; exact Int.ediv_le_self _ h
        omega
    unfold binOp
    simp [Op.intDiv, go_sem, hb, wrap64_in h1.1 h1.2]
theorem half_of (i : Nat) : ((i : Int) - 1).tdiv 2 = (((i - 1) / 2 : Nat) : Int) := by
  rcases i with _ | i
  · decide
  · rw [show ((i + 1 : Nat) : Int) - 1 = (i : Int) by omega, Int.tdiv_eq_ediv_of_nonneg (by omega)]; omega
theorem q_half {t t' : TypeId} {x y : Operand} {i : Nat} (hx : ev fs x = some (.int .i64 ((i : Int) - 1))) (hy : ev fs y = some (.int .i64 2)) (hi : i ≤ big) : QEv P (.binOp .quo t x y t') n fs E L (.int .i64 (((i - 1) / 2 : Nat) : Int)) := by
  have := big_is
  rw [← half_of]; exact q_quo hx hy ⟨by omega, by omega, by omega⟩
/-! a front part of a list of one's own -/
theorem q_cutHO {t e e' : TypeId} {x y : Operand} {s : Sl α} {R : List HP} {j : Int} (hu : P.underlying t = some (.slice e)) (hsz : (P.info? e).map (·.size) = some T.size) (hx : ev fs x = some s.val) (hy : ev fs y = some (.int .i64 j)) (hat : At (Own T e' s) L R) (h0 : 0 ≤ j) (h1 : j ≤ s.xs.length) : QEv P (.slice t x none (some y) none) n fs E L (Sl.val ⟨s.A, s.c, s.xs.take j.toNat⟩) := by
  have h2 := q_cut (P := P) (n := n) (E := E) (L := L) (T := T) (lo := none) (mx := none) (l := 0) (h := j.toNat) hu hsz hx (.inl ⟨rfl, rfl⟩) (.inr ⟨y, rfl, by rw [hy]; congr; omega⟩) rfl (by omega) (by omega) fun w hs => (hs.at hat).own_get.1
  have e1 : (s.cut T 0 j.toNat).val = Sl.val ⟨s.A, s.c, s.xs.take j.toNat⟩ := by
    unfold Sl.cut Sl.val
    simp only [List.drop_zero, Nat.sub_zero, Nat.zero_mul]
    congr 1
    split
    · rfl
    · cases s.A with
      | none => rfl
      | some a => obtain ⟨b, o, sp⟩ := a; simp [Addr.add]
  rw [← e1]; exact h2
theorem own_take {e : TypeId} {s : Sl α} {R : List HP} {w : World} (hs : sats E w (Own T e s :: R)) (k : Nat) : sats E w (Own T e ⟨s.A, s.c, s.xs.take k⟩ :: R) := hs.imp fun h ⟨h1, h2, h3, h4, h5⟩ => by
  refine ⟨by simp; omega, h2, by simp; omega, fun x hx => h4 x (List.mem_of_mem_take hx), ?_⟩
  rcases h5 with h5 | ⟨g, cs, a1, a2, a3, a4⟩
  · exact .inl h5
  · refine .inr ⟨g, cs, a1, a2, a3, ?_⟩
    have e1 : flat T s.xs = flat T (s.xs.take k) ++ flat T (s.xs.drop k) := by rw [← flat_append, List.take_append_drop]
    have e2 : (flat T s.xs).take ((s.xs.take k).length * T.size) = flat T (s.xs.take k) := by
      rw [e1, List.take_append_of_le_length (by rw [flat_length]; exact Nat.le_refl _), List.take_of_length_le (by rw [flat_length]; exact Nat.le_refl _)]
    show cs.toList.take ((s.xs.take k).length * T.size) = flat T (s.xs.take k)
    rw [← e2, ← a4, List.take_take, Nat.min_eq_left]
    exact Nat.mul_le_mul_right _ (by simp; omega)
theorem upd_ent {A A' : HP} {L L' : List HP} (u : Upd A A' L L') (h : ∀ w R, sats E w (A :: R) → sats E w (A' :: R)) : Ent E L L' := fun w hs => by
  obtain ⟨R, p1, p2⟩ := u.perms
  exact (h w R (hs.perm p1)).perm p2.symm
/-! what lists of one's own hold -/
theorem own_all {e : TypeId} {s : Sl α} {R : List HP} {w : World} (hs : sats E w (Own T e s :: R)) : s.xs.length ≤ s.c ∧ s.xs.length ≤ big ∧ ∃ M, ∀ x ∈ s.xs, T.ok M x := by
  obtain ⟨en, hs', x⟩ := hs
  obtain ⟨h, t, rfl, ⟨h1, h2, h3, h4, h5⟩, sb, c, x⟩ := satsL_cons x
  exact ⟨h1, h3, _, h4⟩
theorem rd_all {s : Sl α} {R : List HP} {w : World} (hs : sats E w (per (Rd T s) :: R)) : s.xs.length ≤ s.c ∧ s.xs.length ≤ big ∧ ∃ M, ∀ x ∈ s.xs, T.ok M x := by
  obtain ⟨M, ⟨h1, h2, h3, h4⟩, hM⟩ := hs.per_get
  exact ⟨h1, h2, M, h3⟩
theorem wc_ownF {e : TypeId} {s : Sl α} {R : List HP} {c : Code} (hat : At (Own T e s) L R) (h : s.xs.length ≤ s.c → s.xs.length ≤ big → (∃ M, ∀ x ∈ s.xs, T.ok M x) → WC P Q c n fs E L) : WC P Q c n fs E L := fun a w hf hs => by
  obtain ⟨h1, h2, h3⟩ := own_all (hs.at hat)
  exact h h1 h2 h3 a w hf hs
theorem wc_rdF {s : Sl α} {R : List HP} {c : Code} (hat : At (per (Rd T s)) L R) (h : s.xs.length ≤ s.c → s.xs.length ≤ big → (∃ M, ∀ x ∈ s.xs, T.ok M x) → WC P Q c n fs E L) : WC P Q c n fs E L := fun a w hf hs => by
  obtain ⟨h1, h2, h3⟩ := rd_all (hs.at hat)
  exact h h1 h2 h3 a w hf hs
theorem wl_ownF {e : TypeId} {s : Sl α} {R : List HP} {l : List Oper} (hat : At (Own T e s) L R) (h : s.xs.length ≤ s.c → s.xs.length ≤ big → (∃ M, ∀ x ∈ s.xs, T.ok M x) → WL P ops Q l n fs E L) : WL P ops Q l n fs E L := fun a w hf hs => by
  obtain ⟨h1, h2, h3⟩ := own_all (hs.at hat)
  exact h h1 h2 h3 a w hf hs
theorem wl_rdF {s : Sl α} {R : List HP} {l : List Oper} (hat : At (per (Rd T s)) L R) (h : s.xs.length ≤ s.c → s.xs.length ≤ big → (∃ M, ∀ x ∈ s.xs, T.ok M x) → WL P ops Q l n fs E L) : WL P ops Q l n fs E L := fun a w hf hs => by
  obtain ⟨h1, h2, h3⟩ := rd_all (hs.at hat)
  exact h h1 h2 h3 a w hf hs
theorem wc_mpF {r : Nat} {l : List (Int × Int)} {R : List HP} {c : Code} (hat : At (mpI r l) L R) (h : (akeys l).Nodup → WC P Q c n fs E L) : WC P Q c n fs E L := fun a w hf hs => h (hs.at hat).mpI_nodup a w hf hs
theorem wc_re {c : Code} (d : Nat) (v : Value) (hv : lk fs d = some v) (h : WC P Q c n ((d, v) :: fs) E L) : WC P Q c n fs E L := fun a w hf hs =>
  h a w ⟨hf.size, hf.defers, fun t u e => by
    unfold lk at e
    by_cases hdt : Nat.beq d t = true
    · have := Nat.eq_of_beq_eq_true hdt
      simp only [hdt, cond_true, Option.some.injEq] at e
      subst this; subst e; exact hf.get d _ hv
    · have hb' : Nat.beq d t = false := by simpa only [Bool.not_eq_true] using hdt
      simp only [hb', cond_false] at e
      exact hf.get t u e⟩ hs
theorem wc_drawL {id : Nat} {ops : Array Oper} (Pr : List Nat) (hm : P.follows .mixedOrders = true) (h : WB P ops Q L Pr ops.size (Array.replicate ops.size false) n fs E L) : WC P Q (.region id ops true) n fs E L := wc_drawB L Pr hm h
end more
theorem Sl.val_eq {α : Type} {A : Option Addr} {c : Nat} {l l' : List α} (h : l'.length = l.length) : Sl.val ⟨A, c, l'⟩ = Sl.val ⟨A, c, l⟩ := by simp [Sl.val, h]
end Go.Proofs.Ytlkmcdijioiddaa
