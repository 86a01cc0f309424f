/- Shifts and conversions between kinds of numbers. Not a proof of any statement by itself. -/
import Derived.Test.YtlkmcdijioiddaaMore
namespace Go.Proofs.Ytlkmcdijioiddaa
open Go.RowKit
set_option linter.unusedVariables false
set_option linter.unusedSimpArgs false
section shift
variable {P : Program} {n : Nat} {fs : Fs} {E : Env} {L : List HP}
theorem q_convert {t t' : TypeId} {x : Operand} {k : IntKind} {a : Int} (k' : IntKind) (h1 : P.underlying t = some (.int k)) (h2 : P.underlying t' = some (.int k')) (hx : ev fs x = some (.int k a)) (hw : k'.wrap a = a) : QEv P (.convert t t' x) n fs E L (.int k' a) := fun ac w o ho hf hs => by
  unfold execOp; rw [ho]
  show ((convert t t' (ac.eval x)) >>= fun y => pure (Next.value y)).run P w = _
  rw [hf.ev hx]
  have : (convert t t' (.int k a)).run P w = .ok (.int k' a) w := by
    unfold convert
    rw [run_bind (run_underlying h1 w), run_bind (run_underlying h2 w)]
    show Result.ok (Value.int k' (k'.wrap a)) w = _
    rw [hw]
  rw [run_bind this]; rfl
theorem wrapU_in {a : Int} (h0 : 0 ≤ a) (h1 : a ≤ 18446744073709551615) : IntKind.u64.wrap a = a := by
  unfold IntKind.wrap; simp [IntKind.bits, IntKind.signed]; omega
theorem q_shr {t t' : TypeId} {x y : Operand} {k k' : IntKind} {a b : Int} (hx : ev fs x = some (.int k a)) (hy : ev fs y = some (.int k' b)) (h0 : 0 ≤ b) : QEv P (.binOp .shr t x y t') n fs E L (.int k (a.fdiv (2 ^ (min b.toNat k.bits)))) :=
  q_bin hx hy (fun _ => eqGuard_int) fun w _ => by
    have hb : ¬ b < 0 := by omega
    unfold binOp
    simp [Op.shift, go_sem, hb]
theorem q_addW {t t' : TypeId} {x y : Operand} {a b : Int} (hx : ev fs x = some (.int .i64 a)) (hy : ev fs y = some (.int .i64 b)) : QEv P (.binOp .add t x y t') n fs E L (.int .i64 (IntKind.i64.wrap (a + b))) :=
  q_bin hx hy (fun _ => eqGuard_int) fun w _ => rfl
theorem q_rem {t t' : TypeId} {x y : Operand} {a b : Int} (hx : ev fs x = some (.int .i64 a)) (hy : ev fs y = some (.int .i64 b)) (hr : 0 ≤ a ∧ 0 < b) : QEv P (.binOp .rem t x y t') n fs E L (.int .i64 (a % b)) :=
  q_bin hx hy (fun _ => eqGuard_int) fun w _ => by
    have hb : ¬ b = 0 := by omega
    unfold binOp
    simp [Op.intDiv, go_sem, hb, Int.tmod_eq_emod_of_nonneg hr.1]
theorem q_shr1 {t t' : TypeId} {x y : Operand} {k' : IntKind} {a : Int} (hx : ev fs x = some (.int .u64 a)) (hy : ev fs y = some (.int k' 1)) : QEv P (.binOp .shr t x y t') n fs E L (.int .u64 (a / 2)) := by
  have h := q_shr (P := P) (n := n) (E := E) (L := L) (t := t) (t' := t') hx hy (by omega)
  have e : a.fdiv (2 ^ (min (1 : Int).toNat IntKind.u64.bits)) = a / 2 := by
    rw [show min (1 : Int).toNat IntKind.u64.bits = 1 from rfl]
    rw [Int.fdiv_eq_ediv_of_nonneg _ (by decide)]; rfl
  rw [e] at h; exact h
theorem wc_rdNil {α : Type} {T : Ty α} {Q : Exit → Act → World → Prop} {s : Sl α} {R : List HP} {c : Code} (hat : At (per (Rd T s)) L R) (h : (s.A = none → s.xs = []) → WC P Q c n fs E L) : WC P Q c n fs E L := fun a w hf hs =>
  h (fun hA => Classical.byContradiction fun hne => by have := ((hs.at hat).rd_get.2.2.1 hne).1; rw [hA] at this; cases this) a w hf hs
theorem wc_ownNil {α : Type} {T : Ty α} {e : TypeId} {Q : Exit → Act → World → Prop} {s : Sl α} {R : List HP} {c : Code} (hat : At (Own T e s) L R) (h : (s.A = none → s.xs = []) → WC P Q c n fs E L) : WC P Q c n fs E L := fun a w hf hs =>
  h (fun hA => Classical.byContradiction fun hne => by have := ((hs.at hat).own_get.2.2.1 hne).1; rw [hA] at this; cases this) a w hf hs
theorem wc_star {Q : Exit → Act → World → Prop} {A B : HP} {R : List HP} {c : Code} (hat : At (star A B) L R) (h : WC P Q c n fs E (A :: B :: R)) : WC P Q c n fs E L := fun a w hf hs => h a w hf (hs.at hat).star_get
theorem ent_star {A B : HP} {R R' : List HP} (hat : At A L R) (hat2 : At B R R') : Ent E L (star A B :: R') := fun w hs => (((hs.at hat).perm (hat2.perm.cons _))).star_put
theorem ent_unstar {A B : HP} {R : List HP} (hat : At (star A B) L R) : Ent E L (A :: B :: R) := fun w hs => (hs.at hat).star_get
section two
variable {α : Type} {T : Ty α}
theorem q_elemR2 {t : TypeId} {p : Operand} {s : Sl α} {x : α} {R : List HP} {i o1 o2 : Nat} {v : Value} (h : ev fs p = some (.pointer (some (((s.a0.add (i * T.size)).add o1).add o2)))) (ht : aggB P t = false) (hat : At (per (Rd T s)) L R) (hx : s.xs[i]? = some x) (hv : (T.enc x)[o1 + o2]? = some v) : QEv P (.load t p) n fs E L v :=
  q_load h fun w hs => by
    have h1 := (hs.at hat).rd_get
    have hsp := (h1.2.2.1 (ne_of_get hx)).2
    rw [add_add hsp, add_add hsp, Nat.add_assoc]
    exact loadVar_cell ht (cell_elem h1.2.2.2 hx hv)
theorem q_elemO2 {t e' : TypeId} {p : Operand} {s : Sl α} {x : α} {R : List HP} {i o1 o2 : Nat} {v : Value} (h : ev fs p = some (.pointer (some (((s.a0.add (i * T.size)).add o1).add o2)))) (ht : aggB P t = false) (hat : At (Own T e' s) L R) (hx : s.xs[i]? = some x) (hv : (T.enc x)[o1 + o2]? = some v) : QEv P (.load t p) n fs E L v :=
  q_load h fun w hs => by
    have h1 := (hs.at hat).own_get
    have hsp := (h1.2.2.1 (ne_of_get hx)).2
    rw [add_add hsp, add_add hsp, Nat.add_assoc]
    exact loadVar_cell ht (cell_elem h1.2.2.2 hx hv)
theorem rd_nilT (T : Ty α) (M : MH) : Rd T (Sl.nil : Sl α) M := by
  refine ⟨Nat.le_refl _, Nat.zero_le _, ?_, Or.inl rfl⟩
  intro x hx; cases hx
theorem ent_rdNil (T : Ty α) : Ent E L (per (Rd T (Sl.nil : Sl α)) :: L) := ent_per (.pure fun M => rd_nilT T M)
/-- a literal whose things need that something stays -/
theorem ent_litRP {b m : Nat} {l : List Value} {e : TypeId} {R : List HP} (ys : List α) (hat : At (cb b l e) L R) (hl : l = flat T ys) (hm : ys.length = m) (hb : m ≤ big) (hok : PerOf R (fun M => ∀ y ∈ ys, T.ok M y)) : Ent E L (per (Rd T ⟨some ⟨b, 0, none⟩, m, ys⟩) :: R) := fun w hs => by
  have h1 : sats E w (blk b (.cells l.toArray e (0, 0)) :: R) := hs.at hat
  have h2 := h1.freeze
  have h3 : sats E w (R ++ [per (fun M => M b = some (.cells l.toArray e (0, 0)))]) := h2.perm (List.perm_append_comm (l₁ := [_]) (l₂ := R))
  have h4 := hok.put h3
  have h5 : sats E w (per (fun M => M b = some (.cells l.toArray e (0, 0))) :: per (fun M => ∀ y ∈ ys, T.ok M y) :: R) := by
    refine h4.perm ?_
    have p1 : (R ++ [per (fun M => M b = some (.cells l.toArray e (0, 0)))]).Perm (per (fun M => M b = some (.cells l.toArray e (0, 0))) :: R) := List.perm_append_comm (l₁ := R) (l₂ := [_])
    exact (p1.cons _).trans (.swap _ _ _)
  refine (h5.per_and (fun M M' m h => m _ _ h) (fun M M' m h y hy => T.mono M M' y m (h y hy))).per_imp fun M h => ?_
  refine ⟨by show ys.length ≤ m; omega, by show ys.length ≤ big; omega, h.2, .inr ⟨⟨b, 0, none⟩, l.toArray, e, (0, 0), rfl, rfl, h.1, fun j v hj => ?_⟩⟩
  rw [hl]; simpa using hj
end two
end shift
end Go.Proofs.Ytlkmcdijioiddaa
