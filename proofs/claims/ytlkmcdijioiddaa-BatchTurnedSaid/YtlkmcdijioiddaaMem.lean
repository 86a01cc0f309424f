/- Variables and structs of one's own, splits, jumps: more steps of the walk. Not a proof of any statement by itself. -/
import Derived.Test.YtlkmcdijioiddaaData
namespace Go.Proofs.Ytlkmcdijioiddaa
open Go.RowKit
set_option linter.unusedVariables false
set_option linter.unusedSimpArgs false

/-- a block of one's own whose cells are these -/
def cb (b : Nat) (l : List Value) (e : TypeId) : HP := blk b (.cells l.toArray e (0, 0))
theorem lk_bool {fs : Fs} {d : Nat} {b c : Bool} (h : lk fs d = some (.bool b)) (e : b = c) : lk fs d = some (.bool c) := by rw [h, e]
inductive GsOk (args : List Value) : Fs → Prop
  | nil : GsOk args []
  | cons {t : Nat} {v : Value} {r : Fs} (h : args[t]? = some v) (s : GsOk args r) : GsOk args ((t, v) :: r)
theorem gs_ok {args : List Value} {gs : Fs} (s : GsOk args gs) : ∀ t v, lk gs t = some v → args[t]? = some v := by
  induction s with
  | nil => intro t v h; cases h
  | cons h s ih =>
    rename_i t0 v0 r
    intro t v e
    unfold lk at e
    by_cases hb : Nat.beq t0 t = true
    · have := Nat.eq_of_beq_eq_true hb
      simp only [hb, cond_true, Option.some.injEq] at e
      subst this; subst e; exact h
    · have hb' : Nat.beq t0 t = false := by simpa only [Bool.not_eq_true] using hb
      simp only [hb', cond_false] at e
      exact ih t v e

section mem
variable {P : Program} {ops : Array Oper} {Q : Exit → Act → World → Prop} {n : Nat} {fs : Fs} {E : Env} {L : List HP} {α : Type} {T : Ty α} {C : Fs → List HP → Prop}

theorem wl_split {l : List Oper} (d : Nat) (b : Bool) (hv : lk fs d = some (.bool b)) (h1 : b = true → WL P ops Q l n fs E L) (h2 : b = false → WL P ops Q l n fs E L) : WL P ops Q l n fs E L := by
  cases b
  · exact h2 rfl
  · exact h1 rfl
theorem wlq_split {l : List Oper} (d : Nat) (b : Bool) (hv : lk fs d = some (.bool b)) (h1 : b = true → WLq P ops Q l n fs E L) (h2 : b = false → WLq P ops Q l n fs E L) : WLq P ops Q l n fs E L := by
  cases b
  · exact h2 rfl
  · exact h1 rfl
theorem q_pickB {c x y : Operand} {b u v : Bool} (hc : ev fs c = some (.bool b)) (hx : ev fs x = some (.bool u)) (hy : ev fs y = some (.bool v)) : QEv P (.pick c x y) n fs E L (.bool (bif b then u else v)) := by
  cases b
  · exact q_pick hc hy
  · exact q_pick hc hx

/-! jumps back -/
theorem wc_jumpsE {γ : Type} {c body : Code} (l : Nat) (hl : findLabel c l = some (.seq .skip body)) (I : γ → Prop) (F : γ → Fs) (H : γ → List HP) (μ : γ → Nat)
    (first : (∀ g, I g → WC P (Exit.jump l (Meet E n (fun g' => I g' ∧ μ g' < μ g) F H) Q) body n (F g) E (H g)) → WC P (Exit.jump l (Meet E n I F H) Q) c n fs E L)
    (round : ∀ g, I g → WC P (Exit.jump l (Meet E n (fun g' => I g' ∧ μ g' < μ g) F H) Q) body n (F g) E (H g)) : WC P Q (.scope c) n fs E L :=
  wc_jumps l hl I F H μ (first round) fun g hg => wc_seq (wc_skip (wq_then (round g hg)))
theorem wc_enter {γ : Type} {body : Code} {l : Nat} {I : γ → Prop} {F : γ → Fs} {H : γ → List HP} {μ : γ → Nat} (hr : ∀ g, I g → WC P (Exit.jump l (Meet E n (fun g' => I g' ∧ μ g' < μ g) F H) Q) body n (F g) E (H g))
    (g0 : γ) (h0 : I g0) (s0 : Sub fs (F g0)) (e0 : Ent E L (H g0)) : WC P (Exit.jump l (Meet E n I F H) Q) body n fs E L := fun a w hf hs => by
  refine Code.wp_mono ?_ (hr g0 h0 a w (hf.sub s0) (e0 w hs))
  intro e a' w' hq
  cases e with
  | goto l' => obtain ⟨hl', g', ⟨i1, i2⟩, i3, i4⟩ := hq; exact ⟨hl', g', i1, i3, i4⟩
  | normal => exact hq
  | exit id => exact hq
  | ret => exact hq
  | panic c => exact hq
  | outgrown => exact hq

/-! blocks of one's own -/
theorem cb_at {b : Nat} {l : List Value} {e : TypeId} {w : World} {R : List HP} (hat : At (cb b l e) L R) (hs : sats E w L) : w.heap[b]? = some (.cells l.toArray e (0, 0)) := (hs.at hat).blk_get
theorem cb_cell {b off : Nat} {l : List Value} {e : TypeId} {w : World} {R : List HP} {v : Value} (hat : At (cb b l e) L R) (hs : sats E w L) (hv : l[off]? = some v) : w.cell? ⟨b, off, none⟩ = some v := by
  simp [World.cell?, cb_at hat hs, hv]
theorem q_loadC {t : TypeId} {x : Operand} {b off : Nat} {l : List Value} {e : TypeId} {R : List HP} {v : Value} (h : ev fs x = some (.pointer (some ⟨b, off, none⟩))) (ht : aggB P t = false) (hat : At (cb b l e) L R) (hv : l[off]? = some v) : QEv P (.load t x) n fs E L v :=
  q_load h fun w hs => loadVar_cell ht (cb_cell hat hs hv)
/-- the whole block -/
theorem q_loadCA {t : TypeId} {x : Operand} {b : Nat} {l : List Value} {e : TypeId} {R : List HP} (h : ev fs x = some (.pointer (some ⟨b, 0, none⟩))) (hat : At (cb b l e) L R) (ht : aggSz P t l.length = true) : QEv P (.load t x) n fs E L (.agg l.toArray) :=
  q_load h fun w hs => loadVar_agg ht fun j v hj => by rw [add_at, Nat.zero_add]; exact cb_cell hat hs hj
/-- a struct within it -/
theorem q_loadCS {t : TypeId} {x : Operand} {b off m : Nat} {l : List Value} {e : TypeId} {R : List HP} (us : List Value) (h : ev fs x = some (.pointer (some ⟨b, off, none⟩))) (hat : At (cb b l e) L R) (hm : us.length = m) (hu : (l.drop off).take m = us) (ht : aggSz P t m = true) : QEv P (.load t x) n fs E L (.agg us.toArray) :=
  q_load h fun w hs => loadVar_agg (by rw [hm]; exact ht) fun j v hj => by
    rw [add_at]
    refine cb_cell hat hs ?_
    rw [← hu, List.getElem?_take] at hj
    split at hj
    · rw [List.getElem?_drop] at hj; exact hj
    · cases hj
def szB (P : Program) (t : TypeId) (m : Nat) : Bool := match P.info? t with
  | some i => Nat.beq i.size m
  | none => false
theorem szB_run {t : TypeId} {m : Nat} (h : szB P t m = true) (w : World) : (sizeOf t).run P w = .ok m w := by
  unfold szB at h
  split at h
  · rename_i i hi
    have := Nat.eq_of_beq_eq_true h
    simp [sizeOf, typeInfo, hi, go_sem, this]
  · cases h
theorem lev_storeG {t : TypeId} {x y : Operand} {dst : Option Nat} {ty : TypeId} {b off : Nat} {l us : List Value} {e : TypeId} {L' : List HP} {v : Value} (h : ev fs x = some (.pointer (some ⟨b, off, none⟩))) (hv : ev fs y = some v) (hcells : v.cells = us.toArray) (ht : szB P t us.length = true) (h1 : ∀ u ∈ us, u.oneCell' = true)
    (hd : dst = none) (hu : Upd (cb b l e) (cb b (l.take off ++ us ++ l.drop (off + us.length)) e) L L') (hl : off + us.length ≤ l.length) (hC : C fs L') : LEv P (.store t x y) ty dst n fs E L C := fun a w o ho hty hdst hf hs K Q hK => by
  obtain ⟨R, p1, p2⟩ := hu.perms
  have hs1 : sats E w (cb b l e :: R) := hs.perm p1
  obtain ⟨w', hr, hs2⟩ := storeCells_blk (P := P) us 0 off l.toArray w R hs1 (by simpa using hl) h1
  have hs3 : sats E w' L' := by
    refine sats.perm ?_ p2.symm
    simpa [cb] using hs2
  unfold Oper.wp
  have he : (execOp a.eval o).run P w = .ok .skip w' := by
    unfold execOp; rw [ho]
    show ((Instr.storeAt t (a.eval x) (a.eval y)) >>= fun _ => pure Next.skip).run P w = _
    rw [hf.ev h, hf.ev hv]
    have : (Instr.storeAt t (.pointer (some ⟨b, off, none⟩)) v).run P w = .ok () w' := by
      unfold Instr.storeAt Instr.sureAddr
      show (storeVar t ⟨b, off, none⟩ v).run P w = _
      unfold storeVar
      rw [run_bind (szB_run ht w), hcells]
      simp only [List.size_toArray, ne_eq, not_true, if_false]
      exact hr
    rw [run_bind this]; rfl
  rw [he]
  show K (a.put o.dst undef) w'
  rw [hdst, hd]
  exact hK _ _ hC _ _ hf hs3
theorem lev_store1 {t : TypeId} {x y : Operand} {dst : Option Nat} {ty : TypeId} {b off : Nat} {l : List Value} {e : TypeId} {L' : List HP} {v : Value} (h : ev fs x = some (.pointer (some ⟨b, off, none⟩))) (hv : ev fs y = some v) (hcells : v.cells = #[v]) (ht : szB P t 1 = true) (h1 : v.oneCell' = true)
    (hd : dst = none) (hu : Upd (cb b l e) (cb b (l.set off v) e) L L') (hl : Nat.blt off l.length = true) (hC : C fs L') : LEv P (.store t x y) ty dst n fs E L C := by
  have hl' : off < l.length := by simpa using hl
  have e1 : l.set off v = l.take off ++ [v] ++ l.drop (off + [v].length) := by
    rw [List.set_eq_take_append_cons_drop, if_pos hl']; simp
  rw [e1] at hu
  exact lev_storeG h hv (us := [v]) (by simpa using hcells) ht (by simpa using h1) hd hu (by simp; omega) hC
/-- a struct as a whole -/
theorem lev_storeA {t : TypeId} {x y : Operand} {dst : Option Nat} {ty : TypeId} {b : Nat} {l us : List Value} {e : TypeId} {L' : List HP} (h : ev fs x = some (.pointer (some ⟨b, 0, none⟩))) (hv : ev fs y = some (.agg us.toArray)) (hu : Upd (cb b l e) (cb b us e) L L') (hl : us.length = l.length) (ht : szB P t us.length = true) (h1 : ∀ u ∈ us, u.oneCell' = true)
    (hd : dst = none) (hC : C fs L') : LEv P (.store t x y) ty dst n fs E L C := by
  have e1 : us = List.take 0 l ++ us ++ List.drop (0 + us.length) l := by simp [hl]
  have hu' : Upd (cb b l e) (cb b (List.take 0 l ++ us ++ List.drop (0 + us.length) l) e) L L' := by rw [← e1]; exact hu
  exact lev_storeG h hv rfl ht h1 hd hu' (by omega) hC
theorem lev_box {x : Operand} {t ty : TypeId} {d : Nat} {v : Value} (us : List Value) (hv : ev fs x = some v) (hc : v.cells = us.toArray) (hd : Nat.blt d n = true) (h : ∀ b, C ((d, .pointer (some ⟨b, 0, none⟩)) :: fs) (cb b us t :: L)) : LEv P (.box t x) ty (some d) n fs E L C := fun a w o ho hty hdst hf hs K Q hK => by
  unfold Oper.wp
  have he : (execOp a.eval o).run P w = .ok (.value (.pointer (some ⟨w.heap.size, 0, none⟩))) (w.alloc (.cells us.toArray t)) := by
    unfold execOp; rw [ho]
    show ((Instr.box t (a.eval x)) >>= fun y => pure (Next.value y)).run P w = _
    rw [hf.ev hv]
    unfold Instr.box newVar newRow
    rw [hc]; rfl
  rw [he]
  show K (a.put o.dst _) _
  rw [hdst]
  exact hK _ _ (h w.heap.size) _ _ (hf.put hd _) (hs.alloc _)
theorem lev_alloc {t ty : TypeId} {d : Nat} (us : List Value) (z : Value) (hz : (P.info? t).bind (·.zero) = some z) (hc : z.cells = us.toArray) (hd : Nat.blt d n = true) (h : ∀ b, C ((d, .pointer (some ⟨b, 0, none⟩)) :: fs) (cb b us t :: L)) : LEv P (.alloc t) ty (some d) n fs E L C := fun a w o ho hty hdst hf hs K Q hK => by
  unfold Oper.wp
  have hz' : (zeroValue t).run P w = .ok z w := by
    cases hi : P.info? t with
    | none => rw [hi] at hz; cases hz
    | some i =>
      rw [hi] at hz
      have hz2 : i.zero = some z := hz
      unfold zeroValue
      have : (typeInfo t).run P w = .ok i w := by simp [typeInfo, hi, go_sem]
      rw [run_bind this]; simp only [hz2]; rfl
  have he : (execOp a.eval o).run P w = .ok (.value (.pointer (some ⟨w.heap.size, 0, none⟩))) (w.alloc (.cells us.toArray t)) := by
    unfold execOp; rw [ho]
    show ((Instr.alloc t true (.tuple #[])) >>= fun y => pure (Next.value y)).run P w = _
    unfold Instr.alloc
    have h2 : (newVar t z).run P w = .ok ⟨w.heap.size, 0, none⟩ (w.alloc (.cells us.toArray t)) := by
      unfold newVar newRow; rw [hc]; rfl
    have h3 : ((zeroValue t) >>= fun zero => ((newVar t zero) >>= fun ad => (pure (Value.pointer (some ad)) : Sem Value))).run P w = .ok (.pointer (some ⟨w.heap.size, 0, none⟩)) (w.alloc (.cells us.toArray t)) := by
      rw [run_bind hz', run_bind h2]; rfl
    exact run_bind h3
  rw [he]
  show K (a.put o.dst _) _
  rw [hdst]
  exact hK _ _ (h w.heap.size) _ _ (hf.put hd _) (hs.alloc _)
end mem
end Go.Proofs.Ytlkmcdijioiddaa
