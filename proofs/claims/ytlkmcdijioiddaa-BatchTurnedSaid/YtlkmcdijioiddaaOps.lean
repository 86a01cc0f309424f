/- What each operation of the model's code does, in the words of the walk. Not a proof of any statement by itself. -/
import Derived.Test.YtlkmcdijioiddaaWalk
namespace Go.Proofs.Ytlkmcdijioiddaa
open Go.RowKit
set_option linter.unusedVariables false
set_option linter.unusedSimpArgs false

section ops
variable {P : Program} {n : Nat} {fs : Fs} {E : Env} {L : List HP}

theorem q_of {op : Op} {v : Value} (f : (Operand → Value) → Sem Value)
    (hop : ∀ (ρ : Operand → Value) (o : Oper), o.op = op → execOp ρ o = (do pure (.value (← f ρ))))
    (h : ∀ a w, Frs n a fs → sats E w L → (f a.eval).run P w = .ok v w) : QEv P op n fs E L v := fun a w o ho hf hs => by
  rw [hop _ _ ho, run_bind (h a w hf hs)]; rfl
theorem q_move {x : Operand} {v : Value} (h : ev fs x = some v) : QEv P (.move x) n fs E L v := fun a w o ho hf hs => by
  unfold execOp; rw [ho]; show Result.ok (Next.value (a.eval x)) w = _; rw [hf.ev h]
theorem q_assign {x : Operand} {v : Value} (h : ev fs x = some v) : QEv P (.assign x) n fs E L v := fun a w o ho hf hs => by
  unfold execOp; rw [ho]; show Result.ok (Next.value (a.eval x)) w = _; rw [hf.ev h]
theorem q_pick {c x y : Operand} {b : Bool} {v : Value} (hc : ev fs c = some (.bool b)) (hv : (if b then ev fs x else ev fs y) = some v) : QEv P (.pick c x y) n fs E L v := fun a w o ho hf hs => by
  unfold execOp; rw [ho]
  simp only [hf.ev hc, asBool]
  cases b with
  | true => simp only [if_true] at hv; show Result.ok (Next.value (a.eval x)) w = _; rw [hf.ev hv]
  | false => simp only [Bool.false_eq_true, if_false] at hv; show Result.ok (Next.value (a.eval y)) w = _; rw [hf.ev hv]
theorem q_pickT {c x y : Operand} {b : Bool} {v : Value} (hc : ev fs c = some (.bool b)) (hb : b = true) (hv : ev fs x = some v) : QEv P (.pick c x y) n fs E L v := q_pick hc (by rw [if_pos hb]; exact hv)
theorem q_pickF {c x y : Operand} {b : Bool} {v : Value} (hc : ev fs c = some (.bool b)) (hb : b = false) (hv : ev fs y = some v) : QEv P (.pick c x y) n fs E L v := q_pick hc (by rw [if_neg (by rw [hb]; decide)]; exact hv)
theorem q_extract {x : Operand} {i : Nat} {vs : List Value} {v : Value} (h : ev fs x = some (.tuple vs.toArray)) (hi : vs[i]? = some v) : QEv P (.extract x i) n fs E L v := fun a w o ho hf hs => by
  unfold execOp; rw [ho]
  show ((Instr.extract (a.eval x) i) >>= fun y => pure (Next.value y)).run P w = _
  rw [hf.ev h]
  simp [Instr.extract, hi, go_sem]
theorem q_nilCheck {x : Operand} {ad : Addr} (h : ev fs x = some (.pointer (some ad))) : QEv P (.nilCheck x) n fs E L (.pointer (some ad)) := fun a w o ho hf hs => by
  unfold execOp; rw [ho]; simp only [hf.ev h]; rfl
theorem q_nilCheckF {x : Operand} {f : FuncId} {c d : Array Value} (h : ev fs x = some (.func (.func f) c d)) : QEv P (.nilCheck x) n fs E L (.func (.func f) c d) := fun a w o ho hf hs => by
  unfold execOp; rw [ho]; simp only [hf.ev h]; rfl
theorem q_makeFunc {f : FuncId} {first captured : List Operand} {vs us : List Value} (h1 : evs fs first = some vs) (h2 : evs fs captured = some us) : QEv P (.makeFunc (.func f) first.toArray captured.toArray) n fs E L (.func (.func f) vs.toArray us.toArray) := fun a w o ho hf hs => by
  unfold execOp; rw [ho]
  show Result.ok (Next.value (.func (.func f) (first.toArray.map a.eval) (captured.toArray.map a.eval))) w = _
  rw [List.map_toArray, List.map_toArray, hf.evs h1, hf.evs h2]

/-! fields' places -/
def faB (P : Program) (s : TypeId) (i off : Nat) : Bool := match P.underlying s with
  | some (.struct fs) => (match fs[i]? with
    | some f => Nat.beq f.offset off && (match P.info? f.type with
      | some t => !(Nat.beq t.size 0)
      | none => false)
    | none => false)
  | _ => false
theorem q_fieldAddr {s : TypeId} {x : Operand} {i off : Nat} {ad : Addr} (hb : faB P s i off = true) (h : ev fs x = some (.pointer (some ad))) : QEv P (.fieldAddr s x i) n fs E L (.pointer (some (ad.add off))) := fun a w o ho hf hs => by
  unfold execOp; rw [ho]
  show ((Instr.fieldAt s (a.eval x) i) >>= fun y => pure (Next.value y)).run P w = _
  rw [hf.ev h]
  unfold faB at hb
  split at hb
  · rename_i fields hu
    split at hb
    · rename_i f hfi
      simp only [Bool.and_eq_true] at hb
      obtain ⟨h1, h2⟩ := hb
      have h1' := Nat.eq_of_beq_eq_true h1
      split at h2
      · rename_i t ht
        have h3 : ¬ t.size = 0 := fun e => by rw [e] at h2; cases h2
        simp [Instr.fieldAt, run_underlying hu, hfi, Instr.sureAddr, fieldPlace, sizeOf, typeInfo, ht, h3, go_sem, h1']
      · cases h2
    · cases hb
  · cases hb

/-! numbers -/
theorem execOp_bin (ρ : Operand → Value) {o : Oper} {op : BinOp} {t t' : TypeId} {x y : Operand} (ho : o.op = .binOp op t x y t') : execOp ρ o = (do pure (.value (← (do eqGuard op t x y (ρ x) (ρ y); binOp op t (ρ x) (ρ y))))) := by
  unfold execOp; rw [ho]
theorem eqGuard_int {op : BinOp} {t : TypeId} {x y : Operand} {k k' : IntKind} {a b : Int} {w : World} : (eqGuard op t x y (.int k a) (.int k' b)).run P w = .ok () w := by
  unfold eqGuard; cases op <;> rfl
theorem q_bin {op : BinOp} {t t' : TypeId} {x y : Operand} {u u' v : Value} (hx : ev fs x = some u) (hy : ev fs y = some u')
    (hg : ∀ w, (eqGuard op t x y u u').run P w = .ok () w) (hv : ∀ w, sats E w L → (binOp op t u u').run P w = .ok v w) : QEv P (.binOp op t x y t') n fs E L v := fun a w o ho hf hs => by
  rw [execOp_bin a.eval ho, hf.ev hx, hf.ev hy]
  have : (do eqGuard op t x y u u'; binOp op t u u').run P w = .ok v w := by rw [run_bind (hg w)]; exact hv w hs
  rw [run_bind this]; rfl
theorem wrap64_in {a : Int} (h0 : -9223372036854775808 ≤ a) (h1 : a ≤ 9223372036854775807) : IntKind.i64.wrap a = a := IntWalk.i64_in a ⟨h0, h1⟩
theorem q_add {t t' : TypeId} {x y : Operand} {a b : Int} (hx : ev fs x = some (.int .i64 a)) (hy : ev fs y = some (.int .i64 b)) (hr : -9223372036854775808 ≤ a + b ∧ a + b ≤ 9223372036854775807) : QEv P (.binOp .add t x y t') n fs E L (.int .i64 (a + b)) :=
  q_bin hx hy (fun _ => eqGuard_int) fun w _ => by show Result.ok (Value.int .i64 (IntKind.i64.wrap (a + b))) w = _; rw [wrap64_in hr.1 hr.2]
theorem q_sub {t t' : TypeId} {x y : Operand} {a b : Int} (hx : ev fs x = some (.int .i64 a)) (hy : ev fs y = some (.int .i64 b)) (hr : -9223372036854775808 ≤ a - b ∧ a - b ≤ 9223372036854775807) : QEv P (.binOp .sub t x y t') n fs E L (.int .i64 (a - b)) :=
  q_bin hx hy (fun _ => eqGuard_int) fun w _ => by show Result.ok (Value.int .i64 (IntKind.i64.wrap (a - b))) w = _; rw [wrap64_in hr.1 hr.2]
theorem q_mul {t t' : TypeId} {x y : Operand} {a b : Int} (hx : ev fs x = some (.int .i64 a)) (hy : ev fs y = some (.int .i64 b)) (hr : -9223372036854775808 ≤ a * b ∧ a * b ≤ 9223372036854775807) : QEv P (.binOp .mul t x y t') n fs E L (.int .i64 (a * b)) :=
  q_bin hx hy (fun _ => eqGuard_int) fun w _ => by show Result.ok (Value.int .i64 (IntKind.i64.wrap (a * b))) w = _; rw [wrap64_in hr.1 hr.2]
theorem q_lss {t t' : TypeId} {x y : Operand} {k : IntKind} {a b : Int} (hx : ev fs x = some (.int k a)) (hy : ev fs y = some (.int k b)) : QEv P (.binOp .lss t x y t') n fs E L (.bool (decide (a < b))) :=
  q_bin hx hy (fun _ => eqGuard_int) fun w _ => by unfold binOp; simp [Op.intCmp, go_sem]
theorem q_leq {t t' : TypeId} {x y : Operand} {k : IntKind} {a b : Int} (hx : ev fs x = some (.int k a)) (hy : ev fs y = some (.int k b)) : QEv P (.binOp .leq t x y t') n fs E L (.bool (decide (a ≤ b))) :=
  q_bin hx hy (fun _ => eqGuard_int) fun w _ => by unfold binOp; simp [Op.intCmp, go_sem]
theorem q_gtr {t t' : TypeId} {x y : Operand} {k : IntKind} {a b : Int} (hx : ev fs x = some (.int k a)) (hy : ev fs y = some (.int k b)) : QEv P (.binOp .gtr t x y t') n fs E L (.bool (decide (b < a))) :=
  q_bin hx hy (fun _ => eqGuard_int) fun w _ => by unfold binOp; simp [Op.intCmp, go_sem]
theorem q_geq {t t' : TypeId} {x y : Operand} {k : IntKind} {a b : Int} (hx : ev fs x = some (.int k a)) (hy : ev fs y = some (.int k b)) : QEv P (.binOp .geq t x y t') n fs E L (.bool (decide (b ≤ a))) :=
  q_bin hx hy (fun _ => eqGuard_int) fun w _ => by unfold binOp; simp [Op.intCmp, go_sem]
theorem q_eql {t t' : TypeId} {x y : Operand} {k : IntKind} {a b : Int} (hx : ev fs x = some (.int k a)) (hy : ev fs y = some (.int k b)) : QEv P (.binOp .eql t x y t') n fs E L (.bool (decide (a = b))) :=
  q_bin hx hy (fun _ => eqGuard_int) fun w _ => by
    unfold binOp
    by_cases h : a = b <;> simp [Op.intCmp, go_sem, h]
theorem q_neq {t t' : TypeId} {x y : Operand} {k : IntKind} {a b : Int} (hx : ev fs x = some (.int k a)) (hy : ev fs y = some (.int k b)) : QEv P (.binOp .neq t x y t') n fs E L (.bool (decide (¬ a = b))) :=
  q_bin hx hy (fun _ => eqGuard_int) fun w _ => by
    unfold binOp
    by_cases h : a = b <;> simp [Op.intCmp, go_sem, h]
theorem q_not {t : TypeId} {x : Operand} {b : Bool} (hx : ev fs x = some (.bool b)) : QEv P (.unOp .not t x) n fs E L (.bool (!b)) := fun a w o ho hf hs => by
  unfold execOp; rw [ho]
  show ((Op.unary .not (a.eval x)) >>= fun y => pure (Next.value y)).run P w = _
  rw [hf.ev hx]; rfl
theorem q_neg {t : TypeId} {x : Operand} {a : Int} (hx : ev fs x = some (.int .i64 a)) (hr : -9223372036854775807 ≤ a ∧ a ≤ 9223372036854775807) : QEv P (.unOp .neg t x) n fs E L (.int .i64 (-a)) := fun ac w o ho hf hs => by
  unfold execOp; rw [ho]
  show ((Op.unary .neg (ac.eval x)) >>= fun y => pure (Next.value y)).run P w = _
  rw [hf.ev hx]
  show Result.ok (Next.value (.int .i64 (IntKind.i64.wrap (0 - a)))) w = _
  rw [wrap64_in (by omega) (by omega)]; simp
/-! nil -/
theorem equalIn_ptr {d : Nat} {t e : TypeId} {p : Option Addr} {w : World} (hu : P.underlying t = some (.pointer e)) : (Op.equalIn (d + 1) t (.pointer p) (.pointer none)).run P w = .ok p.isNone w := by
  unfold Op.equalIn
  rw [run_bind (run_underlying hu w)]
  cases p <;> rfl
theorem equalIn_sl {d : Nat} {t e : TypeId} {p : Option Addr} {m c : Nat} {w : World} (hu : P.underlying t = some (.slice e)) : (Op.equalIn (d + 1) t (.slice p m c) (.slice none 0 0)).run P w = .ok p.isNone w := by
  unfold Op.equalIn
  rw [run_bind (run_underlying hu w)]
  cases p <;> rfl
theorem equalIn_bool {d : Nat} {t : TypeId} {a b : Bool} {w : World} (hu : P.underlying t = some .bool) : (Op.equalIn (d + 1) t (.bool a) (.bool b)).run P w = .ok (a == b) w := by
  unfold Op.equalIn
  rw [run_bind (run_underlying hu w)]
  rfl
theorem equal_is (t : TypeId) (x y : Value) : Op.equal t x y = Op.equalIn (9999 + 1) t x y := rfl
theorem q_eqlPtrNil {t t' : TypeId} {x y : Operand} {e : TypeId} {p : Option Addr} (hu : P.underlying t = some (.pointer e)) (hx : ev fs x = some (.pointer p)) (hy : ev fs y = some (.pointer none)) : QEv P (.binOp .eql t x y t') n fs E L (.bool p.isNone) :=
  q_bin hx hy (fun _ => rfl) fun w _ => by
    show ((Op.equal t (.pointer p) (.pointer none)) >>= fun b => pure (Value.bool b)).run P w = _
    rw [equal_is, run_bind (equalIn_ptr hu)]; rfl
theorem q_neqPtrNil {t t' : TypeId} {x y : Operand} {e : TypeId} {p : Option Addr} (hu : P.underlying t = some (.pointer e)) (hx : ev fs x = some (.pointer p)) (hy : ev fs y = some (.pointer none)) : QEv P (.binOp .neq t x y t') n fs E L (.bool p.isSome) :=
  q_bin hx hy (fun _ => rfl) fun w _ => by
    show ((Op.equal t (.pointer p) (.pointer none)) >>= fun b => pure (Value.bool (!b))).run P w = _
    rw [equal_is, run_bind (equalIn_ptr hu)]; cases p <;> rfl
theorem q_eqlSlNil {t t' : TypeId} {x y : Operand} {e : TypeId} {p : Option Addr} {m c : Nat} (hu : P.underlying t = some (.slice e)) (hx : ev fs x = some (.slice p m c)) (hy : ev fs y = some (.slice none 0 0)) : QEv P (.binOp .eql t x y t') n fs E L (.bool p.isNone) :=
  q_bin hx hy (fun _ => rfl) fun w _ => by
    show ((Op.equal t (.slice p m c) (.slice none 0 0)) >>= fun b => pure (Value.bool b)).run P w = _
    rw [equal_is, run_bind (equalIn_sl hu)]; rfl
theorem q_eqlBool {t t' : TypeId} {x y : Operand} {a b : Bool} (hu : P.underlying t = some .bool) (hx : ev fs x = some (.bool a)) (hy : ev fs y = some (.bool b)) : QEv P (.binOp .eql t x y t') n fs E L (.bool (a == b)) :=
  q_bin hx hy (fun _ => rfl) fun w _ => by
    show ((Op.equal t (.bool a) (.bool b)) >>= fun b => pure (Value.bool b)).run P w = _
    rw [equal_is, run_bind (equalIn_bool hu)]; rfl
theorem q_neqBool {t t' : TypeId} {x y : Operand} {a b : Bool} (hu : P.underlying t = some .bool) (hx : ev fs x = some (.bool a)) (hy : ev fs y = some (.bool b)) : QEv P (.binOp .neq t x y t') n fs E L (.bool (a != b)) :=
  q_bin hx hy (fun _ => rfl) fun w _ => by
    show ((Op.equal t (.bool a) (.bool b)) >>= fun b => pure (Value.bool (!b))).run P w = _
    rw [equal_is, run_bind (equalIn_bool hu)]; rfl

/-! builtins -/
theorem execOp_builtin (ρ : Operand → Value) {o : Oper} {b : Builtin} {xs : List Operand} {ats : Array TypeId} (ho : o.op = .call ⟨.builtin b, xs.toArray, ats⟩) :
    execOp ρ o = builtin b ats o.type (xs.toArray.map fun | .const _ => true | _ => false) (xs.map ρ).toArray := by
  unfold execOp; rw [ho]
  show (do let d ← resolve ρ ⟨.builtin b, xs.toArray, ats⟩ o.type; invoke d.target d.args) = _
  unfold resolve
  simp only [List.map_toArray]
  rfl
theorem q_len {x : Operand} {t e : TypeId} {A : Option Addr} {m c : Nat} (hu : P.underlying t = some (.slice e)) (hx : ev fs x = some (.slice A m c)) : QEv P (.call ⟨.builtin .len, [x].toArray, [t].toArray⟩) n fs E L (.int .i64 (m : Int)) := fun a w o ho hf hs => by
  rw [execOp_builtin a.eval ho]
  show ((Builtin.len_ [t].toArray o.type [a.eval x].toArray) >>= fun y => pure (Next.value y)).run P w = _
  rw [hf.ev hx]
  simp [Builtin.len_, run_underlying hu, go_sem, goInt]
theorem q_max {x y : Operand} {ats : Array TypeId} {a b : Int} (hx : ev fs x = some (.int .i64 a)) (hy : ev fs y = some (.int .i64 b)) : QEv P (.call ⟨.builtin .max, [x, y].toArray, ats⟩) n fs E L (.int .i64 (max a b)) := fun ac w o ho hf hs => by
  rw [execOp_builtin ac.eval ho]
  show ((Builtin.max_ ats o.type [ac.eval x, ac.eval y].toArray) >>= fun y => pure (Next.value y)).run P w = _
  rw [hf.ev hx, hf.ev hy]
  have : (if b > a then b else a) = max a b := by rw [Int.max_def]; split <;> split <;> omega
  simp [Builtin.max_, Builtin.max2, go_sem, this]
theorem q_min {x y : Operand} {ats : Array TypeId} {a b : Int} (hx : ev fs x = some (.int .i64 a)) (hy : ev fs y = some (.int .i64 b)) : QEv P (.call ⟨.builtin .min, [x, y].toArray, ats⟩) n fs E L (.int .i64 (min a b)) := fun ac w o ho hf hs => by
  rw [execOp_builtin ac.eval ho]
  show ((Builtin.min_ ats o.type [ac.eval x, ac.eval y].toArray) >>= fun y => pure (Next.value y)).run P w = _
  rw [hf.ev hx, hf.ev hy]
  have : (if b < a then b else a) = min a b := by rw [Int.min_def]; split <;> split <;> omega
  simp [Builtin.min_, Builtin.min2, go_sem, this]

/-! loads -/
def aggB (P : Program) (t : TypeId) : Bool := match P.underlying t with
  | some (.struct _) | some (.array _ _) => true
  | some _ => false
  | none => true
theorem isAgg_no {t : TypeId} (h : aggB P t = false) (w : World) : (isAgg t).run P w = .ok false w := by
  unfold aggB at h
  split at h
  · cases h
  · cases h
  · rename_i d h1 h2 hu
    unfold isAgg
    rw [run_bind (run_underlying hu w)]
    cases d <;> first | rfl | (exact absurd hu (by first | exact h1 _ | exact h2 _ _)) | (exfalso; simp_all)
  · cases h
def aggSz (P : Program) (t : TypeId) (m : Nat) : Bool := (match P.underlying t with
  | some (.struct _) | some (.array _ _) => true
  | _ => false) && (match P.info? t with
  | some i => Nat.beq i.size m
  | none => false)
theorem loadVar_cell {t : TypeId} {ad : Addr} {v : Value} {w : World} (ht : aggB P t = false) (h : w.cell? ad = some v) : (loadVar t ad).run P w = .ok v w := by
  unfold loadVar
  rw [run_bind (isAgg_no ht w)]
  simp [go_sem, h]
theorem loadVar_agg {t : TypeId} {ad : Addr} {cs : List Value} {w : World} (ht : aggSz P t cs.length = true) (h : ∀ j v, cs[j]? = some v → w.cell? (ad.add j) = some v) : (loadVar t ad).run P w = .ok (.agg cs.toArray) w := by
  unfold aggSz at ht
  simp only [Bool.and_eq_true] at ht
  obtain ⟨h1, h2⟩ := ht
  have hagg : (isAgg t).run P w = .ok true w := by
    unfold isAgg
    split at h1
    · rename_i hu; rw [run_bind (run_underlying hu w)]; rfl
    · rename_i hu; rw [run_bind (run_underlying hu w)]; rfl
    · cases h1
  have hsz : (sizeOf t).run P w = .ok cs.length w := by
    split at h2
    · rename_i i hi
      have := Nat.eq_of_beq_eq_true h2
      simp [sizeOf, typeInfo, hi, go_sem, this]
    · cases h2
  unfold loadVar
  rw [run_bind hagg]
  simp only [if_true]
  rw [run_bind hsz, run_bind (run_loadCells_list (P := P) (w := w) ad cs h)]
  rfl
theorem q_load {t : TypeId} {x : Operand} {ad : Addr} {v : Value} (h : ev fs x = some (.pointer (some ad))) (hv : ∀ w, sats E w L → (loadVar t ad).run P w = .ok v w) : QEv P (.load t x) n fs E L v := fun a w o ho hf hs => by
  unfold execOp; rw [ho]
  show ((Instr.loadAt t (a.eval x)) >>= fun y => pure (Next.value y)).run P w = _
  rw [hf.ev h]
  have : (Instr.loadAt t (.pointer (some ad))).run P w = .ok v w := by
    unfold Instr.loadAt Instr.sureAddr
    exact hv w hs
  rw [run_bind this]; rfl
theorem cell_blk {b off : Nat} {cs : Array Value} {e : TypeId} {fr : Nat × Nat} {R : List HP} {v : Value} {w : World} (hat : At (blk b (.cells cs e fr)) L R) (hs : sats E w L) (hv : cs[off]? = some v) : w.cell? ⟨b, off, none⟩ = some v := by
  have := (hs.at hat).blk_get
  simp [World.cell?, this, hv]
/-- a cell of a block of one's own -/
theorem q_loadB {t : TypeId} {x : Operand} {b off : Nat} {cs : Array Value} {e : TypeId} {fr : Nat × Nat} {R : List HP} {v : Value} (h : ev fs x = some (.pointer (some ⟨b, off, none⟩))) (ht : aggB P t = false) (hat : At (blk b (.cells cs e fr)) L R) (hv : cs[off]? = some v) : QEv P (.load t x) n fs E L v :=
  q_load h fun w hs => loadVar_cell ht (cell_blk hat hs hv)
theorem add_at (b o j : Nat) : (⟨b, o, none⟩ : Addr).add j = ⟨b, o + j, none⟩ := by unfold Addr.add; split <;> simp_all
/-- a struct of a block of one's own -/
theorem q_loadBA {t : TypeId} {x : Operand} {b off m : Nat} {cs : Array Value} {e : TypeId} {fr : Nat × Nat} {R : List HP} (us : List Value) (h : ev fs x = some (.pointer (some ⟨b, off, none⟩))) (ht : aggSz P t m = true) (hat : At (blk b (.cells cs e fr)) L R) (hm : us.length = m) (hv : ∀ j v, us[j]? = some v → cs[off + j]? = some v) : QEv P (.load t x) n fs E L (.agg us.toArray) :=
  q_load h fun w hs => loadVar_agg (by rw [hm]; exact ht) fun j v hj => by rw [add_at]; exact cell_blk hat hs (hv j v hj)

/-! stores, new blocks -/
theorem storeCells_blk {b : Nat} {e : TypeId} : ∀ (us : List Value) (i off : Nat) (cs : Array Value) (w : World) (L : List HP), sats E w (blk b (.cells cs e (0, 0)) :: L) → off + i + us.length ≤ cs.size → (∀ u ∈ us, u.oneCell' = true) →
    ∃ w', (storeCells (⟨b, off, none⟩ : Addr) us i).run P w = .ok () w' ∧ sats E w' (blk b (.cells ((cs.toList.take (off + i) ++ us ++ cs.toList.drop (off + i + us.length)).toArray) e (0, 0)) :: L)
  | [], i, off, cs, w, L, hs, hl, h1 => ⟨w, rfl, by simpa using hs⟩
  | u :: us, i, off, cs, w, L, hs, hl, h1 => by
    simp only [List.length_cons] at hl
    have hb := hs.blk_get
    have hc : w.cell? ⟨b, off + i, none⟩ = some cs[off + i] := by simp [World.cell?, hb]
    have hfz : w.frozen? ⟨b, off + i, none⟩ = false := by simp [World.frozen?, hb]
    obtain ⟨w', hr, hs'⟩ := storeCells_blk us (i + 1) off (cs.setIfInBounds (off + i) u) (w.setCell ⟨b, off + i, none⟩ u) L (hs.setCell u) (by simp; omega) (fun v hv => h1 v (List.mem_cons_of_mem _ hv))
    refine ⟨w', ?_, ?_⟩
    · unfold storeCells
      rw [add_at]
      have h2 : (store (⟨b, off + i, none⟩ : Addr) u).run P w = .ok () (w.setCell ⟨b, off + i, none⟩ u) := by
        rw [run_store P w _ u .plain (h1 u (List.mem_cons_self ..))]
        simp [stored, hc, hfz]
      rw [run_bind h2]; exact hr
    · have e1 : (cs.setIfInBounds (off + i) u).toList.take (off + (i + 1)) ++ us ++ (cs.setIfInBounds (off + i) u).toList.drop (off + (i + 1) + us.length) = cs.toList.take (off + i) ++ (u :: us) ++ cs.toList.drop (off + i + (us.length + 1)) := by
        have hlt : off + i < cs.toList.length := by simp; omega
        rw [Array.toList_setIfInBounds]
        rw [show off + (i + 1) = (off + i) + 1 by omega]
        rw [List.take_set, List.drop_set_of_lt (by omega)]
        rw [List.take_succ_eq_append_getElem hlt]
        rw [List.set_append_right _ _ (by simp; omega)]
        have : off + i - (List.take (off + i) cs.toList).length = 0 := by simp; omega
        rw [this]
        simp only [List.set_cons_zero, List.append_assoc, List.cons_append, List.nil_append]
        rw [show off + i + 1 + us.length = off + i + (us.length + 1) by omega]
      rw [e1] at hs'
      exact hs'
end ops
end Go.Proofs.Ytlkmcdijioiddaa
