/- A walk through the model's code, whose states are a list of what is known of the slots and a list of what the memory holds. Not a proof of any statement by itself. -/
import Derived.Test.YtlkmcdijioiddaaSep
import Derived.ScopeJumps
import Derived.Deep.Quiet
namespace Go.Proofs.Ytlkmcdijioiddaa
set_option linter.unusedSimpArgs false
open Go.RowKit
set_option linter.unusedVariables false

theorem beq_ne {d t : Nat} (h : ¬ d = t) : Nat.beq d t = false := by
  cases hb : Nat.beq d t with
  | false => rfl
  | true => exact absurd (Nat.eq_of_beq_eq_true hb) h
theorem least {p : Nat → Prop} (h : ∃ k, p k) : ∃ k, p k ∧ ∀ j, p j → k ≤ j := by
  obtain ⟨k, hk⟩ := h
  induction k using Nat.strongRecOn with
  | _ k ih =>
    by_cases hj : ∃ j, j < k ∧ p j
    · obtain ⟨j, hlt, hp⟩ := hj; exact ih j hlt hp
    · exact ⟨k, hk, fun j hp => Nat.le_of_not_lt fun hlt => hj ⟨j, hlt, hp⟩⟩
/-! ### Slots -/
abbrev Fs := List (Nat × Value)
def lk : Fs → Nat → Option Value
  | [], _ => none
  | (i, v) :: r, t => bif Nat.beq i t then some v else lk r t
structure Frs (n : Nat) (a : Act) (fs : Fs) : Prop where
  size : a.tmps.size = n
  defers : a.defers = []
  get : ∀ t v, lk fs t = some v → a.tmps[t]? = some v
def ev (fs : Fs) : Operand → Option Value
  | .tmp t => lk fs t
  | .const v => some v
  | .global g => some (.pointer (some ⟨g, 0, none⟩))
  | .func f => some (.func (.func f) #[] #[])
def evs (fs : Fs) : List Operand → Option (List Value)
  | [] => some []
  | x :: r => match ev fs x, evs fs r with
    | some v, some vs => some (v :: vs)
    | _, _ => none
theorem Frs.ev {n : Nat} {a : Act} {fs : Fs} (h : Frs n a fs) {x : Operand} {v : Value} (e : ev fs x = some v) : a.eval x = v := by
  cases x with
  | tmp t => have := h.get t v e; simp [Act.eval, Array.getD_eq_getD_getElem?, this]
  | const c => simpa [Go.Proofs.Ytlkmcdijioiddaa.ev, Act.eval] using e
  | global g => simpa [Go.Proofs.Ytlkmcdijioiddaa.ev, Act.eval] using e
  | func f => simpa [Go.Proofs.Ytlkmcdijioiddaa.ev, Act.eval] using e
theorem Frs.evs {n : Nat} {a : Act} {fs : Fs} (h : Frs n a fs) : ∀ {l : List Operand} {vs : List Value}, evs fs l = some vs → l.map a.eval = vs
  | [], vs, e => by simpa [Go.Proofs.Ytlkmcdijioiddaa.evs] using e
  | x :: r, vs, e => by
    unfold Go.Proofs.Ytlkmcdijioiddaa.evs at e
    split at e
    · rename_i v us h1 h2
      simp only [Option.some.injEq] at e
      rw [List.map_cons, h.ev h1, h.evs h2, e]
    · cases e
theorem Frs.put {n : Nat} {a : Act} {fs : Fs} (h : Frs n a fs) {d : Nat} (hd : Nat.blt d n = true) (v : Value) : Frs n (a.put (some d) v) ((d, v) :: fs) := by
  have hd' : d < n := by simpa using hd
  refine ⟨by simp [Act.put, h.size], by simp [Act.put, h.defers], fun t u e => ?_⟩
  unfold lk at e
  by_cases hdt : d = t
  · subst hdt
    simp only [Nat.beq_refl, cond_true, Option.some.injEq] at e
    simp [Act.put, h.size, hd', e]
  · have : Nat.beq d t = false := beq_ne hdt
    simp only [this, cond_false] at e
    have h2 := h.get t u e
    simp only [Act.put]
    rw [Array.getElem?_setIfInBounds_ne hdt]; exact h2
inductive Sub (fs : Fs) : Fs → Prop
  | nil : Sub fs []
  | cons {t : Nat} {v : Value} {r : Fs} (h : lk fs t = some v) (s : Sub fs r) : Sub fs ((t, v) :: r)
theorem Sub.get {fs : Fs} {gs : Fs} (s : Sub fs gs) : ∀ t v, lk gs t = some v → lk fs t = some v := by
  induction s with
  | nil => intro t v h; cases h
  | cons h s ih =>
    rename_i t0 v0 r
    intro t v e
    unfold lk at e
    by_cases hb : Nat.beq t0 t = true
    · have := Nat.eq_of_beq_eq_true hb
      simp only [hb, cond_true, Option.some.injEq] at e
      subst this; subst e; exact h
    · have hb' : Nat.beq t0 t = false := by simpa only [Bool.not_eq_true] using hb
      simp only [hb', cond_false] at e
      exact ih t v e
theorem Frs.sub {n : Nat} {a : Act} {fs gs : Fs} (h : Frs n a fs) (s : Sub fs gs) : Frs n a gs := ⟨h.size, h.defers, fun t v e => h.get t v (s.get t v e)⟩
def bindD (d : Option Nat) (v : Value) (fs : Fs) : Fs := match d with | some d => (d, v) :: fs | none => fs
def okD (d : Option Nat) (n : Nat) : Bool := match d with | some d => Nat.blt d n | none => true
theorem Frs.putD {n : Nat} {a : Act} {fs : Fs} (h : Frs n a fs) {d : Option Nat} (hd : okD d n = true) (v : Value) : Frs n (a.put d v) (bindD d v fs) := by
  cases d with
  | none => exact h
  | some d => exact h.put hd v

/-! ### Contracts -/
def Callable (P : Program) (f : FuncId) : Prop := ∀ args w, (callFunc f args).run P w = .ok (.enter f args) w
theorem callable_of {P : Program} {f : FuncId} {fn : Func} (hf : P.funcs[f]? = some fn) (hn : (fn.name == "runtime.NumGoroutine") = false) (hb : fn.body.isNone = false) : Callable P f := by
  intro args w
  have hn' : ¬ fn.name = "runtime.NumGoroutine" := by simpa using hn
  have hb' : ¬ fn.body = none := by intro e; rw [e] at hb; cases hb
  unfold callFunc
  simp [go_sem, hf, hn', hb']
/-- Called with these arguments, in a world that holds 'pre', it returns, and nothing beside 'pre' is touched. -/
def Fn (P : Program) (f : FuncId) (args : List Value) (pre : List HP) (Q : Value → (List HP → Prop) → Prop) : Prop :=
  Callable P f ∧ ∀ E w F, sats E w (pre ++ F) → Calls P f args.toArray w fun e w' => ∃ v, e = .returned v ∧ Q v (fun L => sats E w' (L ++ F))

/-! ### Quiet operations -/
def QEv (P : Program) (op : Op) (n : Nat) (fs : Fs) (E : Env) (L : List HP) (v : Value) : Prop :=
  ∀ (a : Act) (w : World) (o : Oper), o.op = op → Frs n a fs → sats E w L → (execOp a.eval o).run P w = .ok (.value v) w

section walk
variable {P : Program} {ops : Array Oper} {Q : Exit → Act → World → Prop} {n : Nat} {fs : Fs} {E : Env} {L : List HP}

def WQ (Q : Exit → Act → World → Prop) (e : Exit) (n : Nat) (fs : Fs) (E : Env) (L : List HP) : Prop := ∀ a w, Frs n a fs → sats E w L → Q e a w
def WL (P : Program) (ops : Array Oper) (Q : Exit → Act → World → Prop) (l : List Oper) (n : Nat) (fs : Fs) (E : Env) (L : List HP) : Prop := ∀ a w, Frs n a fs → sats E w L → wpList P ops Q l a w
def WC (P : Program) (Q : Exit → Act → World → Prop) (c : Code) (n : Nat) (fs : Fs) (E : Env) (L : List HP) : Prop := ∀ a w, Frs n a fs → sats E w L → c.wp P Q a w

/-- What is the guard's word? -/
def guardIs (ops : Array Oper) (fs : Fs) (g : Nat × Bool) (want : Bool) : Prop := ∃ d v, (ops[g.1]?).bind (·.dst) = some d ∧ lk fs d = some v ∧ (if want then v = .bool g.2 else v ≠ .bool g.2)
theorem wanted_none {o : Oper} {f : Nat → Option Bool} (h : o.guard = none) : Region.wanted o f = true := by simp [Region.wanted, h]
theorem wanted_yes {o : Oper} {a : Act} {g : Nat × Bool} (h : o.guard = some g) (hf : Frs n a fs) {d : Nat} (hd : (ops[g.1]?).bind (·.dst) = some d) (hv : lk fs d = some (.bool g.2)) : Region.wanted o (yielded ops a.tmps) = true := by
  have h1 := hf.get d _ hv
  obtain ⟨j, b⟩ := g
  simp only at hd hv h1
  simp only [Region.wanted, h]
  have : yielded ops a.tmps j = some b := by
    unfold yielded; rw [hd]; simp [h1]
  rw [this]; simp
theorem wanted_no {o : Oper} {a : Act} {g : Nat × Bool} (h : o.guard = some g) (hf : Frs n a fs) {d : Nat} {v : Value} (hd : (ops[g.1]?).bind (·.dst) = some d) (hv : lk fs d = some v) (hne : v ≠ .bool g.2) : Region.wanted o (yielded ops a.tmps) = false := by
  have h1 := hf.get d _ hv
  obtain ⟨j, b⟩ := g
  simp only at hd hv h1 hne
  simp only [Region.wanted, h]
  have : yielded ops a.tmps j ≠ some b := by
    unfold yielded; rw [hd]; simp only [Option.bind_some, h1]
    cases v <;> simp_all
  simpa using this

theorem wl_nil (h : WQ Q .normal n fs E L) : WL P ops Q [] n fs E L := fun a w hf hs => h a w hf hs
theorem wpList_yields {a : Act} {w : World} {o : Oper} {rest : List Oper} {v : Value} (hw : Region.wanted o (yielded ops a.tmps) = true) (hr : (execOp a.eval o).run P w = .ok (.value v) w)
    (h : wpList P ops Q rest (a.put o.dst v) w) : wpList P ops Q (o :: rest) a w := by
  unfold wpList
  rw [if_pos hw]
  left
  unfold Oper.wp
  rw [hr]
  exact h
theorem wl_q {d : Nat} {op : Op} {ty : TypeId} {pos : String} {af : Array Edge} {rest : List Oper} {v : Value} (q : QEv P op n fs E L v) (hd : Nat.blt d n = true)
    (h : WL P ops Q rest n ((d, v) :: fs) E L) : WL P ops Q (⟨some d, op, ty, pos, af, none⟩ :: rest) n fs E L := fun a w hf hs =>
  wpList_yields (wanted_none rfl) (q a w _ rfl hf hs) (h _ w (hf.put hd v) hs)
theorem wl_g {d : Nat} {op : Op} {ty : TypeId} {pos : String} {af : Array Edge} {g : Nat × Bool} {rest : List Oper} {v : Value} (d' : Nat) (hg : (ops[g.1]?).bind (·.dst) = some d') (hv : lk fs d' = some (.bool g.2)) (q : QEv P op n fs E L v) (hd : Nat.blt d n = true)
    (h : WL P ops Q rest n ((d, v) :: fs) E L) : WL P ops Q (⟨some d, op, ty, pos, af, some g⟩ :: rest) n fs E L := fun a w hf hs =>
  wpList_yields (wanted_yes rfl hf hg hv) (q a w _ rfl hf hs) (h _ w (hf.put hd v) hs)
theorem wl_skip {d : Nat} {op : Op} {ty : TypeId} {pos : String} {af : Array Edge} {g : Nat × Bool} {rest : List Oper} {v : Value} (d' : Nat) (hg : (ops[g.1]?).bind (·.dst) = some d') (hv : lk fs d' = some v) (hne : v ≠ .bool g.2) (hd : Nat.blt d n = true)
    (h : WL P ops Q rest n ((d, undef) :: fs) E L) : WL P ops Q (⟨some d, op, ty, pos, af, some g⟩ :: rest) n fs E L := fun a w hf hs => by
  unfold wpList
  rw [wanted_no rfl hf hg hv hne]
  exact h _ w (hf.put hd undef) hs
/-- a slot is told anew -/
theorem wl_re {l : List Oper} (d : Nat) (v : Value) (hv : lk fs d = some v) (h : WL P ops Q l n ((d, v) :: fs) E L) : WL P ops Q l n fs E L := fun a w hf hs =>
  h a w ⟨hf.size, hf.defers, fun t u e => by
    unfold lk at e
    by_cases hdt : Nat.beq d t = true
    · have := Nat.eq_of_beq_eq_true hdt
      simp only [hdt, cond_true, Option.some.injEq] at e
      subst this; subst e; exact hf.get d _ hv
    · have hb' : Nat.beq d t = false := by simpa only [Bool.not_eq_true] using hdt
      simp only [hb', cond_false] at e
      exact hf.get t u e⟩ hs
theorem wl_sub {l : List Oper} {gs : Fs} (s : Sub fs gs) (h : WL P ops Q l n gs E L) : WL P ops Q l n fs E L := fun a w hf hs => h a w (hf.sub s) hs

/-! ### Operations that act -/
def LEv (P : Program) (op : Op) (ty : TypeId) (dst : Option Nat) (n : Nat) (fs : Fs) (E : Env) (L : List HP) (C : Fs → List HP → Prop) : Prop :=
  ∀ (a : Act) (w : World) (o : Oper), o.op = op → o.type = ty → o.dst = dst → Frs n a fs → sats E w L →
    ∀ (K : Act → World → Prop) (Q : Exit → Act → World → Prop), (∀ fs' L', C fs' L' → ∀ a w, Frs n a fs' → sats E w L' → K a w) → o.wp P a w K Q
theorem wl_l {dst : Option Nat} {op : Op} {ty : TypeId} {pos : String} {af : Array Edge} {rest : List Oper} (h : LEv P op ty dst n fs E L (fun fs' L' => WL P ops Q rest n fs' E L')) :
    WL P ops Q (⟨dst, op, ty, pos, af, none⟩ :: rest) n fs E L := fun a w hf hs => by
  unfold wpList
  rw [if_pos (wanted_none rfl)]
  exact .inl (h a w _ rfl rfl rfl hf hs _ _ fun fs' L' hC a w hf hs => hC a w hf hs)
theorem wl_lg {dst : Option Nat} {op : Op} {ty : TypeId} {pos : String} {af : Array Edge} {g : Nat × Bool} {rest : List Oper} (d' : Nat) (hg : (ops[g.1]?).bind (·.dst) = some d') (hv : lk fs d' = some (.bool g.2))
    (h : LEv P op ty dst n fs E L (fun fs' L' => WL P ops Q rest n fs' E L')) : WL P ops Q (⟨dst, op, ty, pos, af, some g⟩ :: rest) n fs E L := fun a w hf hs => by
  unfold wpList
  rw [if_pos (wanted_yes rfl hf hg hv)]
  exact .inl (h a w _ rfl rfl rfl hf hs _ _ fun fs' L' hC a w hf hs => hC a w hf hs)
theorem wl_skipD {dst : Option Nat} {op : Op} {ty : TypeId} {pos : String} {af : Array Edge} {g : Nat × Bool} {rest : List Oper} {v : Value} (d' : Nat) (hg : (ops[g.1]?).bind (·.dst) = some d') (hv : lk fs d' = some v) (hne : v ≠ .bool g.2) (hd : okD dst n = true)
    (h : WL P ops Q rest n (bindD dst undef fs) E L) : WL P ops Q (⟨dst, op, ty, pos, af, some g⟩ :: rest) n fs E L := fun a w hf hs => by
  unfold wpList
  rw [wanted_no rfl hf hg hv hne]
  exact h _ w (hf.putD hd undef) hs
theorem LEv.of_q {op : Op} {ty : TypeId} {dst : Option Nat} {v : Value} {C : Fs → List HP → Prop} (q : QEv P op n fs E L v) (hd : okD dst n = true) (h : C (bindD dst v fs) L) : LEv P op ty dst n fs E L C :=
  fun a w o ho ht hdst hf hs K Q hK => by
    unfold Oper.wp
    rw [q a w o ho hf hs]
    show K (a.put o.dst v) w
    rw [hdst]
    exact hK _ _ h _ _ (hf.putD hd v) hs

/-! ### Code -/
theorem wq_use {e : Exit} (h : ∀ a w, Frs n a fs → sats E w L → Q e a w) : WQ Q e n fs E L := h
theorem wc_seq {x y : Code} (h : WC P (Exit.then (y.wp P Q) Q) x n fs E L) : WC P Q (.seq x y) n fs E L := fun a w hf hs => wp_seq (h a w hf hs)
theorem wq_then {y : Code} {Q' : Exit → Act → World → Prop} (h : WC P Q y n fs E L) : WQ (Exit.then (y.wp P Q) Q') .normal n fs E L := fun a w hf hs => h a w hf hs
theorem wq_then_exit {K : Act → World → Prop} {id : Nat} (h : WQ Q (.exit id) n fs E L) : WQ (Exit.then K Q) (.exit id) n fs E L := fun a w hf hs => h a w hf hs
theorem wq_then_goto {K : Act → World → Prop} {l : Nat} (h : WQ Q (.goto l) n fs E L) : WQ (Exit.then K Q) (.goto l) n fs E L := fun a w hf hs => h a w hf hs
theorem wq_then_ret {K : Act → World → Prop} (h : WQ Q .ret n fs E L) : WQ (Exit.then K Q) .ret n fs E L := fun a w hf hs => h a w hf hs
theorem wq_block_normal {id : Nat} (h : WQ Q .normal n fs E L) : WQ (Exit.inBlock id Q) .normal n fs E L := fun a w hf hs => h a w hf hs
theorem wq_block_exit {id : Nat} (h : WQ Q .normal n fs E L) : WQ (Exit.inBlock id Q) (.exit id) n fs E L := fun a w hf hs => by
  show (if id = id then Q .normal a w else Q (.exit id) a w)
  rw [if_pos rfl]; exact h a w hf hs
theorem wq_block_other {id id' : Nat} (hne : Nat.beq id' id = false) (h : WQ Q (.exit id') n fs E L) : WQ (Exit.inBlock id Q) (.exit id') n fs E L := fun a w hf hs => by
  show (if id' = id then Q .normal a w else Q (.exit id') a w)
  rw [if_neg (fun e => by subst e; simp at hne)]; exact h a w hf hs
theorem wq_block_goto {id l : Nat} (h : WQ Q (.goto l) n fs E L) : WQ (Exit.inBlock id Q) (.goto l) n fs E L := fun a w hf hs => h a w hf hs
theorem wq_block_ret {id : Nat} (h : WQ Q .ret n fs E L) : WQ (Exit.inBlock id Q) .ret n fs E L := fun a w hf hs => h a w hf hs
theorem wc_block {id : Nat} {c : Code} (h : WC P (Exit.inBlock id Q) c n fs E L) : WC P Q (.block id c) n fs E L := fun a w hf hs => wp_block (h a w hf hs)
theorem wc_skip (h : WQ Q .normal n fs E L) : WC P Q .skip n fs E L := fun a w hf hs => wp_skip (h a w hf hs)
theorem wc_label {l : Nat} (h : WQ Q .normal n fs E L) : WC P Q (.label l) n fs E L := fun a w hf hs => wp_label (h a w hf hs)
theorem wc_exit {id : Nat} (h : WQ Q (.exit id) n fs E L) : WC P Q (.exit id) n fs E L := fun a w hf hs => wp_exit (h a w hf hs)
theorem wc_goto {l : Nat} (h : WQ Q (.goto l) n fs E L) : WC P Q (.goto l) n fs E L := fun a w hf hs => wp_goto (h a w hf hs)
theorem wc_ret (h : WQ Q .ret n fs E L) : WC P Q .ret n fs E L := fun a w hf hs => wp_ret (h a w hf hs)
theorem wc_cond {c : Operand} {x y : Code} (b : Bool) (hc : ev fs c = some (.bool b)) (ht : b = true → WC P Q x n fs E L) (hf' : b = false → WC P Q y n fs E L) : WC P Q (.cond c x y) n fs E L := fun a w hf hs =>
  wp_cond_split (hf.ev hc) (fun h => ht h a w hf hs) (fun h => hf' h a w hf hs)
theorem wc_condT {c : Operand} {x y : Code} (b : Bool) (hc : ev fs c = some (.bool b)) (hb : b = true) (ht : WC P Q x n fs E L) : WC P Q (.cond c x y) n fs E L := wc_cond b hc (fun _ => ht) (fun h => by rw [hb] at h; cases h)
theorem wc_condF {c : Operand} {x y : Code} (b : Bool) (hc : ev fs c = some (.bool b)) (hb : b = false) (ht : WC P Q y n fs E L) : WC P Q (.cond c x y) n fs E L := wc_cond b hc (fun h => by rw [hb] at h; cases h) (fun _ => ht)
theorem wc_region {id : Nat} {l : List Oper} (h : WL P l.toArray Q l n fs E L) : WC P Q (.region id l.toArray false) n fs E L := fun a w hf hs => wp_region_lit (h a w hf hs)

/-- more is known than is wanted -/
def Ent (E : Env) (L L' : List HP) : Prop := ∀ w, sats E w L → sats E w L'
theorem Ent.refl (L : List HP) : Ent E L L := fun _ h => h
theorem Ent.of_split {pre F : List HP} (s : Split L pre F) : Ent E L pre := fun w h => by
  have h1 := s.use h
  have : ∀ (F : List HP), sats E w (pre ++ F) → sats E w pre := by
    intro F
    induction F with
    | nil => intro h; simpa using h
    | cons A F ih => intro h; exact ih ((h.perm List.perm_middle).drop)
  exact this F h1
theorem Ent.of_splitF {pre F : List HP} (s : Split L pre F) : Ent E L (pre ++ F) := fun w h => s.use h
theorem Ent.trans {L1 L2 L3 : List HP} (h : Ent E L1 L2) (k : Ent E L2 L3) : Ent E L1 L3 := fun w x => k w (h w x)
theorem wc_ent {c : Code} {gs : Fs} {L' : List HP} (s : Sub fs gs) (e : Ent E L L') (h : WC P Q c n gs E L') : WC P Q c n fs E L := fun a w hf hs => h a w (hf.sub s) (e w hs)
theorem wc_entL {c : Code} {L' : List HP} (e : Ent E L L') (h : WC P Q c n fs E L') : WC P Q c n fs E L := fun a w hf hs => h a w hf (e w hs)
theorem wq_entL {e : Exit} {L' : List HP} (x : Ent E L L') (h : WQ Q e n fs E L') : WQ Q e n fs E L := fun a w hf hs => h a w hf (x w hs)
theorem wl_entL {l : List Oper} {L' : List HP} (x : Ent E L L') (h : WL P ops Q l n fs E L') : WL P ops Q l n fs E L := fun a w hf hs => h a w hf (x w hs)
/-- what the memory holds is opened -/
theorem wc_open {c : Code} (h : ∀ w, sats E w L → ∃ L', sats E w L' ∧ WC P Q c n fs E L') : WC P Q c n fs E L := fun a w hf hs => let ⟨L', h1, h2⟩ := h w hs; h2 a w hf h1
theorem wl_open {l : List Oper} (h : ∀ w, sats E w L → ∃ L', sats E w L' ∧ WL P ops Q l n fs E L') : WL P ops Q l n fs E L := fun a w hf hs => let ⟨L', h1, h2⟩ := h w hs; h2 a w hf h1
theorem wq_open {e : Exit} (h : ∀ w, sats E w L → ∃ L', sats E w L' ∧ WQ Q e n fs E L') : WQ Q e n fs E L := fun a w hf hs => let ⟨L', h1, h2⟩ := h w hs; h2 a w hf h1

/-- the point where ways meet, or a loop's head: some ghost, what it is known of, slots and memory -/
def Meet {γ : Type} (E : Env) (n : Nat) (I : γ → Prop) (F : γ → Fs) (H : γ → List HP) (a : Act) (w : World) : Prop := ∃ g, I g ∧ Frs n a (F g) ∧ sats E w (H g)
theorem wc_loop {γ : Type} {c : Code} (I : γ → Prop) (F : γ → Fs) (H : γ → List HP) (μ : γ → Nat) (g0 : γ) (h0 : I g0) (s0 : Sub fs (F g0)) (e0 : Ent E L (H g0))
    (round : ∀ g, I g → WC P (Exit.then (Meet E n (fun g' => I g' ∧ μ g' < μ g) F H) Q) c n (F g) E (H g)) : WC P Q (.loop c) n fs E L := fun a w hf hs => by
  have lem : ∀ a w, Meet E n I F H a w → ∃ k, (∃ g, I g ∧ Frs n a (F g) ∧ sats E w (H g) ∧ μ g = k) ∧ ∀ j, (∃ g, I g ∧ Frs n a (F g) ∧ sats E w (H g) ∧ μ g = j) → k ≤ j := fun a w ⟨g, h1, h2, h3⟩ =>
    least ⟨μ g, g, h1, h2, h3, rfl⟩
  classical
  refine wp_loop (Meet E n I F H) (fun a w => if h : Meet E n I F H a w then Classical.choose (lem a w h) else 0) ⟨g0, h0, hf.sub s0, e0 w hs⟩ ?_
  intro a w hm
  obtain ⟨⟨g, h1, h2, h3, h4⟩, _⟩ := Classical.choose_spec (lem a w hm)
  refine Code.wp_mono ?_ (round g h1 a w h2 h3)
  intro e a' w' hq
  cases e with
  | normal =>
    obtain ⟨g', ⟨i1, i2⟩, i3, i4⟩ := hq
    refine ⟨⟨g', i1, i3, i4⟩, ?_⟩
    have hm' : Meet E n I F H a' w' := ⟨g', i1, i3, i4⟩
    simp only [dif_pos hm, dif_pos hm']
    rw [← h4]
    exact Nat.lt_of_le_of_lt ((Classical.choose_spec (lem a' w' hm')).2 _ ⟨g', i1, i3, i4, rfl⟩) i2
  | exit id => exact hq
  | goto l => exact hq
  | ret => exact hq
  | panic c => exact hq
  | outgrown => exact hq
/-- at the end of a round -/
theorem wq_meet {γ : Type} {I : γ → Prop} {F : γ → Fs} {H : γ → List HP} (g : γ) (h : I g) (s : Sub fs (F g)) (e : Ent E L (H g)) : WQ (Exit.then (Meet E n I F H) Q) .normal n fs E L := fun a w hf hs => ⟨g, h, hf.sub s, e w hs⟩
/-- ways that meet: what follows is walked once -/
theorem wc_cut {γ : Type} {x y : Code} (I : γ → Prop) (F : γ → Fs) (H : γ → List HP) (h : WC P (Exit.then (Meet E n I F H) Q) x n fs E L) (k : ∀ g, I g → WC P Q y n (F g) E (H g)) : WC P Q (.seq x y) n fs E L := fun a w hf hs => by
  refine wp_seq (Code.wp_mono ?_ (h a w hf hs))
  intro e a' w' hq
  cases e with
  | normal => obtain ⟨g, h1, h2, h3⟩ := hq; exact k g h1 a' w' h2 h3
  | exit id => exact hq
  | goto l => exact hq
  | ret => exact hq
  | panic c => exact hq
  | outgrown => exact hq
/-- a scope without jumps back -/
theorem wc_scope {c : Code} (h : WC P (Exit.noGoto Q) c n fs E L) : WC P Q (.scope c) n fs E L := fun a w hf hs => wp_scope_straight (h a w hf hs)
theorem wq_noGoto_normal (h : WQ Q .normal n fs E L) : WQ (Exit.noGoto Q) .normal n fs E L := fun a w hf hs => h a w hf hs
theorem wq_noGoto_ret (h : WQ Q .ret n fs E L) : WQ (Exit.noGoto Q) .ret n fs E L := fun a w hf hs => h a w hf hs
theorem wq_noGoto_exit {id : Nat} (h : WQ Q (.exit id) n fs E L) : WQ (Exit.noGoto Q) (.exit id) n fs E L := fun a w hf hs => h a w hf hs
/-- a scope in which the run jumps back to one label -/
theorem wc_jumps {γ : Type} {c rest : Code} (l : Nat) (hl : findLabel c l = some rest) (I : γ → Prop) (F : γ → Fs) (H : γ → List HP) (μ : γ → Nat)
    (first : WC P (Exit.jump l (Meet E n I F H) Q) c n fs E L)
    (round : ∀ g, I g → WC P (Exit.jump l (Meet E n (fun g' => I g' ∧ μ g' < μ g) F H) Q) rest n (F g) E (H g)) : WC P Q (.scope c) n fs E L := fun a w hf hs => by
  have lem : ∀ a w, Meet E n I F H a w → ∃ k, (∃ g, I g ∧ Frs n a (F g) ∧ sats E w (H g) ∧ μ g = k) ∧ ∀ j, (∃ g, I g ∧ Frs n a (F g) ∧ sats E w (H g) ∧ μ g = j) → k ≤ j := fun a w ⟨g, h1, h2, h3⟩ =>
    least ⟨μ g, g, h1, h2, h3, rfl⟩
  classical
  refine wp_scope_jumps l (Meet E n I F H) (fun a w => if h : Meet E n I F H a w then Classical.choose (lem a w h) else 0) hl (first a w hf hs) ?_
  intro a w hm
  obtain ⟨⟨g, h1, h2, h3, h4⟩, _⟩ := Classical.choose_spec (lem a w hm)
  refine Code.wp_mono ?_ (round g h1 a w h2 h3)
  intro e a' w' hq
  cases e with
  | goto l' =>
    obtain ⟨hl', g', ⟨i1, i2⟩, i3, i4⟩ := hq
    have hm' : Meet E n I F H a' w' := ⟨g', i1, i3, i4⟩
    refine ⟨hl', hm', ?_⟩
    simp only [dif_pos hm, dif_pos hm']
    rw [← h4]
    exact Nat.lt_of_le_of_lt ((Classical.choose_spec (lem a' w' hm')).2 _ ⟨g', i1, i3, i4, rfl⟩) i2
  | normal => exact hq
  | exit id => exact hq
  | ret => exact hq
  | panic c => exact hq
  | outgrown => exact hq
theorem wq_jump_goto {γ : Type} {l : Nat} {I : γ → Prop} {F : γ → Fs} {H : γ → List HP} (g : γ) (h : I g) (s : Sub fs (F g)) (e : Ent E L (H g)) : WQ (Exit.jump l (Meet E n I F H) Q) (.goto l) n fs E L := fun a w hf hs => ⟨rfl, g, h, hf.sub s, e w hs⟩
theorem wq_jump_normal {l : Nat} {J : Act → World → Prop} (h : WQ Q .normal n fs E L) : WQ (Exit.jump l J Q) .normal n fs E L := fun a w hf hs => h a w hf hs
theorem wq_jump_ret {l : Nat} {J : Act → World → Prop} (h : WQ Q .ret n fs E L) : WQ (Exit.jump l J Q) .ret n fs E L := fun a w hf hs => h a w hf hs
theorem wq_jump_exit {l id : Nat} {J : Act → World → Prop} (h : WQ Q (.exit id) n fs E L) : WQ (Exit.jump l J Q) (.exit id) n fs E L := fun a w hf hs => h a w hf hs

/-! ### Regions that draw their order -/
/-- all is quiet -/
def WLq (P : Program) (ops : Array Oper) (Q : Exit → Act → World → Prop) (l : List Oper) (n : Nat) (fs : Fs) (E : Env) (L : List HP) : Prop :=
  ∀ a, Frs n a fs → wpQuiet P ops (fun w => sats E w L) (fun a' => ∀ w', sats E w' L → Q .normal a' w') l a
theorem wc_quiet {id : Nat} {l : List Oper} (hm : P.follows .mixedOrders = true) (hB : Region.lexB .any l.toArray = true) (h : WLq P l.toArray Q l n fs E L) : WC P Q (.region id l.toArray true) n fs E L := fun a w hf hs =>
  wp_region_quiet (C := fun w => sats E w L) hm hB hs.drew (by simpa using h a hf)
theorem wlq_nil (h : WQ Q .normal n fs E L) : WLq P ops Q [] n fs E L := fun a hf => wpQuiet_nil fun w hs => h a w hf hs
theorem wpQuiet_yes {C : World → Prop} {Q : Act → Prop} {a : Act} {o : Oper} {rest : List Oper} {v : Value} (hw : Region.wanted o (yielded ops a.tmps) = true) (hq : ∀ w, C w → o.quietAt P a C w v)
    (h : wpQuiet P ops C Q rest (a.put o.dst v)) : wpQuiet P ops C Q (o :: rest) a := by
  unfold wpQuiet
  rw [if_pos hw]
  exact ⟨v, hq, h⟩
theorem quietAt_of_q {op : Op} {v : Value} (q : QEv P op n fs E L v) {a : Act} {w : World} {o : Oper} (ho : o.op = op) (hf : Frs n a fs) (hs : sats E w L) : o.quietAt P a (fun w => sats E w L) w v := by
  unfold Oper.quietAt
  rw [q a w o ho hf hs]
  exact ⟨rfl, rfl⟩
theorem wlq_q {d : Nat} {op : Op} {ty : TypeId} {pos : String} {af : Array Edge} {rest : List Oper} {v : Value} (q : QEv P op n fs E L v) (hd : Nat.blt d n = true)
    (h : WLq P ops Q rest n ((d, v) :: fs) E L) : WLq P ops Q (⟨some d, op, ty, pos, af, none⟩ :: rest) n fs E L := fun a hf =>
  wpQuiet_yes (wanted_none rfl) (fun w hs => quietAt_of_q q rfl hf hs) (h _ (hf.put hd v))
theorem wlq_g {d : Nat} {op : Op} {ty : TypeId} {pos : String} {af : Array Edge} {g : Nat × Bool} {rest : List Oper} {v : Value} (d' : Nat) (hg : (ops[g.1]?).bind (·.dst) = some d') (hv : lk fs d' = some (.bool g.2)) (q : QEv P op n fs E L v) (hd : Nat.blt d n = true)
    (h : WLq P ops Q rest n ((d, v) :: fs) E L) : WLq P ops Q (⟨some d, op, ty, pos, af, some g⟩ :: rest) n fs E L := fun a hf =>
  wpQuiet_yes (wanted_yes rfl hf hg hv) (fun w hs => quietAt_of_q q rfl hf hs) (h _ (hf.put hd v))
theorem wlq_skip {d : Nat} {op : Op} {ty : TypeId} {pos : String} {af : Array Edge} {g : Nat × Bool} {rest : List Oper} {v : Value} (d' : Nat) (hg : (ops[g.1]?).bind (·.dst) = some d') (hv : lk fs d' = some v) (hne : v ≠ .bool g.2) (hd : Nat.blt d n = true)
    (h : WLq P ops Q rest n ((d, undef) :: fs) E L) : WLq P ops Q (⟨some d, op, ty, pos, af, some g⟩ :: rest) n fs E L := fun a hf => by
  unfold wpQuiet
  rw [wanted_no rfl hf hg hv hne]
  exact h _ (hf.put hd undef)
theorem wlq_re {l : List Oper} (d : Nat) (v : Value) (hv : lk fs d = some v) (h : WLq P ops Q l n ((d, v) :: fs) E L) : WLq P ops Q l n fs E L := fun a hf =>
  h a ⟨hf.size, hf.defers, fun t u e => by
    unfold lk at e
    by_cases hdt : Nat.beq d t = true
    · have := Nat.eq_of_beq_eq_true hdt
      simp only [hdt, cond_true, Option.some.injEq] at e
      subst this; subst e; exact hf.get d _ hv
    · have hb' : Nat.beq d t = false := by simpa only [Bool.not_eq_true] using hdt
      simp only [hb', cond_false] at e
      exact hf.get t u e⟩
/-- whatever order is picked from here on; LS holds throughout -/
def WA (P : Program) (ops : Array Oper) (Q : Exit → Act → World → Prop) (LS : List HP) (k : Nat) (listed : Array Bool) (n : Nat) (fs : Fs) (E : Env) (L : List HP) : Prop :=
  ∀ a w, Frs n a fs → sats E w L → sats E w LS → wpAnyH P .any ops Q (fun w => sats E w LS) k listed a w
theorem wc_draw {id : Nat} {ops : Array Oper} (LS : List HP) (hm : P.follows .mixedOrders = true) (e : Ent E L LS) (h : WA P ops Q LS ops.size (Array.replicate ops.size false) n fs E L) : WC P Q (.region id ops true) n fs E L := fun a w hf hs =>
  wp_region_held hm (h a _ hf hs.drew (e _ hs.drew))
theorem wa_done {LS : List HP} {k : Nat} {listed : Array Bool} (hr : Region.ready .any ops listed = []) (h : WQ Q .normal n fs E L) : WA P ops Q LS k listed n fs E L := fun a w hf hs _ => wpAnyH_done hr (h a w hf hs) k
theorem wa_q {LS : List HP} {k : Nat} {listed : Array Bool} {d : Nat} {op : Op} {ty : TypeId} {pos : String} {af : Array Edge} {v : Value} (i : Nat) (hi : ops[i]? = some ⟨some d, op, ty, pos, af, none⟩)
    (hs : Region.noSelect ops = true) (hf : Region.free .any ops listed i = true) (hr : (Region.ready .any ops listed).contains i = true) (hQ : ∀ c a w, ¬ Q (.panic c) a w)
    (q : QEv P op n fs E LS v) (hd : Nat.blt d n = true) (h : WA P ops Q LS k (listed.setIfInBounds i true) n ((d, v) :: fs) E L) : WA P ops Q LS (k + 1) listed n fs E L := fun a w hfr hsa hls =>
  wpAnyH_take hi hs hf hr (fun c a w h => absurd h (hQ c _ w)) (.inl ⟨wanted_none rfl, fun w hs => q a w _ rfl hfr hs⟩) hls (h _ w (hfr.put hd v) hsa hls)
theorem wa_g {LS : List HP} {k : Nat} {listed : Array Bool} {d : Nat} {op : Op} {ty : TypeId} {pos : String} {af : Array Edge} {g : Nat × Bool} {v : Value} (i : Nat) (hi : ops[i]? = some ⟨some d, op, ty, pos, af, some g⟩)
    (hs : Region.noSelect ops = true) (hf : Region.free .any ops listed i = true) (hr : (Region.ready .any ops listed).contains i = true) (hQ : ∀ c a w, ¬ Q (.panic c) a w)
    (d' : Nat) (hg : (ops[g.1]?).bind (·.dst) = some d') (hv : lk fs d' = some (.bool g.2))
    (q : QEv P op n fs E LS v) (hd : Nat.blt d n = true) (h : WA P ops Q LS k (listed.setIfInBounds i true) n ((d, v) :: fs) E L) : WA P ops Q LS (k + 1) listed n fs E L := fun a w hfr hsa hls =>
  wpAnyH_take hi hs hf hr (fun c a w h => absurd h (hQ c _ w)) (.inl ⟨wanted_yes rfl hfr hg hv, fun w hs => q a w _ rfl hfr hs⟩) hls (h _ w (hfr.put hd v) hsa hls)
theorem wa_skip {LS : List HP} {k : Nat} {listed : Array Bool} {d : Option Nat} {op : Op} {ty : TypeId} {pos : String} {af : Array Edge} {g : Nat × Bool} {v : Value} (i : Nat) (hi : ops[i]? = some ⟨d, op, ty, pos, af, some g⟩)
    (hs : Region.noSelect ops = true) (hf : Region.free .any ops listed i = true) (hr : (Region.ready .any ops listed).contains i = true) (hQ : ∀ c a w, ¬ Q (.panic c) a w)
    (d' : Nat) (hg : (ops[g.1]?).bind (·.dst) = some d') (hv : lk fs d' = some v) (hne : v ≠ .bool g.2) (hd : okD d n = true)
    (h : WA P ops Q LS k (listed.setIfInBounds i true) n (bindD d undef fs) E L) : WA P ops Q LS (k + 1) listed n fs E L := fun a w hfr hsa hls =>
  wpAnyH_take hi hs hf hr (fun c a w h => absurd h (hQ c _ w)) (.inr ⟨wanted_no rfl hfr hg hv hne, rfl⟩) hls (h _ w (hfr.putD hd undef) hsa hls)
theorem wpOp_of_LEv {LS : List HP} {k : Nat} {listed : Array Bool} {d : Option Nat} {op : Op} {ty : TypeId} {pos : String} {af : Array Edge} {i : Nat} (hi : ops[i]? = some ⟨d, op, ty, pos, af, none⟩)
    (h : LEv P op ty d n fs E L (fun fs' L' => Ent E L' LS ∧ WA P ops Q LS k (listed.setIfInBounds i true) n fs' E L')) {a : Act} {w : World} (hf : Frs n a fs) (hs : sats E w L) :
    wpOp P ops Q i (fun a' w' => sats E w' LS ∧ wpAnyH P .any ops Q (fun w => sats E w LS) k (listed.setIfInBounds i true) a' w') a w := by
  unfold wpOp
  simp only [hi]
  rw [if_pos (wanted_none rfl)]
  exact .inl (h a w _ rfl rfl rfl hf hs _ _ fun fs' L' hC a w hf hs => ⟨hC.1 w hs, hC.2 a w hf hs (hC.1 w hs)⟩)
/-- one operation alone may come up -/
theorem wa_one {LS : List HP} {k : Nat} {listed : Array Bool} {d : Option Nat} {op : Op} {ty : TypeId} {pos : String} {af : Array Edge} (i : Nat) (hr : Region.ready .any ops listed = [i]) (hi : ops[i]? = some ⟨d, op, ty, pos, af, none⟩)
    (h : LEv P op ty d n fs E L (fun fs' L' => Ent E L' LS ∧ WA P ops Q LS k (listed.setIfInBounds i true) n fs' E L')) : WA P ops Q LS (k + 1) listed n fs E L := fun a w hf hs hls =>
  wpAnyH_all hr (by simp) fun j hj => by
    have : j = i := by simpa using hj
    subst this
    exact wpOp_of_LEv hi h hf hs
theorem wa_two {LS : List HP} {k : Nat} {listed : Array Bool} {d : Option Nat} {op : Op} {ty : TypeId} {pos : String} {af : Array Edge} {d' : Option Nat} {op' : Op} {ty' : TypeId} {pos' : String} {af' : Array Edge} (i i' : Nat) (hr : Region.ready .any ops listed = [i, i'])
    (hi : ops[i]? = some ⟨d, op, ty, pos, af, none⟩) (hi' : ops[i']? = some ⟨d', op', ty', pos', af', none⟩)
    (h : LEv P op ty d n fs E L (fun fs' L' => Ent E L' LS ∧ WA P ops Q LS k (listed.setIfInBounds i true) n fs' E L'))
    (h' : LEv P op' ty' d' n fs E L (fun fs' L' => Ent E L' LS ∧ WA P ops Q LS k (listed.setIfInBounds i' true) n fs' E L')) : WA P ops Q LS (k + 1) listed n fs E L := fun a w hf hs hls =>
  wpAnyH_all hr (by simp) fun j hj => by
    simp only [List.mem_cons, List.not_mem_nil, or_false] at hj
    rcases hj with rfl | rfl
    · exact wpOp_of_LEv hi h hf hs
    · exact wpOp_of_LEv hi' h' hf hs

/-! ### A function's body -/
def QR (P : Program) (fn : Func) (E : Env) (F : List HP) (Qp : Value → (List HP → Prop) → Prop) : Exit → Act → World → Prop
  | .normal, a, w | .ret, a, w => a.defers = [] ∧ ∃ v, (results fn a.tmps).run P w = .ok v w ∧ Qp v (fun L => sats E w (L ++ F))
  | _, _, _ => False
theorem fn_intro {f : FuncId} {fn : Func} {c : Code} {m : Nat} {args : List Value} {gs : Fs} {pre : List HP} {Qp : Value → (List HP → Prop) → Prop} (hf : P.funcs[f]? = some fn) (hn : (fn.name == "runtime.NumGoroutine") = false) (hb : fn.body = some c) (hm : fn.ntmps = m) (ha0 : Nat.ble args.length m = true)
    (hg : ∀ t v, lk gs t = some v → args[t]? = some v) (L0 : List HP → List HP) (hL : ∀ F, pre ++ F = L0 F)
    (h : ∀ E F, WC P (QR P fn E F Qp) c m gs E (L0 F)) : Fn P f args pre Qp := by
  have ha : args.length ≤ m := Nat.le_of_ble_eq_true ha0
  refine ⟨callable_of hf hn (by rw [hb]; rfl), fun E w F hs => ?_⟩
  refine calls_of_wp hf hb (wp_mono (h E F _ w ⟨?_, rfl, ?_⟩ (by rw [← hL]; exact hs)) ?_)
  · simp [hm]; omega
  · intro t v e
    have h1 := hg t v e
    have hlt : t < args.length := by
      rcases Nat.lt_or_ge t args.length with h | h
      · exact h
      · rw [List.getElem?_eq_none h] at h1; cases h1
    simp only
    rw [Array.getElem?_append_left (by simpa using hlt)]
    simpa using h1
  · intro e a w hq
    cases e with
    | normal => obtain ⟨h1, v, h2, h3⟩ := hq; exact ⟨h1, v, h2, v, rfl, h3⟩
    | ret => obtain ⟨h1, v, h2, h3⟩ := hq; exact ⟨h1, v, h2, v, rfl, h3⟩
    | exit id => exact hq.elim
    | goto l => exact hq.elim
    | panic c => exact hq.elim
    | outgrown => exact hq.elim
/-- the results that stand in slots -/
inductive RVs (P : Program) (fs : Fs) (E : Env) (L : List HP) : List ResultVar → List Value → Prop
  | nil : RVs P fs E L [] []
  | tmp {t : Nat} {v : Value} {r : List ResultVar} {vs : List Value} (h : lk fs t = some v) (k : RVs P fs E L r vs) : RVs P fs E L (.tmp t :: r) (v :: vs)
  | cell {t : Nat} {ty : TypeId} {ad : Addr} {v : Value} {r : List ResultVar} {vs : List Value} (h : lk fs t = some (.pointer (some ad))) (hv : ∀ w, sats E w L → (loadVar ty ad).run P w = .ok v w) (k : RVs P fs E L r vs) : RVs P fs E L (.cell t ty :: r) (v :: vs)
def outV : List Value → Value
  | [v] => v
  | vs => .tuple vs.toArray
def rv1 (a : Act) : ResultVar → Sem Value := fun
    | .tmp t => pure (a.tmps.getD t undef)
    | .cell x t => do loadVar t (← asAddr (a.tmps.getD x undef))
theorem run_bind {α β : Type} {s : Sem α} {k : α → Sem β} {w w' : World} {x : α} (h : s.run P w = .ok x w') : (s >>= k).run P w = (k x).run P w' := by
  simp [go_sem, h]
theorem rvs_run {rs : List ResultVar} {vs : List Value} (h : RVs P fs E L rs vs) {a : Act} {w : World} (hf : Frs n a fs) (hs : sats E w L) : (rs.mapM (rv1 a)).run P w = .ok vs w := by
  induction h with
  | nil => rfl
  | tmp h k ih =>
    rename_i t v r vs
    have h1 := hf.get _ _ h
    have h2 : (rv1 a (.tmp t)).run P w = .ok v w := by
      show Result.ok (a.tmps.getD t undef) w = _
      simp [Array.getD_eq_getD_getElem?, h1]
    rw [List.mapM_cons, run_bind h2, run_bind ih]; rfl
  | cell h hv k ih =>
    rename_i t ty ad v r vs
    have h1 := hf.get _ _ h
    have h2 : (rv1 a (.cell t ty)).run P w = .ok v w := by
      have h3 : a.tmps.getD t undef = .pointer (some ad) := by simp [Array.getD_eq_getD_getElem?, h1]
      show ((asAddr (a.tmps.getD t undef)) >>= fun x => loadVar ty x).run P w = _
      rw [h3]
      exact hv w hs
    rw [List.mapM_cons, run_bind h2, run_bind ih]; rfl
theorem results_run {fn : Func} {rs : List ResultVar} {vs : List Value} (hr : fn.results = rs.toArray) (h : RVs P fs E L rs vs) {a : Act} {w : World} (hf : Frs n a fs) (hs : sats E w L) : (results fn a.tmps).run P w = .ok (outV vs) w := by
  have h1 := rvs_run h hf hs
  have h2 : (fn.results.mapM (rv1 a)).run P w = .ok vs.toArray w := by
    rw [hr, List.mapM_toArray]
    show ((rs.mapM (rv1 a)) >>= fun x => pure x.toArray).run P w = _
    rw [run_bind h1]; rfl
  show ((fn.results.mapM (rv1 a)) >>= fun vs => pure (if h : vs.size = 1 then vs[0] else .tuple vs)).run P w = _
  rw [run_bind h2]
  cases vs with
  | nil => rfl
  | cons v r =>
    cases r with
    | nil => rfl
    | cons u r => simp [outV, Sem.run, pure]
theorem wq_ret {fn : Func} {F : List HP} {Qp : Value → (List HP → Prop) → Prop} {rs : List ResultVar} {vs : List Value} (hr : fn.results = rs.toArray) (h : RVs P fs E L rs vs) (hq : ∀ w, sats E w L → Qp (outV vs) (fun L' => sats E w (L' ++ F))) : WQ (QR P fn E F Qp) .ret n fs E L := fun a w hf hs =>
  ⟨hf.defers, _, results_run hr h hf hs, hq w hs⟩
theorem wq_end {fn : Func} {F : List HP} {Qp : Value → (List HP → Prop) → Prop} {rs : List ResultVar} {vs : List Value} (hr : fn.results = rs.toArray) (h : RVs P fs E L rs vs) (hq : ∀ w, sats E w L → Qp (outV vs) (fun L' => sats E w (L' ++ F))) : WQ (QR P fn E F Qp) .normal n fs E L := fun a w hf hs =>
  ⟨hf.defers, _, results_run hr h hf hs, hq w hs⟩

/-! ### Calls -/
theorem execOp_call (ρ : Operand → Value) (o : Oper) {fop : Operand} {xs : List Operand} {ats : Array TypeId} (ho : o.op = .call ⟨.value fop, xs.toArray, ats⟩) {k : FuncId} {first cap : Array Value} (hf : ρ fop = .func (.func k) first cap) :
    execOp ρ o = callFunc k (first ++ (xs.map ρ).toArray ++ cap) := by
  unfold execOp
  rw [ho]
  show (do let d ← resolve ρ ⟨.value fop, xs.toArray, ats⟩ o.type; invoke d.target d.args) = _
  unfold resolve
  simp only [hf, Deferred.ofValue, List.map_toArray]
  rfl
theorem lev_call {fop : Operand} {xs : List Operand} {ats : Array TypeId} {ty : TypeId} {dst : Option Nat} {k : FuncId} {first cap : List Value} {args : List Value} {pre F : List HP} {Qp : Value → (List HP → Prop) → Prop} {C : Fs → List HP → Prop}
    (hfn : Fn P k (first ++ args ++ cap) pre Qp) (hf : ev fs fop = some (.func (.func k) first.toArray cap.toArray)) (ha : evs fs xs = some args) (hd : okD dst n = true) (sp : Split L pre F)
    (h : ∀ v w', Qp v (fun L' => sats E w' (L' ++ F)) → ∃ L', sats E w' L' ∧ C (bindD dst v fs) L') : LEv P (.call ⟨.value fop, xs.toArray, ats⟩) ty dst n fs E L C := fun a w o ho ht hdst hfr hs K Q hK => by
  unfold Oper.wp
  rw [execOp_call a.eval o ho (hfr.ev hf), hfr.evs ha]
  rw [show first.toArray ++ args.toArray ++ cap.toArray = (first ++ args ++ cap).toArray by simp]
  rw [hfn.1]
  refine (hfn.2 E w F (sp.use hs)).mono ?_
  rintro e w' ⟨v, rfl, hq⟩
  obtain ⟨L', h1, h2⟩ := h v w' hq
  show K (a.put o.dst v) w'
  rw [hdst]
  exact hK _ _ h2 _ _ (hfr.putD hd v) h1
/-- a call of a function that is named -/
theorem lev_callF {k : FuncId} {xs : List Operand} {ats : Array TypeId} {ty : TypeId} {dst : Option Nat} {args : List Value} {pre F : List HP} {Qp : Value → (List HP → Prop) → Prop} {C : Fs → List HP → Prop}
    (hfn : Fn P k args pre Qp) (ha : evs fs xs = some args) (hd : okD dst n = true) (sp : Split L pre F)
    (h : ∀ v w', Qp v (fun L' => sats E w' (L' ++ F)) → ∃ L', sats E w' L' ∧ C (bindD dst v fs) L') : LEv P (.call ⟨.value (.func k), xs.toArray, ats⟩) ty dst n fs E L C :=
  lev_call (first := []) (cap := []) (by simpa using hfn) rfl ha hd sp h
/-- a function that only looks: its answer is known -/
def PFn (P : Program) (f : FuncId) (args : List Value) (pre : List HP) (v : Value) : Prop := Fn P f args pre (fun u S => u = v ∧ S pre)
theorem wlq_call {d : Nat} {k : FuncId} {xs : List Operand} {ats : Array TypeId} {ty : TypeId} {pos : String} {af : Array Edge} {rest : List Oper} {args : List Value} {pre own F : List HP} {v : Value}
    (hfn : Fn P k args pre (fun u S => u = v ∧ S own)) (ha : evs fs xs = some args) (hd : Nat.blt d n = true) (sp : Split L pre F) (bk : Ent E (own ++ F) L)
    (h : WLq P ops Q rest n ((d, v) :: fs) E L) : WLq P ops Q (⟨some d, .call ⟨.value (.func k), xs.toArray, ats⟩, ty, pos, af, none⟩ :: rest) n fs E L := fun a hf =>
  wpQuiet_yes (wanted_none rfl) (fun w hs => by
    unfold Oper.quietAt
    rw [execOp_call a.eval _ rfl (first := #[]) (cap := #[]) (k := k) rfl, hf.evs ha]
    rw [show #[] ++ args.toArray ++ #[] = args.toArray by simp]
    rw [hfn.1]
    refine ⟨rfl, (hfn.2 E w F (sp.use hs)).mono ?_⟩
    rintro e w' ⟨u, rfl, rfl, hq⟩
    exact ⟨rfl, bk w' hq⟩) (h _ (hf.put hd v))
theorem wlq_callG {d : Nat} {k : FuncId} {xs : List Operand} {ats : Array TypeId} {ty : TypeId} {pos : String} {af : Array Edge} {g : Nat × Bool} {rest : List Oper} {args : List Value} {pre own F : List HP} {v : Value}
    (d' : Nat) (hg : (ops[g.1]?).bind (·.dst) = some d') (hv : lk fs d' = some (.bool g.2))
    (hfn : Fn P k args pre (fun u S => u = v ∧ S own)) (ha : evs fs xs = some args) (hd : Nat.blt d n = true) (sp : Split L pre F) (bk : Ent E (own ++ F) L)
    (h : WLq P ops Q rest n ((d, v) :: fs) E L) : WLq P ops Q (⟨some d, .call ⟨.value (.func k), xs.toArray, ats⟩, ty, pos, af, some g⟩ :: rest) n fs E L := fun a hf =>
  wpQuiet_yes (wanted_yes rfl hf hg hv) (fun w hs => by
    unfold Oper.quietAt
    rw [execOp_call a.eval _ rfl (first := #[]) (cap := #[]) (k := k) rfl, hf.evs ha]
    rw [show #[] ++ args.toArray ++ #[] = args.toArray by simp]
    rw [hfn.1]
    refine ⟨rfl, (hfn.2 E w F (sp.use hs)).mono ?_⟩
    rintro e w' ⟨u, rfl, rfl, hq⟩
    exact ⟨rfl, bk w' hq⟩) (h _ (hf.put hd v))
theorem wl_call {dst : Option Nat} {k : FuncId} {xs : List Operand} {ats : Array TypeId} {ty : TypeId} {pos : String} {af : Array Edge} {rest : List Oper} {args : List Value} {pre F : List HP} {Qp : Value → (List HP → Prop) → Prop}
    (hfn : Fn P k args pre Qp) (ha : evs fs xs = some args) (hd : okD dst n = true) (sp : Split L pre F)
    (h : ∀ v w', Qp v (fun L' => sats E w' (L' ++ F)) → ∃ L', sats E w' L' ∧ WL P ops Q rest n (bindD dst v fs) E L') : WL P ops Q (⟨dst, .call ⟨.value (.func k), xs.toArray, ats⟩, ty, pos, af, none⟩ :: rest) n fs E L := wl_l (lev_callF hfn ha hd sp h)
end walk
end Go.Proofs.Ytlkmcdijioiddaa
