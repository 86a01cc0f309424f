/- Regions that draw their order and act: what only looks is taken first, as long as what it looks at stays. Not a proof of any statement by itself. -/
import Derived.Test.YtlkmcdijioiddaaCut
namespace Go.Proofs.Ytlkmcdijioiddaa
open Go.RowKit
set_option linter.unusedVariables false
set_option linter.unusedSimpArgs false

/-- may operation j come up while one of these is still to come? -/
def needS (Pr : List Nat) (ops : Array Oper) (j : Nat) : Bool := Pr.any fun k => match ops[j]? with
  | some o => !(o.after.any fun e => Region.binds .any e && e.on == k)
  | none => true
section any
variable {P : Program} {ops : Array Oper} {Q : Exit → Act → World → Prop} {S : World → Prop} {Pr : List Nat}
/-- in whatever order; S holds behind each operation that may come ahead of one of Pr -/
def anyP (P : Program) (ops : Array Oper) (Q : Exit → Act → World → Prop) (S : World → Prop) (Pr : List Nat) : Nat → Array Bool → Act → World → Prop
  | 0, listed, a, w => Region.ready .any ops listed = [] ∧ Q .normal a w
  | k + 1, listed, a, w => (Region.ready .any ops listed = [] → Q .normal a w) ∧
      ∀ i ∈ Region.ready .any ops listed, wpOp P ops Q i (fun a' w' => (needS Pr ops i = true → S w') ∧ anyP P ops Q S Pr k (listed.setIfInBounds i true) a' w') a w
theorem any_of : ∀ (k : Nat) (listed : Array Bool) (a : Act) (w : World), anyP P ops Q S Pr k listed a w → wpAny P .any ops Q k listed a w
  | 0, _, _, _, h => h
  | k + 1, _, _, _, h => ⟨h.1, fun i hi => wpOp_mono (fun a' w' h' => any_of k _ a' w' h'.2) (h.2 i hi)⟩
theorem needS_of {i j : Nat} {oj : Oper} (hP : i ∈ Pr) (hoj : ops[j]? = some oj) (h : ∀ e ∈ oj.after, Region.binds .any e = true → e.on ≠ i) : needS Pr ops j = true := by
  unfold needS
  refine List.any_eq_true.2 ⟨i, hP, ?_⟩
  simp only [hoj, Bool.not_eq_true', Array.any_eq_false']
  intro e he
  cases hb : Region.binds .any e with
  | false => simp
  | true => have := h e he hb; simpa using this
theorem any_first {i : Nat} {oi : Oper} {v : Value} (hP : i ∈ Pr) (hi : ops[i]? = some oi) (hsel : ∀ (j : Nat) (o : Oper) cs b, ops[j]? = some o → o.op ≠ .select cs b)
    (hQ : ∀ c a w, ¬ Q (.panic c) a w) : ∀ (k : Nat) (listed : Array Bool) (a : Act) (w : World),
      (∀ j oj, ops[j]? = some oj → j ≠ i → listed.getD j true = false → (∀ e ∈ oj.after, Region.binds .any e = true → e.on ≠ i) → oi.apart ops oj = true) →
      i ∈ Region.ready .any ops listed → YieldsIf P ops S oi v a → S w →
      anyP P ops Q S Pr k (listed.setIfInBounds i true) (a.put oi.dst v) w → anyP P ops Q S Pr (k + 1) listed a w := by
  intro k
  induction k with
  | zero =>
    intro listed a w _ hr hy hS H
    constructor
    · intro h; rw [h] at hr; cases hr
    · intro j hj
      rcases Nat.decEq j i with hne | heq
      · have := ready_mono hj hne
        rw [H.1] at this; cases this
      · subst heq; exact hy.wpOp hi hS ⟨fun _ => hS, H⟩
  | succ k ih =>
    intro listed a w hfree hr hy hS H
    constructor
    · intro h; rw [h] at hr; cases hr
    · intro j hj
      rcases Nat.decEq j i with hne | heq
      · have h1 := H.2 j (ready_mono hj hne)
        obtain ⟨hjun, oj, hoj, hall⟩ := mem_ready.1 hj
        have hiun := (mem_ready.1 hr).1
        have hnot : ∀ e ∈ oj.after, Region.binds .any e = true → e.on ≠ i := fun e he hb heq => by
          have h2 := hall e he hb
          rw [heq] at h2
          rcases Nat.lt_or_ge i listed.size with hl | hl
          · simp [hl] at h2 hiun; rw [hiun] at h2; cases h2
          · simp [Array.getElem?_eq_none hl] at h2
        have h2 := wpOp_putIf hoj (hfree j oj hoj hne hjun hnot) (fun cs b => hsel i oi cs b hi) (fun cs b => hsel j oj cs b hoj) (fun c a w h => absurd h (hQ c _ w)) hy h1
        refine wpOp_mono (fun a' w' h3 => ?_) h2
        obtain ⟨h4, h5, h6⟩ := h3
        have hSw := h5 (needS_of hP hoj hnot)
        refine ⟨h5, ih (listed.setIfInBounds j true) a' w' ?_ (ready_mono hr (Ne.symm hne)) h4 hSw ?_⟩
        · intro m om hm hmi hmun hmno
          refine hfree m om hm hmi ?_ hmno
          rcases Nat.decEq j m with hjm | hjm
          · rw [getD_set_ne true hjm] at hmun; exact hmun
          · subst hjm; exact hjun
        · rw [Array.setIfInBounds_comm _ _ hne]; exact h6
      · subst heq; exact hy.wpOp hi hS ⟨fun _ => hS, H⟩
end any

theorem needs_no {Pr : List Nat} {ops : Array Oper} {i : Nat} {p : Prop} (h0 : needS Pr ops i = false) (h : needS Pr ops i = true) : p := by rw [h0] at h; cases h
section walk
variable {P : Program} {ops : Array Oper} {Q : Exit → Act → World → Prop} {n : Nat} {fs : Fs} {E : Env} {L : List HP} {LS : List HP} {Pr : List Nat} {k : Nat} {listed : Array Bool}
/-- whatever order is picked from here on; while one of Pr is to come, LS holds -/
def WB (P : Program) (ops : Array Oper) (Q : Exit → Act → World → Prop) (LS : List HP) (Pr : List Nat) (k : Nat) (listed : Array Bool) (n : Nat) (fs : Fs) (E : Env) (L : List HP) : Prop :=
  ∀ a w, Frs n a fs → sats E w L → anyP P ops Q (fun w => sats E w LS) Pr k listed a w
theorem wc_drawB {id : Nat} {ops : Array Oper} (LS : List HP) (Pr : List Nat) (hm : P.follows .mixedOrders = true) (h : WB P ops Q LS Pr ops.size (Array.replicate ops.size false) n fs E L) : WC P Q (.region id ops true) n fs E L := fun a w hf hs =>
  wp_region_any hm (any_of _ _ _ _ (h a _ hf hs.drew))
theorem wb_done (hr : Region.ready .any ops listed = []) (h : WQ Q .normal n fs E L) : WB P ops Q LS Pr k listed n fs E L := fun a w hf hs => by
  cases k with
  | zero => exact ⟨hr, h a w hf hs⟩
  | succ k => exact ⟨fun _ => h a w hf hs, by rw [hr]; simp⟩
theorem wb_re (d : Nat) (v : Value) (hv : lk fs d = some v) (h : WB P ops Q LS Pr k listed n ((d, v) :: fs) E L) : WB P ops Q LS Pr k listed n fs E L := fun a w hf hs =>
  h a w ⟨hf.size, hf.defers, fun t u e => by
    unfold lk at e
    by_cases hdt : Nat.beq d t = true
    · have := Nat.eq_of_beq_eq_true hdt
      simp only [hdt, cond_true, Option.some.injEq] at e
      subst this; subst e; exact hf.get d _ hv
    · have hb' : Nat.beq d t = false := by simpa only [Bool.not_eq_true] using hdt
      simp only [hb', cond_false] at e
      exact hf.get t u e⟩ hs
theorem wb_split (d : Nat) (b : Bool) (hv : lk fs d = some (.bool b)) (h1 : b = true → WB P ops Q LS Pr k listed n fs E L) (h2 : b = false → WB P ops Q LS Pr k listed n fs E L) : WB P ops Q LS Pr k listed n fs E L := by
  cases b
  · exact h2 rfl
  · exact h1 rfl
/-- the Bools that a take asks -/
def takeB (ops : Array Oper) (Pr : List Nat) (listed : Array Bool) (i : Nat) : Bool := Region.noSelect ops && Region.free .any ops listed i && (Region.ready .any ops listed).contains i && Pr.contains i
theorem wb_q {d : Nat} {op : Op} {ty : TypeId} {pos : String} {af : Array Edge} {v : Value} (i : Nat) (hi : ops[i]? = some ⟨some d, op, ty, pos, af, none⟩) (hb : takeB ops Pr listed i = true) (hQ : ∀ c a w, ¬ Q (.panic c) a w)
    (hLS : Ent E L LS) (q : QEv P op n fs E LS v) (hd : Nat.blt d n = true) (h : WB P ops Q LS Pr k (listed.setIfInBounds i true) n ((d, v) :: fs) E L) : WB P ops Q LS Pr (k + 1) listed n fs E L := fun a w hf hs => by
  simp only [takeB, Bool.and_eq_true] at hb
  obtain ⟨⟨⟨h1, h2⟩, h3⟩, h4⟩ := hb
  exact any_first (by simpa using h4) hi (Region.noSelect_spec h1) hQ k listed a w (Region.free_spec hi h2) (by simpa using h3) (.inl ⟨wanted_none rfl, fun w hs => q a w _ rfl hf hs⟩) (hLS w hs) (h _ w (hf.put hd v) hs)
theorem wb_g {d : Nat} {op : Op} {ty : TypeId} {pos : String} {af : Array Edge} {g : Nat × Bool} {v : Value} (i : Nat) (hi : ops[i]? = some ⟨some d, op, ty, pos, af, some g⟩) (hb : takeB ops Pr listed i = true) (hQ : ∀ c a w, ¬ Q (.panic c) a w)
    (d' : Nat) (hg : (ops[g.1]?).bind (·.dst) = some d') (hv : lk fs d' = some (.bool g.2))
    (hLS : Ent E L LS) (q : QEv P op n fs E LS v) (hd : Nat.blt d n = true) (h : WB P ops Q LS Pr k (listed.setIfInBounds i true) n ((d, v) :: fs) E L) : WB P ops Q LS Pr (k + 1) listed n fs E L := fun a w hf hs => by
  simp only [takeB, Bool.and_eq_true] at hb
  obtain ⟨⟨⟨h1, h2⟩, h3⟩, h4⟩ := hb
  exact any_first (by simpa using h4) hi (Region.noSelect_spec h1) hQ k listed a w (Region.free_spec hi h2) (by simpa using h3) (.inl ⟨wanted_yes rfl hf hg hv, fun w hs => q a w _ rfl hf hs⟩) (hLS w hs) (h _ w (hf.put hd v) hs)
theorem wb_skip {d : Option Nat} {op : Op} {ty : TypeId} {pos : String} {af : Array Edge} {g : Nat × Bool} {v : Value} (i : Nat) (hi : ops[i]? = some ⟨d, op, ty, pos, af, some g⟩) (hb : takeB ops Pr listed i = true) (hQ : ∀ c a w, ¬ Q (.panic c) a w)
    (d' : Nat) (hg : (ops[g.1]?).bind (·.dst) = some d') (hv : lk fs d' = some v) (hne : v ≠ .bool g.2)
    (hLS : Ent E L LS) (hd : okD d n = true) (h : WB P ops Q LS Pr k (listed.setIfInBounds i true) n (bindD d undef fs) E L) : WB P ops Q LS Pr (k + 1) listed n fs E L := fun a w hf hs => by
  simp only [takeB, Bool.and_eq_true] at hb
  obtain ⟨⟨⟨h1, h2⟩, h3⟩, h4⟩ := hb
  exact any_first (by simpa using h4) hi (Region.noSelect_spec h1) hQ k listed a w (Region.free_spec hi h2) (by simpa using h3) (.inr ⟨wanted_no rfl hf hg hv hne, rfl⟩) (hLS w hs) (h _ w (hf.putD hd undef) hs)
theorem wb_op {d : Option Nat} {op : Op} {ty : TypeId} {pos : String} {af : Array Edge} {g : Option (Nat × Bool)} {i : Nat} (hi : ops[i]? = some ⟨d, op, ty, pos, af, g⟩) {a : Act} {w : World} (hf : Frs n a fs) (hs : sats E w L)
    (hw : Region.wanted ⟨d, op, ty, pos, af, g⟩ (yielded ops a.tmps) = true)
    (h : LEv P op ty d n fs E L (fun fs' L' => (needS Pr ops i = true → Ent E L' LS) ∧ WB P ops Q LS Pr k (listed.setIfInBounds i true) n fs' E L')) :
    wpOp P ops Q i (fun a' w' => (needS Pr ops i = true → sats E w' LS) ∧ anyP P ops Q (fun w => sats E w LS) Pr k (listed.setIfInBounds i true) a' w') a w := by
  unfold wpOp
  simp only [hi]
  rw [if_pos hw]
  exact .inl (h a w _ rfl rfl rfl hf hs _ _ fun fs' L' hC a w hf hs => ⟨fun hn => hC.1 hn w hs, hC.2 a w hf hs⟩)
theorem wb_ready {rs : List Nat} {a : Act} {w : World} {S : World → Prop} (hr : Region.ready .any ops listed = rs) (hne : rs ≠ [])
    (h : ∀ i ∈ rs, wpOp P ops Q i (fun a' w' => (needS Pr ops i = true → S w') ∧ anyP P ops Q S Pr k (listed.setIfInBounds i true) a' w') a w) : anyP P ops Q S Pr (k + 1) listed a w := ⟨fun h0 => absurd (hr ▸ h0) hne, hr ▸ h⟩
/-- one operation alone may come up -/
theorem wb_one {d : Option Nat} {op : Op} {ty : TypeId} {pos : String} {af : Array Edge} (i : Nat) (hr : Region.ready .any ops listed = [i]) (hi : ops[i]? = some ⟨d, op, ty, pos, af, none⟩)
    (h : LEv P op ty d n fs E L (fun fs' L' => (needS Pr ops i = true → Ent E L' LS) ∧ WB P ops Q LS Pr k (listed.setIfInBounds i true) n fs' E L')) : WB P ops Q LS Pr (k + 1) listed n fs E L := fun a w hf hs =>
  wb_ready hr (by simp) fun j hj => by
    have : j = i := by simpa using hj
    subst this
    exact wb_op hi hf hs (wanted_none rfl) h
theorem wb_oneG {d : Option Nat} {op : Op} {ty : TypeId} {pos : String} {af : Array Edge} {g : Nat × Bool} (i : Nat) (hr : Region.ready .any ops listed = [i]) (hi : ops[i]? = some ⟨d, op, ty, pos, af, some g⟩)
    (d' : Nat) (hg : (ops[g.1]?).bind (·.dst) = some d') (hv : lk fs d' = some (.bool g.2))
    (h : LEv P op ty d n fs E L (fun fs' L' => (needS Pr ops i = true → Ent E L' LS) ∧ WB P ops Q LS Pr k (listed.setIfInBounds i true) n fs' E L')) : WB P ops Q LS Pr (k + 1) listed n fs E L := fun a w hf hs =>
  wb_ready hr (by simp) fun j hj => by
    have : j = i := by simpa using hj
    subst this
    exact wb_op hi hf hs (wanted_yes rfl hf hg hv) h
theorem wb_two {d : Option Nat} {op : Op} {ty : TypeId} {pos : String} {af : Array Edge} {d' : Option Nat} {op' : Op} {ty' : TypeId} {pos' : String} {af' : Array Edge} (i i' : Nat) (hr : Region.ready .any ops listed = [i, i'])
    (hi : ops[i]? = some ⟨d, op, ty, pos, af, none⟩) (hi' : ops[i']? = some ⟨d', op', ty', pos', af', none⟩)
    (h : LEv P op ty d n fs E L (fun fs' L' => (needS Pr ops i = true → Ent E L' LS) ∧ WB P ops Q LS Pr k (listed.setIfInBounds i true) n fs' E L'))
    (h' : LEv P op' ty' d' n fs E L (fun fs' L' => (needS Pr ops i' = true → Ent E L' LS) ∧ WB P ops Q LS Pr k (listed.setIfInBounds i' true) n fs' E L')) : WB P ops Q LS Pr (k + 1) listed n fs E L := fun a w hf hs =>
  wb_ready hr (by simp) fun j hj => by
    simp only [List.mem_cons, List.not_mem_nil, or_false] at hj
    rcases hj with rfl | rfl
    · exact wb_op hi hf hs (wanted_none rfl) h
    · exact wb_op hi' hf hs (wanted_none rfl) h'
end walk
end Go.Proofs.Ytlkmcdijioiddaa
