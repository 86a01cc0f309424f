/- A small separation logic over the model's memory: what a world holds, block by block, some of it for good. Not a proof of any statement by itself. -/
import Derived.WalkKit
import Derived.OrdersHeld
namespace Go.Proofs.Ytlkmcdijioiddaa
set_option linter.unusedSimpArgs false
open Go.RowKit
set_option linter.unusedVariables false

/-! ### Pieces of memory -/
abbrev PH := Nat → Option (Obj × Bool)
def Pcomp (g h : PH) : Prop := ∀ k o b o' b', g k = some (o, b) → h k = some (o', b') → b = true ∧ b' = true ∧ o = o'
def Psub (h : PH) (w : World) : Prop := ∀ k o b, h k = some (o, b) → w.heap[k]? = some o
abbrev HP := PH → Prop
abbrev MH := Nat → Option Obj
def imm (h : PH) : MH := fun k => match h k with | some (o, true) => some o | _ => none
def immP (h : PH) : PH := fun k => match h k with | some (o, true) => some (o, true) | _ => none

theorem Pcomp.symm {g h : PH} (x : Pcomp g h) : Pcomp h g := fun k o b o' b' h1 h2 => by
  obtain ⟨a, c, d⟩ := x k o' b' o b h2 h1
  exact ⟨c, a, d.symm⟩
theorem immP_some {h : PH} {k : Nat} {o : Obj} {b : Bool} (x : immP h k = some (o, b)) : h k = some (o, true) ∧ b = true := by
  unfold immP at x
  split at x
  · rename_i o' he
    simp only [Option.some.injEq, Prod.mk.injEq] at x
    obtain ⟨rfl, rfl⟩ := x
    exact ⟨he, rfl⟩
  · cases x
theorem imm_immP (h : PH) : imm (immP h) = imm h := by
  funext k
  unfold imm immP
  cases h k with
  | none => rfl
  | some p => obtain ⟨o, b⟩ := p; cases b <;> rfl
theorem imm_some {h : PH} {k : Nat} {o : Obj} (x : imm h k = some o) : h k = some (o, true) := by
  unfold imm at x
  split at x
  · rename_i o' he
    simp only [Option.some.injEq] at x
    subst x; exact he
  · cases x
theorem Pcomp.immP_right {g h : PH} (x : Pcomp g h) : Pcomp g (immP h) := fun k o b o' b' h1 h2 => by
  obtain ⟨h3, rfl⟩ := immP_some h2
  obtain ⟨a, c, d⟩ := x k o b o' true h1 h3
  exact ⟨a, rfl, d⟩
theorem Pcomp.immP_self (h : PH) : Pcomp h (immP h) := fun k o b o' b' h1 h2 => by
  obtain ⟨h3, rfl⟩ := immP_some h2
  rw [h1] at h3
  simp only [Option.some.injEq, Prod.mk.injEq] at h3
  exact ⟨h3.2, rfl, h3.1⟩

def P1 (b : Nat) (x : Obj × Bool) : PH := fun k => if k = b then some x else none
theorem P1_self (b : Nat) (x : Obj × Bool) : P1 b x b = some x := by simp [P1]
theorem P1_some {b k : Nat} {x y : Obj × Bool} (h : P1 b x k = some y) : k = b ∧ x = y := by
  unfold P1 at h
  split at h
  · rename_i e; exact ⟨e, by simpa using h⟩
  · cases h
def satsL (w : World) : List HP → List PH → Prop
  | [], [] => True
  | A :: L, h :: hs => A h ∧ Psub h w ∧ (∀ g ∈ hs, Pcomp h g) ∧ satsL w L hs
  | _, _ => False

structure Env where
  os : Os
  tape : Nat → Question → Nat
  output : Array (Nat × ByteArray)

/-- The world's streams are E's, and its memory holds the things of the list, side by side. -/
def sats (E : Env) (w : World) (L : List HP) : Prop := (w.os = E.os ∧ w.tape = E.tape ∧ w.output = E.output) ∧ ∃ hs, satsL w L hs

theorem satsL_cons {w : World} {A : HP} {L : List HP} {hs : List PH} (x : satsL w (A :: L) hs) :
    ∃ h t, hs = h :: t ∧ A h ∧ Psub h w ∧ (∀ g ∈ t, Pcomp h g) ∧ satsL w L t := by
  cases hs with
  | nil => exact x.elim
  | cons h t => exact ⟨h, t, rfl, x.1, x.2.1, x.2.2.1, x.2.2.2⟩
theorem satsL_sub {w : World} : ∀ {L : List HP} {hs : List PH}, satsL w L hs → ∀ g ∈ hs, Psub g w
  | [], [], _, g, hg => by cases hg
  | [], _ :: _, x, _, _ => x.elim
  | _ :: _, [], x, _, _ => x.elim
  | A :: L, h :: hs, x, g, hg => by
    rcases List.mem_cons.1 hg with rfl | hg
    · exact x.2.1
    · exact satsL_sub x.2.2.2 g hg
theorem satsL_perm {w : World} {L L' : List HP} (p : L.Perm L') : ∀ {hs : List PH}, satsL w L hs → ∃ hs', hs.Perm hs' ∧ satsL w L' hs' := by
  induction p with
  | nil => intro hs x; exact ⟨hs, .refl _, x⟩
  | cons A p ih =>
    intro hs x
    obtain ⟨h, t, rfl, a, s, c, x⟩ := satsL_cons x
    obtain ⟨t', pt, x'⟩ := ih x
    exact ⟨h :: t', pt.cons h, a, s, fun g hg => c g (pt.mem_iff.2 hg), x'⟩
  | swap A B l =>
    intro hs x
    obtain ⟨h, t, rfl, a, s, c, x⟩ := satsL_cons x
    obtain ⟨g, t, rfl, a', s', c', x⟩ := satsL_cons x
    refine ⟨g :: h :: t, List.Perm.swap _ _ _, a', s', fun k hk => ?_, a, s, fun k hk => c k (List.mem_cons_of_mem _ hk), x⟩
    rcases List.mem_cons.1 hk with rfl | hk
    · exact (c g (List.mem_cons_self ..)).symm
    · exact c' k hk
  | trans _ _ ih1 ih2 =>
    intro hs x
    obtain ⟨h1, p1, x1⟩ := ih1 x
    obtain ⟨h2, p2, x2⟩ := ih2 x1
    exact ⟨h2, p1.trans p2, x2⟩
theorem sats.perm {E : Env} {w : World} {L L' : List HP} (x : sats E w L) (p : L.Perm L') : sats E w L' := by
  obtain ⟨e, hs, x⟩ := x
  obtain ⟨hs', _, x'⟩ := satsL_perm p x
  exact ⟨e, hs', x'⟩
theorem sats.drop {E : Env} {w : World} {A : HP} {L : List HP} (x : sats E w (A :: L)) : sats E w L := by
  obtain ⟨e, hs, x⟩ := x
  obtain ⟨h, t, rfl, _, _, _, x⟩ := satsL_cons x
  exact ⟨e, t, x⟩
theorem sats.imp {E : Env} {w : World} {A B : HP} {L : List HP} (x : sats E w (A :: L)) (i : ∀ h, A h → B h) : sats E w (B :: L) := by
  obtain ⟨e, hs, x⟩ := x
  obtain ⟨h, t, rfl, a, s, c, x⟩ := satsL_cons x
  exact ⟨e, h :: t, i _ a, s, c, x⟩

/-! ### The things -/
/-- block b holds o, and nobody else knows of it -/
def blk (b : Nat) (o : Obj) : HP := fun h => h b = some (o, false)
/-- something of what stays as it is for good -/
def per (p : MH → Prop) : HP := fun h => p (imm h)
def pure' (p : Prop) : HP := fun _ => p
def star (A B : HP) : HP := fun h => ∃ h1 h2, Pcomp h1 h2 ∧ A h1 ∧ B h2 ∧ (∀ k x, h1 k = some x → h k = some x) ∧ (∀ k x, h2 k = some x → h k = some x)
def exH {α : Type} (F : α → HP) : HP := fun h => ∃ x, F x h
def stars : List HP → HP
  | [] => fun _ => True
  | A :: L => star A (stars L)

theorem sats.blk_get {E : Env} {w : World} {b : Nat} {o : Obj} {L : List HP} (x : sats E w (blk b o :: L)) : w.heap[b]? = some o := by
  obtain ⟨e, hs, x⟩ := x
  obtain ⟨h, t, rfl, a, s, c, x⟩ := satsL_cons x
  exact s _ _ _ a
theorem sats.per_get {E : Env} {w : World} {p : MH → Prop} {L : List HP} (x : sats E w (per p :: L)) : ∃ M, p M ∧ ∀ k o, M k = some o → w.heap[k]? = some o := by
  obtain ⟨e, hs, x⟩ := x
  obtain ⟨h, t, rfl, a, s, c, x⟩ := satsL_cons x
  exact ⟨imm h, a, fun k o hk => s _ _ _ (imm_some hk)⟩
theorem sats.pure_get {E : Env} {w : World} {p : Prop} {L : List HP} (x : sats E w (pure' p :: L)) : p ∧ sats E w L := by
  have x' := x
  obtain ⟨e, hs, x⟩ := x
  obtain ⟨h, t, rfl, a, s, c, x⟩ := satsL_cons x
  exact ⟨a, x'.drop⟩
theorem sats.pure_put {E : Env} {w : World} {p : Prop} {L : List HP} (x : sats E w L) (hp : p) : sats E w (pure' p :: L) := by
  obtain ⟨e, hs, x⟩ := x
  refine ⟨e, (fun _ => none) :: hs, hp, ?_, ?_, x⟩
  · intro k o b h; cases h
  · intro g _ k o b o' b' h _; cases h
theorem sats.ex_get {E : Env} {w : World} {α : Type} {F : α → HP} {L : List HP} (x : sats E w (exH F :: L)) : ∃ y, sats E w (F y :: L) := by
  obtain ⟨e, hs, x⟩ := x
  obtain ⟨h, t, rfl, ⟨y, a⟩, s, c, x⟩ := satsL_cons x
  exact ⟨y, e, h :: t, a, s, c, x⟩
theorem sats.ex_put {E : Env} {w : World} {α : Type} {F : α → HP} {L : List HP} (y : α) (x : sats E w (F y :: L)) : sats E w (exH F :: L) :=
  x.imp fun h a => ⟨y, a⟩
def PHsub (g h : PH) : Prop := ∀ k x, g k = some x → h k = some x
theorem Pcomp.sub_left {g g' h : PH} (x : Pcomp g h) (s : PHsub g' g) : Pcomp g' h := fun k o b o' b' h1 h2 => x k o b o' b' (s _ _ h1) h2
theorem sats.star_get {E : Env} {w : World} {A B : HP} {L : List HP} (x : sats E w (star A B :: L)) : sats E w (A :: B :: L) := by
  obtain ⟨e, hs, x⟩ := x
  obtain ⟨h, t, rfl, ⟨h1, h2, c12, a, b, s1, s2⟩, s, c, x⟩ := satsL_cons x
  refine ⟨e, h1 :: h2 :: t, a, fun k o bb hk => s _ _ _ (s1 _ _ hk), fun g hg => ?_, b, fun k o bb hk => s _ _ _ (s2 _ _ hk), fun g hg => (c g hg).sub_left s2, x⟩
  rcases List.mem_cons.1 hg with rfl | hg
  · exact c12
  · exact (c g hg).sub_left s1
def Pjoin (g h : PH) : PH := fun k => (g k).or (h k)
theorem sats.star_put {E : Env} {w : World} {A B : HP} {L : List HP} (x : sats E w (A :: B :: L)) : sats E w (star A B :: L) := by
  obtain ⟨e, hs, x⟩ := x
  obtain ⟨h1, t, rfl, a, s1, c1, x⟩ := satsL_cons x
  obtain ⟨h2, t, rfl, b, s2, c2, x⟩ := satsL_cons x
  have c12 : Pcomp h1 h2 := c1 h2 (List.mem_cons_self ..)
  have j1 : PHsub h1 (Pjoin h1 h2) := fun k y hk => by simp [Pjoin, hk]
  have j2 : PHsub h2 (Pjoin h1 h2) := fun k y hk => by
    unfold Pjoin
    cases h : h1 k with
    | none => simpa using hk
    | some z =>
      obtain ⟨o, bb⟩ := z; obtain ⟨o', b'⟩ := y
      obtain ⟨rfl, rfl, rfl⟩ := c12 k _ _ _ _ h hk
      rfl
  have jj : ∀ {k y}, Pjoin h1 h2 k = some y → h1 k = some y ∨ h2 k = some y := fun {k y} hk => by
    unfold Pjoin at hk
    cases h : h1 k with
    | none => rw [h] at hk; exact .inr (by simpa using hk)
    | some z => rw [h] at hk; exact .inl (by simpa using hk)
  refine ⟨e, Pjoin h1 h2 :: t, ⟨h1, h2, c12, a, b, j1, j2⟩, fun k o bb hk => ?_, fun g hg k o bb o' b' hk hk' => ?_, x⟩
  · rcases jj hk with hk | hk
    · exact s1 _ _ _ hk
    · exact s2 _ _ _ hk
  · rcases jj hk with hk | hk
    · exact c1 g (List.mem_cons_of_mem _ hg) k _ _ _ _ hk hk'
    · exact c2 g hg k _ _ _ _ hk hk'
theorem sats.stars_get {E : Env} {w : World} : ∀ {As L : List HP}, sats E w (stars As :: L) → sats E w (As ++ L)
  | [], L, x => x.drop
  | A :: As, L, x => by
    have h := x.star_get
    have h1 : sats E w (stars As :: A :: L) := h.perm (List.Perm.swap _ _ _)
    have h2 : sats E w (As ++ (A :: L)) := h1.stars_get
    exact h2.perm List.perm_middle
theorem sats.true_put {E : Env} {w : World} {L : List HP} (x : sats E w L) : sats E w ((fun _ => True) :: L) := x.pure_put (p := True) trivial
theorem sats.stars_put {E : Env} {w : World} : ∀ {As L : List HP}, sats E w (As ++ L) → sats E w (stars As :: L)
  | [], L, x => x.true_put
  | A :: As, L, x => by
    have h1 : sats E w (As ++ (A :: L)) := x.perm List.perm_middle.symm
    have h2 : sats E w (stars As :: A :: L) := h1.stars_put
    exact (h2.perm (List.Perm.swap _ _ _)).star_put

/-- what stays for good may be said twice -/
theorem sats.dup {E : Env} {w : World} {p : MH → Prop} {L : List HP} (x : sats E w (per p :: L)) : sats E w (per p :: per p :: L) := by
  obtain ⟨e, hs, x⟩ := x
  obtain ⟨h, t, rfl, a, s, c, x⟩ := satsL_cons x
  refine ⟨e, immP h :: h :: t, by show p (imm (immP h)); rw [imm_immP]; exact a, fun k o b hk => s _ _ _ (immP_some hk).1, fun g hg => ?_, a, s, c, x⟩
  rcases List.mem_cons.1 hg with rfl | hg
  · exact (Pcomp.immP_self _).symm
  · exact ((c g hg).symm.immP_right).symm
theorem sats.per_imp {E : Env} {w : World} {p q : MH → Prop} {L : List HP} (x : sats E w (per p :: L)) (i : ∀ M, p M → q M) : sats E w (per q :: L) := x.imp fun h a => i _ a
/-- two things that stay, as one -/
theorem sats.per_and {E : Env} {w : World} {p q : MH → Prop} {L : List HP} (x : sats E w (per p :: per q :: L))
    (mp : ∀ M M', (∀ k o, M k = some o → M' k = some o) → p M → p M') (mq : ∀ M M', (∀ k o, M k = some o → M' k = some o) → q M → q M') : sats E w (per (fun M => p M ∧ q M) :: L) := by
  have h := x.star_put
  refine h.imp fun h ⟨h1, h2, c, a, b, s1, s2⟩ => ⟨?_, ?_⟩
  · refine mp _ _ (fun k o hk => ?_) a
    unfold imm; rw [s1 _ _ (imm_some hk)]
  · refine mq _ _ (fun k o hk => ?_) b
    unfold imm; rw [s2 _ _ (imm_some hk)]
/-- nobody writes it any more -/
theorem sats.freeze {E : Env} {w : World} {b : Nat} {o : Obj} {L : List HP} (x : sats E w (blk b o :: L)) : sats E w (per (fun M => M b = some o) :: L) := by
  obtain ⟨e, hs, x⟩ := x
  obtain ⟨h, t, rfl, a, s, c, x⟩ := satsL_cons x
  have hb : h b = some (o, false) := a
  refine ⟨e, P1 b (o, true) :: t, by simp [per, imm, P1_self], ?_, ?_, x⟩
  · intro k o' bb hk
    obtain ⟨rfl, h2⟩ := P1_some hk
    simp only [Prod.mk.injEq] at h2
    rw [← h2.1]; exact s _ _ _ hb
  · intro g hg k o' bb o2 b2 hk hk2
    obtain ⟨rfl, h2⟩ := P1_some hk
    have := c g hg k _ _ _ _ hb hk2
    exact absurd this.1 (by simp)

/-! ### What a step does to it -/
theorem satsL_frame {w w' : World} {b : Nat} {o : Obj} : ∀ {L : List HP} {hs : List PH} {h : PH}, h b = some (o, false) → (∀ g ∈ hs, Pcomp h g) → (∀ (k : Nat), k ≠ b → ∀ (x : Obj), w.heap[k]? = some x → w'.heap[k]? = some x) → satsL w L hs → satsL w' L hs
  | [], [], _, _, _, _, _ => trivial
  | [], _ :: _, _, _, _, _, x => x.elim
  | _ :: _, [], _, _, _, _, x => x.elim
  | A :: L, g :: hs, h, hb, hc, hw, x => by
    refine ⟨x.1, fun k o' bb hk => ?_, x.2.2.1, satsL_frame hb (fun g hg => hc g (List.mem_cons_of_mem _ hg)) hw x.2.2.2⟩
    have hne : k ≠ b := fun e => by
      subst e
      have := hc g (List.mem_cons_self ..) k _ _ _ _ hb hk
      exact absurd this.1 (by simp)
    exact hw k hne _ (x.2.1 _ _ _ hk)
/-- a block of one's own is written -/
theorem sats.upd {E : Env} {w w' : World} {b : Nat} {o o' : Obj} {L : List HP} (x : sats E w (blk b o :: L)) (hos : w'.os = w.os) (ht : w'.tape = w.tape) (ho : w'.output = w.output)
    (hb : w'.heap[b]? = some o') (hw : ∀ (k : Nat), k ≠ b → ∀ (x : Obj), w.heap[k]? = some x → w'.heap[k]? = some x) : sats E w' (blk b o' :: L) := by
  obtain ⟨e, hs, x⟩ := x
  obtain ⟨h, t, rfl, a, s, c, x⟩ := satsL_cons x
  have hb0 : h b = some (o, false) := a
  refine ⟨⟨hos.trans e.1, ht.trans e.2.1, ho.trans e.2.2⟩, P1 b (o', false) :: t, P1_self _ _, ?_, ?_, satsL_frame hb0 c hw x⟩
  · intro k o2 bb hk
    obtain ⟨rfl, h2⟩ := P1_some hk
    simp only [Prod.mk.injEq] at h2
    rw [← h2.1]; exact hb
  · intro g hg k o1 b1 o2 b2 hk hk2
    obtain ⟨rfl, h2⟩ := P1_some hk
    have := c g hg k _ _ _ _ hb0 hk2
    exact absurd this.1 (by simp)
theorem satsL_grow {w w' : World} (hw : ∀ (k : Nat) (x : Obj), w.heap[k]? = some x → w'.heap[k]? = some x) : ∀ {L : List HP} {hs : List PH}, satsL w L hs → satsL w' L hs
  | [], [], _ => trivial
  | [], _ :: _, x => x.elim
  | _ :: _, [], x => x.elim
  | A :: L, g :: hs, x => ⟨x.1, fun k o bb hk => hw _ _ (x.2.1 _ _ _ hk), x.2.2.1, satsL_grow hw x.2.2.2⟩
/-- a new block, and whatever else leaves all that was there -/
theorem sats.new {E : Env} {w w' : World} {b : Nat} {o : Obj} {L : List HP} (x : sats E w L) (hos : w'.os = w.os) (ht : w'.tape = w.tape) (ho : w'.output = w.output)
    (hb : w'.heap[b]? = some o) (hn : w.heap[b]? = none) (hw : ∀ (k : Nat) (x : Obj), w.heap[k]? = some x → w'.heap[k]? = some x) : sats E w' (blk b o :: L) := by
  obtain ⟨e, hs, x⟩ := x
  refine ⟨⟨hos.trans e.1, ht.trans e.2.1, ho.trans e.2.2⟩, P1 b (o, false) :: hs, P1_self _ _, ?_, ?_, satsL_grow hw x⟩
  · intro k o2 bb hk
    obtain ⟨rfl, h2⟩ := P1_some hk
    simp only [Prod.mk.injEq] at h2
    rw [← h2.1]; exact hb
  · intro g hg k o1 b1 o2 b2 hk hk2
    obtain ⟨rfl, h2⟩ := P1_some hk
    have := satsL_sub x g hg _ _ _ hk2
    rw [hn] at this; cases this
theorem sats.stay {E : Env} {w w' : World} {L : List HP} (x : sats E w L) (hos : w'.os = w.os) (ht : w'.tape = w.tape) (ho : w'.output = w.output)
    (hw : ∀ (k : Nat) (x : Obj), w.heap[k]? = some x → w'.heap[k]? = some x) : sats E w' L := by
  obtain ⟨e, hs, x⟩ := x
  exact ⟨⟨hos.trans e.1, ht.trans e.2.1, ho.trans e.2.2⟩, hs, satsL_grow hw x⟩
theorem sats.alloc {E : Env} {w : World} {L : List HP} (x : sats E w L) (o : Obj) : sats E (w.alloc o) (blk w.heap.size o :: L) := by
  refine x.new rfl rfl rfl ?_ ?_ ?_
  · exact heap_alloc_new w o
  · simp
  · intro k y hk
    have hlt : k < w.heap.size := (Array.getElem?_eq_some_iff.1 hk).1
    rw [← hk]; exact Below.heap_alloc w o k hlt
theorem sats.drew {E : Env} {w : World} {L : List HP} (x : sats E w L) : sats E w.drew L := x.stay rfl rfl rfl fun _ _ h => h
theorem sats.setCell {E : Env} {w : World} {b i : Nat} {cs : Array Value} {e : TypeId} {fr : Nat × Nat} {L : List HP} (x : sats E w (blk b (.cells cs e fr) :: L)) (v : Value) :
    sats E (w.setCell ⟨b, i, none⟩ v) (blk b (.cells (cs.setIfInBounds i v) e fr) :: L) := by
  have hb := x.blk_get
  refine x.upd rfl rfl rfl ?_ fun k hk y hy => ?_
  · simp only [World.setCell, Array.getElem?_modify, if_true, hb]; rfl
  · simp only [World.setCell, Array.getElem?_modify]
    rw [if_neg (fun e => hk e.symm)]; exact hy

/-! ### Finding one's way in the list -/
/-- L is A, put somewhere into R -/
inductive At (A : HP) : List HP → List HP → Prop
  | here {R : List HP} : At A (A :: R) R
  | there {B : HP} {L R : List HP} (h : At A L R) : At A (B :: L) (B :: R)
theorem At.perm {A : HP} {L R : List HP} (h : At A L R) : L.Perm (A :: R) := by
  induction h with
  | here => exact .refl _
  | there h ih => exact (ih.cons _).trans (.swap _ _ _)
/-- L' is L with A' in the place of A -/
inductive Upd (A A' : HP) : List HP → List HP → Prop
  | here {R : List HP} : Upd A A' (A :: R) (A' :: R)
  | there {B : HP} {L L' : List HP} (h : Upd A A' L L') : Upd A A' (B :: L) (B :: L')
theorem Upd.perms {A A' : HP} {L L' : List HP} (h : Upd A A' L L') : ∃ R, L.Perm (A :: R) ∧ L'.Perm (A' :: R) := by
  induction h with
  | here => exact ⟨_, .refl _, .refl _⟩
  | there h ih =>
    obtain ⟨R, p, q⟩ := ih
    exact ⟨_ :: R, (p.cons _).trans (.swap _ _ _), (q.cons _).trans (.swap _ _ _)⟩
theorem sats.at {E : Env} {w : World} {A : HP} {L R : List HP} (x : sats E w L) (h : At A L R) : sats E w (A :: R) := x.perm h.perm
/-- what is wanted, taken out of L one by one: what stays for good is taken and left -/
inductive Split : List HP → List HP → List HP → Prop
  | nil {L : List HP} : Split L [] L
  | all {L : List HP} : Split L L []
  | drop {A : HP} {L pre F : List HP} (t : Split L pre F) : Split (A :: L) pre F
  | take {A : HP} {L L1 pre F : List HP} (h : At A L L1) (t : Split L1 pre F) : Split L (A :: pre) F
  | keep {p : MH → Prop} {L R pre F : List HP} (h : At (per p) L R) (t : Split L pre F) : Split L (per p :: pre) F
theorem Split.use {E : Env} {w : World} {L pre F : List HP} (s : Split L pre F) (x : sats E w L) : sats E w (pre ++ F) := by
  have key : ∀ {L pre F : List HP}, Split L pre F → ∀ G, sats E w (L ++ G) → sats E w (pre ++ (F ++ G)) := by
    intro L pre F s
    induction s with
    | nil => intro G x; exact x
    | all => intro G x; simpa using x
    | drop t ih => intro G x; exact ih G x.drop
    | take h t ih =>
      rename_i A L L1 pre F
      intro G x
      have x1 : sats E w (L1 ++ A :: G) := x.perm ((h.perm.append_right G).trans List.perm_middle.symm)
      have x2 := ih (A :: G) x1
      refine x2.perm ?_
      have p1 : (F ++ A :: G).Perm (A :: (F ++ G)) := List.perm_middle
      have p2 : (pre ++ (F ++ A :: G)).Perm (pre ++ A :: (F ++ G)) := p1.append_left pre
      exact p2.trans List.perm_middle
    | keep h t ih =>
      rename_i p L R pre F
      intro G x
      have x0 : sats E w (per p :: (R ++ G)) := x.perm (h.perm.append_right G)
      have x1 : sats E w (L ++ per p :: G) := by
        refine x0.dup.perm ?_
        have : (per p :: (R ++ G)).Perm (L ++ G) := (h.perm.append_right G).symm
        exact (this.cons _).trans List.perm_middle.symm
      have x2 := ih (per p :: G) x1
      refine x2.perm ?_
      have p1 : (F ++ per p :: G).Perm (per p :: (F ++ G)) := List.perm_middle
      exact (p1.append_left pre).trans List.perm_middle
  have := key s [] (by simpa using x)
  simpa using this

end Go.Proofs.Ytlkmcdijioiddaa
