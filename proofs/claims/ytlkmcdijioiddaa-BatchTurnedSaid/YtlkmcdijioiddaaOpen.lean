/- What came in, opened: data that read, as lists that stay. Not a proof of any statement by itself. -/
import Derived.Test.YtlkmcdijioiddaaShift
import Derived.Test.YtlkmcdijioiddaaApi
import Derived.SizedLaws
import Derived.Below
import Derived.Carry
namespace Go.Proofs.Ytlkmcdijioiddaa
open Go.RowKit
set_option linter.unusedVariables false
set_option linter.unusedSimpArgs false
def mhOf (w : World) : MH := fun k => w.heap[k]?
theorem sats_start (w : World) : sats ⟨w.os, w.tape, w.output⟩ w [per (fun M => M = mhOf w)] := by
  refine ⟨⟨rfl, rfl, rfl⟩, [fun k => (w.heap[k]?).map (fun o => (o, true))], ?_, ?_, ?_, trivial⟩
  · funext k
    show (match (w.heap[k]?).map (fun o => (o, true)) with | some (o, true) => some o | _ => none) = w.heap[k]?
    cases w.heap[k]? <;> rfl
  · intro k o b h
    cases hk : w.heap[k]? with
    | none => simp [hk] at h
    | some o' => simp [hk] at h; rw [h.1]
  · intro g hg; cases hg
theorem sats_end {E : Env} {w w' : World} (hE : w.os = E.os ∧ w.tape = E.tape ∧ w.output = E.output) (hs : sats E w' [per (fun M => M = mhOf w)]) : (w'.os = w.os ∧ w'.tape = w.tape ∧ w'.output = w.output) ∧ ∀ (k : Nat) (o : Obj), w.heap[k]? = some o → w'.heap[k]? = some o := by
  obtain ⟨M, rfl, hM⟩ := hs.per_get
  obtain ⟨e, _⟩ := hs
  exact ⟨⟨e.1.trans hE.1.symm, e.2.1.trans hE.2.1.symm, e.2.2.trans hE.2.2.symm⟩, hM⟩
theorem per_of {E : Env} {w w' : World} {L : List HP} {q : MH → Prop} (h : q (mhOf w)) (hs : sats E w' (per (fun M => M = mhOf w) :: L)) : sats E w' (per q :: per (fun M => M = mhOf w) :: L) :=
  hs.dup.per_imp fun M e => by rw [e]; exact h
theorem calls_law {P : Program} {f : FuncId} {args : List Value} {pre : List HP} {w : World} (hfn : Fn P f args pre (fun v S => v = .bool true ∧ S [])) (hpre : sats ⟨w.os, w.tape, w.output⟩ w (pre ++ [per (fun M => M = mhOf w)])) :
    Calls P f args.toArray w fun e w' => e = .returned (.bool true) ∧ Below w.heap.size w w' := by
  refine (hfn.2 _ w _ hpre).mono ?_
  rintro e w' ⟨v, rfl, rfl, hs⟩
  obtain ⟨⟨h1, h2, h3⟩, h4⟩ := sats_end (w := w) ⟨rfl, rfl, rfl⟩ hs
  refine ⟨rfl, h1, h2, h3, ?_, fun k hk => ?_⟩
  · rcases Nat.eq_zero_or_pos w.heap.size with h | h
    · omega
    · have h5 := h4 (w.heap.size - 1) _ (Array.getElem?_eq_getElem (by omega))
      have := (Array.getElem?_eq_some_iff.1 h5).1
      omega
  · have h5 : w.heap[k]? = some w.heap[k] := Array.getElem?_eq_getElem hk
    rw [h4 k _ h5, h5]
section opn
variable {H : Type} {enc : TypeId × Value → H} {P : Program} {w : World} {α : Type}
/-- what reads at this type is a thing of this kind -/
def Opn (enc : TypeId × Value → H) (P : Program) (w : World) (T : Ty α) (t : TypeId) : Prop := ∀ (base : Nat) (spare : Nat → Bool) (held : Bool) (fuel : Nat) (cs : List Value) (d : DataW H) (ps : List MemPlace),
  DataW.trod enc P w base spare held fuel t cs = some (d, ps) → (∀ n ∈ d.weights P t, n ≤ reachBytes) → ∃ x : α, cs = T.enc x ∧ T.ok (mhOf w) x
theorem wf_i64 {n : Int} (h : (Lit.int .i64 n).wf = true) : inI64 n := by
  simp [Lit.wf] at h
  have h1 : IntKind.i64.min = -9223372036854775808 := by decide
  have h2 : IntKind.i64.max = 9223372036854775807 := by decide
  exact h
theorem wf_u64 {n : Int} (h : (Lit.int .u64 n).wf = true) : inU64 n := by
  simp [Lit.wf] at h
  have h1 : IntKind.u64.min = 0 := by decide
  have h2 : IntKind.u64.max = 18446744073709551615 := by decide
  exact h
theorem opn_int {t : TypeId} (hu : P.underlying t = some (.int .i64)) : Opn enc P w TInt t := fun base spare held fuel cs d ps h _ => by
  obtain ⟨n, rfl, _, hn⟩ := DataW.trod_int hu h
  exact ⟨n, rfl, wf_i64 hn⟩
theorem list_of {α : Type} {p : Nat → α → Prop} : ∀ n, (∀ i, i < n → ∃ x, p i x) → ∃ xs : List α, xs.length = n ∧ ∀ i x, xs[i]? = some x → p i x
  | 0, _ => ⟨[], rfl, fun i x h => by simp at h⟩
  | n + 1, h => by
    obtain ⟨xs, h1, h2⟩ := list_of n fun i hi => h i (by omega)
    obtain ⟨x, hx⟩ := h n (by omega)
    refine ⟨xs ++ [x], by simp [h1], fun i y hy => ?_⟩
    by_cases hi : i < xs.length
    · rw [List.getElem?_append_left hi] at hy; exact h2 i y hy
    · rw [List.getElem?_append_right (by omega)] at hy
      have : i - xs.length = 0 := by
        rcases Nat.eq_zero_or_pos (i - xs.length) with h | h
        · exact h
        · rw [List.getElem?_eq_none (by simp; omega)] at hy; cases hy
      rw [this] at hy
      simp only [List.getElem?_cons_zero, Option.some.injEq] at hy
      subst hy
      have : i = n := by omega
      rw [this]; exact hx
theorem mapM_get {β γ : Type} {f : β → Option γ} : ∀ {l : List β} {r : List γ}, l.mapM f = some r → ∀ (i : Nat) (b : β), l[i]? = some b → f b = r[i]?
  | [], r, h, i, b, hb => by simp at hb
  | a :: l, r, h, i, b, hb => by
    rw [List.mapM_cons] at h
    simp only [Option.bind_eq_bind, Option.bind_eq_some_iff, Option.pure_def, Option.some.injEq] at h
    obtain ⟨c, hc, r', hr, rfl⟩ := h
    cases i with
    | zero => simp only [List.getElem?_cons_zero, Option.some.injEq] at hb; subst hb; simp [hc]
    | succ i => simp only [List.getElem?_cons_succ] at hb ⊢; exact mapM_get hr i b hb
theorem cells_get {base n : Nat} {a : Addr} {cs : List Value} (h : w.cells? base a n = some cs) (k : Nat) (hk : k < n) : w.cell? (a.add k) = cs[k]? := by
  unfold World.cells? at h
  split at h
  · exact mapM_get h k k (by simp [hk])
  · cases h
theorem weightsAll_mem' {e : TypeId} : ∀ {l : List (DataW H)} {d : DataW H}, d ∈ l → ∀ n ∈ d.weights P e, n ∈ DataW.weightsAll P e l
  | [], d, h => by cases h
  | x :: r, d, h => fun n hn => by
    unfold DataW.weightsAll
    rcases List.mem_cons.1 h with rfl | h
    · exact List.mem_append_left _ hn
    · exact List.mem_append_right _ (weightsAll_mem' h n hn)
theorem cell_at {a : Addr} {v : Value} (h : w.cell? a = some v) : a.spot = none ∧ ∃ cs e fr, w.heap[a.block]? = some (.cells cs e fr) ∧ cs[a.off]? = some v := by
  unfold World.cell? at h
  split at h
  · rename_i c e fr hb
    split at h
    · cases h
    · rename_i hs
      exact ⟨by cases hq : a.spot with | none => rfl | some x => rw [hq] at hs; simp at hs, c, e, fr, hb, h⟩
  · cases h
theorem opn_slice {T : Ty α} {t e : TypeId} (hu : P.underlying t = some (.slice e)) (hsz : P.cellsOf e = T.size) (hpos : 0 < T.size) (hby : 8 ≤ P.bytesOf e) (ho : Opn enc P w T e) {base : Nat} {spare : Nat → Bool} {held : Bool} {fuel : Nat} {cs : List Value} {d : DataW H} {ps : List MemPlace}
    (h : DataW.trod enc P w base spare held fuel t cs = some (d, ps)) (hw : ∀ n ∈ d.weights P t, n ≤ reachBytes) : ∃ s : Sl α, cs = [s.val] ∧ Rd T s (mhOf w) := by
  rcases DataW.trod_slice hu h with ⟨rfl, _⟩ | ⟨a, len, cap, elems, rest, n, _, rfl, hx, hb, hl, hm, hlen, hel, _, _⟩
  · exact ⟨Sl.nil, rfl, rd_nilT T _⟩
  · simp only [Prod.mk.injEq] at hx
    obtain ⟨rfl, _⟩ := hx
    have hw1 : (elems.length + rest.length) * P.bytesOf e ≤ reachBytes := hw _ (by unfold DataW.weights; rw [hu]; simp)
    have hw2 : ∀ d' ∈ elems.map (·.1), ∀ n ∈ d'.weights P e, n ≤ reachBytes := fun d' hd n hn => hw n (by
      unfold DataW.weights; rw [hu]
      exact List.mem_cons_of_mem _ (List.mem_append_left _ (weightsAll_mem' hd n hn)))
    obtain ⟨xs, hxl, hxs⟩ := list_of (p := fun i (x : α) => w.cells? base (a.add (i * P.cellsOf e)) (P.cellsOf e) = some (T.enc x) ∧ T.ok (mhOf w) x) len fun i hi => by
      have h1 := hel i hi
      have h2 : elems[i]? = some elems[i] := List.getElem?_eq_getElem (by omega)
      rw [h2] at h1
      rw [Option.bind_eq_some_iff] at h1
      obtain ⟨cs', h3, h4⟩ := h1
      obtain ⟨x, rfl, hx⟩ := ho base spare held n cs' elems[i].1 elems[i].2 h4 (hw2 _ (List.mem_map.2 ⟨_, List.getElem_mem .., rfl⟩))
      exact ⟨x, h3, hx⟩
    have hlb : xs.length ≤ big := by
      have hr := reachBytes_lt
      have h1 : len * 8 ≤ reachBytes := Nat.le_trans (Nat.le_trans (Nat.mul_le_mul (by omega : len ≤ elems.length + rest.length) hby) (Nat.le_refl _)) hw1
      have := big_is
      omega
    refine ⟨⟨some a, cap, xs⟩, by simp [Sl.val, hxl], by show xs.length ≤ cap; omega, hlb, fun x hx => ?_, ?_⟩
    · obtain ⟨i, hi, rfl⟩ := List.mem_iff_getElem.1 hx
      exact (hxs i _ (List.getElem?_eq_getElem hi)).2
    · rcases hxe : xs with _ | ⟨x0, r⟩
      · left; rfl
      · right
        have hcell : ∀ i x k v, xs[i]? = some x → (T.enc x)[k]? = some v → w.cell? ((a.add (i * T.size)).add k) = some v := fun i x k v hx hv => by
          have h1 := (hxs i x hx).1
          rw [hsz] at h1
          have hk : k < T.size := by
            rcases Nat.lt_or_ge k T.size with h | h
            · exact h
            · rw [List.getElem?_eq_none (by rw [T.len]; exact h)] at hv; cases hv
          rw [cells_get h1 k hk]; exact hv
        have h00 : ∃ v, (T.enc x0)[0]? = some v := ⟨_, List.getElem?_eq_getElem (by rw [T.len]; exact hpos)⟩
        obtain ⟨v0, hv0⟩ := h00
        have hc0 := hcell 0 x0 0 v0 (by rw [hxe]; rfl) hv0
        have ez : (a.add (0 * T.size)).add 0 = a := by rw [Nat.zero_mul]; simp [Addr.add]
        rw [ez] at hc0
        obtain ⟨hsp', c0, e0, fr0, hb0', _⟩ := cell_at hc0
        have ea : ∀ p q : Nat, (a.add p).add q = ⟨a.block, a.off + p + q, none⟩ := fun p q => by
          obtain ⟨ab, ao, as⟩ := a
          simp only at hsp'
          subst hsp'
          rw [add_at, add_at]
        refine ⟨a, c0, e0, fr0, rfl, hsp', hb0', fun j v hj => ?_⟩
        rw [← hxe] at hj
        have hjl : j < xs.length * T.size := by
          rcases Nat.lt_or_ge j (xs.length * T.size) with h | h
          · exact h
          · rw [List.getElem?_eq_none (by rw [flat_length]; exact h)] at hj; cases hj
        have hdiv : j / T.size < xs.length := Nat.div_lt_of_lt_mul (by rw [Nat.mul_comm]; exact hjl)
        have hmod : j % T.size < T.size := Nat.mod_lt _ hpos
        have hx : xs[j / T.size]? = some xs[j / T.size] := List.getElem?_eq_getElem hdiv
        have hv' : (T.enc xs[j / T.size])[j % T.size]? = some ((T.enc xs[j / T.size])[j % T.size]'(by rw [T.len]; exact hmod)) := List.getElem?_eq_getElem _
        have hj2 := flat_get T xs (j / T.size) (j % T.size) _ _ hx hv'
        have hje : j / T.size * T.size + j % T.size = j := by rw [Nat.mul_comm]; exact Nat.div_add_mod j T.size
        rw [hje, hj] at hj2
        have hc := hcell _ _ _ _ hx hv'
        rw [ea] at hc
        obtain ⟨_, c1, e1, fr1, hb1, hc1⟩ := cell_at hc
        have hb1' : w.heap[a.block]? = some (.cells c1 e1 fr1) := hb1
        rw [hb0'] at hb1'
        simp only [Option.some.injEq, Obj.cells.injEq] at hb1'
        obtain ⟨rfl, _, _⟩ := hb1'
        have hc1' : c0[a.off + j / T.size * T.size + j % T.size]? = some _ := hc1
        rw [Nat.add_assoc, hje] at hc1'
        rw [hc1']; exact hj2.symm
theorem opn_u64 {t : TypeId} (hu : P.underlying t = some (.int .u64)) : ∀ (base : Nat) (spare : Nat → Bool) (held : Bool) (fuel : Nat) (cs : List Value) (d : DataW H) (ps : List MemPlace),
    DataW.trod enc P w base spare held fuel t cs = some (d, ps) → (∀ n ∈ d.weights P t, n ≤ reachBytes) → ∃ x : Int, cs = [.int .u64 x] ∧ inU64 x := fun base spare held fuel cs d ps h _ => by
  obtain ⟨n, rfl, _, hn⟩ := DataW.trod_int hu h
  exact ⟨n, rfl, wf_u64 hn⟩
def structB (P : Program) (t : TypeId) (l : List (Nat × Nat × Nat)) : Bool := match P.underlying t with
  | some (.struct fs) => decide (fs.toList.map (fun f => (f.type, f.offset, P.cellsOf f.type)) = l)
  | _ => false
theorem struct_part {t : TypeId} {m : Nat} (l : List (Nat × Nat × Nat)) (hl : structB P t l = true) (hm : P.cellsOf t = m) {base : Nat} {spare : Nat → Bool} {held : Bool} {fuel : Nat} {cs : List Value} {d : DataW H} {ps : List MemPlace}
    (h : DataW.trod enc P w base spare held fuel t cs = some (d, ps)) (hw : ∀ n ∈ d.weights P t, n ≤ reachBytes) :
    cs.length = m ∧ ∀ (i : Nat) (x : Nat × Nat × Nat), l[i]? = some x → ∃ n d' p', DataW.trod enc P w base spare held n x.1 ((cs.drop x.2.1).take x.2.2) = some (d', p') ∧ ∀ k ∈ d'.weights P x.1, k ≤ reachBytes := by
  unfold structB at hl
  split at hl
  · rename_i fs hu
    have hl' := of_decide_eq_true hl
    obtain ⟨xs, n, _, hx, hlen, hsz, hf⟩ := DataW.trod_struct hu h
    simp only [Prod.mk.injEq] at hx
    obtain ⟨rfl, _⟩ := hx
    refine ⟨by rw [← hm]; exact hlen, fun i x hi => ?_⟩
    rw [← hl', List.getElem?_map, Option.map_eq_some_iff] at hi
    obtain ⟨f, hfi, rfl⟩ := hi
    have hfi' : fs[i]? = some f := by rw [← Array.getElem?_toList]; exact hfi
    have h1 := hf i f hfi'
    have hilt : i < xs.length := by rw [hsz]; exact (Array.getElem?_eq_some_iff.1 hfi').1
    rw [List.getElem?_eq_getElem hilt] at h1
    refine ⟨n, xs[i].1, xs[i].2, h1, fun k hk => hw k ?_⟩
    unfold DataW.weights
    rw [hu]
    exact DataW.weights_mem_each (j := i) (t := f.type) (d := xs[i].1) (by rw [List.getElem?_map, hfi]; rfl) (by rw [List.getElem?_map, List.getElem?_eq_getElem hilt]; rfl) k hk
  · cases hl
end opn
end Go.Proofs.Ytlkmcdijioiddaa
