/- The row of BatchTurned: what came in is opened, the walk's word is carried over. -/
import Derived.Test.YtlkmcdijioiddaaRows
import Derived.WalkKit
import Derived.ProofKit
import Derived.OpenShut
import Derived.ChangeOld
import Derived.Below
import Derived.Test.YtlkmcdijioiddaaTurnW
import Derived.Test.YtlkmcdijioiddaaOpens
namespace Go.Proofs.Ytlkmcdijioiddaa
set_option linter.unusedSimpArgs false
open Go.ChangeShapes Go.WideShapes Go.ChangeAt Go.RowKit
set_option linter.unusedVariables false
theorem btOwn : ownKnob Try.prog.godebug = none := by kernel_rfl
theorem btLaid : laidOutB Try.prog = true := by kernel_rfl
theorem btParams : Try.f4.params = #[3, 55, 56, 5] := by kernel_rfl

theorem wf_u8 {n : Int} (h : (Lit.int .u8 n).wf = true) : 0 ≤ n ∧ n ≤ 255 := by
  simp [Lit.wf] at h
  have h1 : IntKind.u8.min = 0 := by decide
  have h2 : IntKind.u8.max = 255 := by decide
  omega

set_option maxRecDepth 100000 in
theorem btLifted (os : Os) (started : os.Started) (H : Type) (enc : TypeId × Value → H) :
    ReturnsInHanded {} Try.checked os 4 .any (Rows.batchTurnedSpec.pre6 enc Try.prog Try.f4 Rows.batchTurnedRow.domain false) (Rows.batchTurnedSpec.post enc Try.prog Try.f4 false true false false) := by
  refine returnsInHanded_of_change_sized (C := Try.checked) btOwn started (by kernel_rfl) Try.func4
    (ChangeSpec.witness6 (enc := enc) (C := Try.checked) false ⟨#[], #[.int .i64 0, .slice none 0 0, .slice none 0 0, .int .u8 0], []⟩ 8 (by kernel_rfl) (by kernel_rfl) (by kernel_rfl) (by kernel_rfl)) ?_
  intro W base args ds gs before hval0 hW hcnd hsz0 _
  have hval : ∀ (j : Nat) t v, Try.f4.params[j]? = some t → args[j]? = some v → Value.okWide Try.prog W .any base t v := hval0
  have hsz1 : (DataW.weightsEach Try.prog (Try.f4.params.toList ++ []) (ds ++ gs)).all (· ≤ reachBytes) = true := hsz0
  have hW' := hW
  obtain ⟨p, q, hA0, hV, rfl, hfz, hnd⟩ := hW
  have hA : DataW.TrodAll enc Try.prog W 0 (fun _ => true) true Try.f4.params.toList args.toList ds p := hA0
  rw [btParams] at hA hval hsz1
  obtain ⟨v0, vs0, d0, ds0, p0, q0, hargs, rfl, rfl, h0, t0⟩ := trodAll_cons hA
  obtain ⟨v1, vs1, d1, ds1, p1, q1, rfl, rfl, rfl, h1, t1⟩ := trodAll_cons t0
  obtain ⟨v2, vs2, d2, ds2, p2, q2, rfl, rfl, rfl, h2, t2⟩ := trodAll_cons t1
  obtain ⟨v3, vs3, d3, ds3, p3, q3, rfl, rfl, rfl, h3, t3⟩ := trodAll_cons t2
  obtain ⟨rfl, rfl, rfl⟩ := trodAll_nil t3
  obtain rfl : args = #[v0, v1, v2, v3] := by cases args; simp_all
  obtain ⟨rfl, rfl⟩ := trodVars_none hV
  have hwt : ∀ (j : Nat) t d, ([3, 55, 56, 5] : List Nat)[j]? = some t → [d0, d1, d2, d3][j]? = some d → ∀ n ∈ d.weights Try.prog t, n ≤ reachBytes := fun j t d ht hd n hn => by
    have := List.all_eq_true.1 hsz1 n (DataW.weights_mem_each (j := j) (t := t) (d := d) (by simpa using ht) (by simpa using hd) n hn)
    simpa using this
  have k1 := h1
  have lt1 : ∀ x ∈ p1, x.block < W.heap.size := by obtain ⟨m, hm⟩ := k1; exact DataW.trod_lt m _ _ _ hm
  have k2 := h2
  have lt2 : ∀ x ∈ p2, x.block < W.heap.size := by obtain ⟨m, hm⟩ := k2; exact DataW.trod_lt m _ _ _ hm
  obtain ⟨a0, rfl, rfl, rfl, w0⟩ := open_int (P := Try.prog) (t := 3) (k := .i64) (by kernel_rfl) (hval 0 3 v0 rfl rfl) h0
  obtain ⟨a3, rfl, rfl, rfl, w3⟩ := open_int (P := Try.prog) (t := 5) (k := .u8) (by kernel_rfl) (hval 3 5 v3 rfl rfl) h3
  obtain ⟨b1, l1, c1, rfl⟩ := okWide_slice (P := Try.prog) (t := 55) (e := 71) (by kernel_rfl) (hval 1 55 v1 rfl rfl)
  obtain ⟨b2, l2, c2, rfl⟩ := okWide_slice (P := Try.prog) (t := 56) (e := 67) (by kernel_rfl) (hval 2 56 v2 rfl rfl)
  obtain ⟨s1, e1, r1⟩ : ∃ s : Sl GTask, [Value.slice b1 l1 c1] = [s.val] ∧ Rd TTask s (mhOf W) := by
    obtain ⟨fuel, hf⟩ := h1
    exact opns_Task hf (hwt 1 _ _ rfl rfl)
  obtain ⟨s2, e2, r2⟩ : ∃ s : Sl GSpec, [Value.slice b2 l2 c2] = [s.val] ∧ Rd TSpec s (mhOf W) := by
    obtain ⟨fuel, hf⟩ := h2
    exact opns_Spec hf (hwt 2 _ _ rfl rfl)
  replace e1 : Value.slice b1 l1 c1 = s1.val := by simpa using e1
  rw [e1] at k1 hW' ⊢
  replace e2 : Value.slice b2 l2 c2 = s2.val := by simpa using e2
  rw [e2] at k2 hW' ⊢
  have hs : sats ⟨W.os, W.tape, W.output⟩ W ([per (Rd TTask s1), per (Rd TSpec s2)] ++ [per (fun M => M = mhOf W)]) := by
    have g := sats_start W
    replace g := (per_of r2 g).perm (List.Perm.swap _ _ _)
    replace g := (per_of r1 g).perm (List.Perm.swap _ _ _)
    exact g.perm (List.perm_append_comm (l₁ := [_]) (l₂ := [_, _]))
  refine (calls_law (S_law23_BatchTurned a0 s1 s2 a3 (by have := r1.2.1; have := big_is; omega) (by have := r2.2.1; have := big_is; omega) (wf_u8 w3).1 (wf_u8 w3).2) hs).mono fun e W' ⟨he, bel⟩ => ?_
  subst he
  have z1 := Below.trod btLaid (by kernel_rfl) (of_decide_eq_true (by kernel_rfl)) k1 bel lt1
  have z2 := Below.trod btLaid (by kernel_rfl) (of_decide_eq_true (by kernel_rfl)) k2 bel lt2
  exact ⟨_, rfl, _, _, _, [], _, [], hW', trodAll_mk1 (shut_bool (P := Try.prog) (t := 4) (by kernel_rfl) _), (trodAll_cons_mk (shut_int (P := Try.prog) (t := 3) (k := .i64) (by kernel_rfl) w0) (trodAll_cons_mk z1 (trodAll_cons_mk z2 (trodAll_cons_mk (shut_int (P := Try.prog) (t := 5) (k := .u8) (by kernel_rfl) w3) trodAll_mk0)))), rfl, bel.frame _, fun h => by cases h⟩
set_option maxRecDepth 100000 in
theorem btOver : Rows.batchTurnedRow.holds Try.pinned (OpenSpec.ofChange Rows.batchTurnedSpec) :=
  OpenClaim.holds_of_wide 4 Try.f4 rfl rfl rfl rfl rfl rfl rfl ⟨rfl, rfl, rfl, rfl, rfl⟩ rfl rfl rfl rfl rfl (by kernel_rfl) Try.func4 (by kernel_rfl)
    (of_decide_eq_true (by kernel_rfl)) (by unfold Func.isWrapper; first | (rw [if_pos (by decide +kernel)]; kernel_rfl) | (rw [if_neg (by decide +kernel)]; exact ⟨rfl, rfl⟩))
    (fun os started H enc _ => btLifted os started H enc)
theorem batchTurned_proved : Rows.BatchTurnedSaid := btOver
#print axioms batchTurned_proved
end Go.Proofs.Ytlkmcdijioiddaa
