/- The row of BatchFull: what came in is opened, the walk's word is carried over. -/
import Derived.Test.YtlkmcdijioiddaaRows
import Derived.WalkKit
import Derived.ProofKit
import Derived.OpenShut
import Derived.ChangeOld
import Derived.Below
import Derived.Test.YtlkmcdijioiddaaBFull
import Derived.Test.YtlkmcdijioiddaaOpens
namespace Go.Proofs.Ytlkmcdijioiddaa
set_option linter.unusedSimpArgs false
open Go.ChangeShapes Go.WideShapes Go.ChangeAt Go.RowKit
set_option linter.unusedVariables false
theorem own : ownKnob Try.prog.godebug = none := by kernel_rfl
theorem laidOut : laidOutB Try.prog = true := by kernel_rfl
theorem bfParams : Try.f5.params = #[3, 55, 56] := by kernel_rfl
set_option maxRecDepth 100000 in
theorem bfLifted (os : Os) (started : os.Started) (H : Type) (enc : TypeId × Value → H) :
    ReturnsInHanded {} Try.checked os 5 .any (Rows.batchFullSpec.pre6 enc Try.prog Try.f5 Rows.batchFullRow.domain false) (Rows.batchFullSpec.post enc Try.prog Try.f5 false true false false) := by
  refine returnsInHanded_of_change_sized (C := Try.checked) own started (by kernel_rfl) Try.func5
    (ChangeSpec.witness6 (enc := enc) (C := Try.checked) false ⟨#[], #[.int .i64 0, .slice none 0 0, .slice none 0 0], []⟩ 8 (by kernel_rfl) (by kernel_rfl) (by kernel_rfl) (by kernel_rfl)) ?_
  intro W base args ds gs before hval0 hW hcnd hsz0 _
  have hval : ∀ (j : Nat) t v, Try.f5.params[j]? = some t → args[j]? = some v → Value.okWide Try.prog W .any base t v := hval0
  have hsz1 : (DataW.weightsEach Try.prog (Try.f5.params.toList ++ []) (ds ++ gs)).all (· ≤ reachBytes) = true := hsz0
  have hW' := hW
  obtain ⟨p, q, hA0, hV, rfl, hfz, hnd⟩ := hW
  have hA : DataW.TrodAll enc Try.prog W 0 (fun _ => true) true Try.f5.params.toList args.toList ds p := hA0
  rw [bfParams] at hA hval hsz1
  obtain ⟨v0, vs0, d0, ds0, p0, q0, hargs, rfl, rfl, h0, r0⟩ := trodAll_cons hA
  obtain ⟨v1, vs1, d1, ds1, p1, q1, rfl, rfl, rfl, h1, r1⟩ := trodAll_cons r0
  obtain ⟨v2, vs2, d2, ds2, p2, q2, rfl, rfl, rfl, h2, r2⟩ := trodAll_cons r1
  obtain ⟨rfl, rfl, rfl⟩ := trodAll_nil r2
  obtain rfl : args = #[v0, v1, v2] := by cases args; simp_all
  obtain ⟨rfl, rfl⟩ := trodVars_none hV
  have hwt : ∀ (j : Nat) t d, ([3, 55, 56] : List Nat)[j]? = some t → [d0, d1, d2][j]? = some d → ∀ n ∈ d.weights Try.prog t, n ≤ reachBytes := fun j t d ht hd n hn => by
    have := List.all_eq_true.1 hsz1 n (DataW.weights_mem_each (j := j) (t := t) (d := d) (by simpa using ht) (by simpa using hd) n hn)
    simpa using this
  have k1 := h1
  have lt1 : ∀ x ∈ p1, x.block < W.heap.size := by obtain ⟨m, hm⟩ := k1; exact DataW.trod_lt m _ _ _ hm
  have k2 := h2
  have lt2 : ∀ x ∈ p2, x.block < W.heap.size := by obtain ⟨m, hm⟩ := k2; exact DataW.trod_lt m _ _ _ hm
  obtain ⟨a0, rfl, rfl, rfl, w0⟩ := open_int (P := Try.prog) (t := 3) (k := .i64) (by kernel_rfl) (hval 0 3 v0 rfl rfl) h0
  obtain ⟨a1, l1, c1, rfl⟩ := okWide_slice (P := Try.prog) (t := 55) (e := 71) (by kernel_rfl) (hval 1 55 v1 rfl rfl)
  obtain ⟨a2, l2, c2, rfl⟩ := okWide_slice (P := Try.prog) (t := 56) (e := 67) (by kernel_rfl) (hval 2 56 v2 rfl rfl)
  obtain ⟨known, e1, hk⟩ : ∃ s : Sl GTask, [Value.slice a1 l1 c1] = [s.val] ∧ Rd TTask s (mhOf W) := by
    obtain ⟨fuel, hf⟩ := h1
    exact opns_Task hf (hwt 1 _ _ rfl rfl)
  obtain ⟨l, e2, hl⟩ : ∃ s : Sl GSpec, [Value.slice a2 l2 c2] = [s.val] ∧ Rd TSpec s (mhOf W) := by
    obtain ⟨fuel, hf⟩ := h2
    exact opns_Spec hf (hwt 2 _ _ rfl rfl)
  have e1' : Value.slice a1 l1 c1 = known.val := by simpa using e1
  have e2' : Value.slice a2 l2 c2 = l.val := by simpa using e2
  rw [e1'] at k1 hW' ⊢
  rw [e2'] at k2 hW' ⊢
  have hs : sats ⟨W.os, W.tape, W.output⟩ W ([per (Rd TTask known), per (Rd TSpec l)] ++ [per (fun M => M = mhOf W)]) := by
    have h3 := per_of hl (sats_start W)
    have h4 : sats ⟨W.os, W.tape, W.output⟩ W (per (fun M => M = mhOf W) :: [per (Rd TSpec l)]) := h3.perm (List.Perm.swap _ _ _)
    have h5 := per_of hk h4
    exact h5.perm ((List.Perm.swap _ _ _).cons _)
  refine (calls_law (S_law23_BatchFull a0 known l (by have := hk.2.1; have := big_is; omega) (by have := hl.2.1; have := big_is; omega)) hs).mono fun e W' ⟨he, bel⟩ => ?_
  subst he
  have b1 := Below.trod laidOut (by kernel_rfl) (of_decide_eq_true (by kernel_rfl)) k1 bel lt1
  have b2 := Below.trod laidOut (by kernel_rfl) (of_decide_eq_true (by kernel_rfl)) k2 bel lt2
  exact ⟨_, rfl, _, _, _, [], _, [], hW', trodAll_mk1 (shut_bool (P := Try.prog) (t := 4) (by kernel_rfl) _), (trodAll_cons_mk (shut_int (P := Try.prog) (t := 3) (k := .i64) (by kernel_rfl) w0) (trodAll_cons_mk b1 (trodAll_cons_mk b2 trodAll_mk0))), rfl, bel.frame _, fun h => by cases h⟩
theorem bfOver : Rows.batchFullRow.holds Try.pinned (OpenSpec.ofChange Rows.batchFullSpec) :=
  OpenClaim.holds_of_wide 5 Try.f5 rfl rfl rfl rfl rfl rfl rfl ⟨rfl, rfl, rfl, rfl, rfl⟩ rfl rfl rfl rfl rfl (by kernel_rfl) Try.func5 (by kernel_rfl)
    (of_decide_eq_true (by kernel_rfl)) (by unfold Func.isWrapper; first | (rw [if_pos (by decide +kernel)]; kernel_rfl) | (rw [if_neg (by decide +kernel)]; exact ⟨rfl, rfl⟩))
    (fun os started H enc _ => bfLifted os started H enc)
theorem batchFull_proved : Rows.BatchFullSaid := bfOver
#print axioms batchFull_proved
end Go.Proofs.Ytlkmcdijioiddaa
