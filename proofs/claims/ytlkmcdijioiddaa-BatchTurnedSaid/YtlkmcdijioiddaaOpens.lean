/- What reads at a struct's type is a thing of its kind. Printed by a program of this project (wip/opens.py). Not a proof of any statement by itself. -/
import Derived.Test.YtlkmcdijioiddaaOpen
import Derived.Test.YtlkmcdijioiddaaProg
namespace Go.Proofs.Ytlkmcdijioiddaa
set_option linter.unusedSimpArgs false
open Go.RowKit
set_option linter.unusedVariables false
set_option maxRecDepth 100000
section opns
variable {H : Type} {enc : TypeId × Value → H} {w : World}
theorem opn_Point : Opn enc Try.prog w TPoint 65 := fun base spare held fuel cs d ps h hw => by
  obtain ⟨hlen, hp⟩ := struct_part (P := Try.prog) (m := 2) [(3, 0, 1), (3, 1, 1)] (by kernel_rfl) (by kernel_rfl) h hw
  match cs, hlen with
  | [c0, c1], _ =>
    obtain ⟨_, _, _, t0, w0⟩ := hp 0 _ rfl
    obtain ⟨x0, e0, k0⟩ := (opn_int (P := Try.prog) (t := 3) (by kernel_rfl)) _ _ _ _ _ _ _ t0 w0
    obtain ⟨_, _, _, t1, w1⟩ := hp 1 _ rfl
    obtain ⟨x1, e1, k1⟩ := (opn_int (P := Try.prog) (t := 3) (by kernel_rfl)) _ _ _ _ _ _ _ t1 w1
    refine ⟨⟨x0, x1⟩, ?_, ⟨k0, k1⟩⟩
    have hc : [c0, c1] = [c0] ++ [c1] := rfl
    rw [hc]
    rw [show [c0] = _ from e0]
    rw [show [c1] = _ from e1]
    rfl
theorem opn_Spec : Opn enc Try.prog w TSpec 67 := fun base spare held fuel cs d ps h hw => by
  obtain ⟨hlen, hp⟩ := struct_part (P := Try.prog) (m := 9) [(3, 0, 1), (3, 1, 1), (63, 2, 1), (63, 3, 1), (65, 4, 2), (65, 6, 2), (27, 8, 1)] (by kernel_rfl) (by kernel_rfl) h hw
  match cs, hlen with
  | [c0, c1, c2, c3, c4, c5, c6, c7, c8], _ =>
    obtain ⟨_, _, _, t0, w0⟩ := hp 0 _ rfl
    obtain ⟨x0, e0, k0⟩ := (opn_int (P := Try.prog) (t := 3) (by kernel_rfl)) _ _ _ _ _ _ _ t0 w0
    obtain ⟨_, _, _, t1, w1⟩ := hp 1 _ rfl
    obtain ⟨x1, e1, k1⟩ := (opn_int (P := Try.prog) (t := 3) (by kernel_rfl)) _ _ _ _ _ _ _ t1 w1
    obtain ⟨_, _, _, t2, w2⟩ := hp 2 _ rfl
    obtain ⟨x2, e2, k2⟩ := (opn_u64 (P := Try.prog) (t := 63) (by kernel_rfl)) _ _ _ _ _ _ _ t2 w2
    obtain ⟨_, _, _, t3, w3⟩ := hp 3 _ rfl
    obtain ⟨x3, e3, k3⟩ := (opn_u64 (P := Try.prog) (t := 63) (by kernel_rfl)) _ _ _ _ _ _ _ t3 w3
    obtain ⟨_, _, _, t4, w4⟩ := hp 4 _ rfl
    obtain ⟨x4, e4, k4⟩ := (opn_Point) _ _ _ _ _ _ _ t4 w4
    obtain ⟨_, _, _, t5, w5⟩ := hp 5 _ rfl
    obtain ⟨x5, e5, k5⟩ := (opn_Point) _ _ _ _ _ _ _ t5 w5
    obtain ⟨_, _, _, t6, w6⟩ := hp 6 _ rfl
    obtain ⟨x6, e6, k6⟩ := opn_slice (P := Try.prog) (T := TInt) (t := 27) (e := 3) (by kernel_rfl) (by kernel_rfl) (by decide) (of_decide_eq_true (by kernel_rfl)) (opn_int (P := Try.prog) (t := 3) (by kernel_rfl)) t6 w6
    refine ⟨⟨x0, x1, x2, x3, x4, x5, x6⟩, ?_, ⟨k0, k1, k2, k3, k4, k5, k6⟩⟩
    have hc : [c0, c1, c2, c3, c4, c5, c6, c7, c8] = [c0] ++ [c1] ++ [c2] ++ [c3] ++ [c4, c5] ++ [c6, c7] ++ [c8] := rfl
    rw [hc]
    rw [show [c0] = _ from e0]
    rw [show [c1] = _ from e1]
    rw [show [c2] = _ from e2]
    rw [show [c3] = _ from e3]
    rw [show [c4, c5] = _ from e4]
    rw [show [c6, c7] = _ from e5]
    rw [show [c8] = _ from e6]
    rfl
theorem opns_Spec {base : Nat} {spare : Nat → Bool} {held : Bool} {fuel : Nat} {cs : List Value} {d : DataW H} {ps : List MemPlace} (h : DataW.trod enc Try.prog w base spare held fuel 56 cs = some (d, ps)) (hw : ∀ n ∈ d.weights Try.prog 56, n ≤ reachBytes) : ∃ s : Sl GSpec, cs = [s.val] ∧ Rd TSpec s (mhOf w) :=
  opn_slice (P := Try.prog) (T := TSpec) (t := 56) (e := 67) (by kernel_rfl) (by kernel_rfl) (by decide) (of_decide_eq_true (by kernel_rfl)) opn_Spec h hw
theorem opn_Task : Opn enc Try.prog w TTask 71 := fun base spare held fuel cs d ps h hw => by
  obtain ⟨hlen, hp⟩ := struct_part (P := Try.prog) (m := 14) [(67, 0, 9), (3, 9, 1), (3, 10, 1), (3, 11, 1), (3, 12, 1), (27, 13, 1)] (by kernel_rfl) (by kernel_rfl) h hw
  match cs, hlen with
  | [c0, c1, c2, c3, c4, c5, c6, c7, c8, c9, c10, c11, c12, c13], _ =>
    obtain ⟨_, _, _, t0, w0⟩ := hp 0 _ rfl
    obtain ⟨x0, e0, k0⟩ := (opn_Spec) _ _ _ _ _ _ _ t0 w0
    obtain ⟨_, _, _, t1, w1⟩ := hp 1 _ rfl
    obtain ⟨x1, e1, k1⟩ := (opn_int (P := Try.prog) (t := 3) (by kernel_rfl)) _ _ _ _ _ _ _ t1 w1
    obtain ⟨_, _, _, t2, w2⟩ := hp 2 _ rfl
    obtain ⟨x2, e2, k2⟩ := (opn_int (P := Try.prog) (t := 3) (by kernel_rfl)) _ _ _ _ _ _ _ t2 w2
    obtain ⟨_, _, _, t3, w3⟩ := hp 3 _ rfl
    obtain ⟨x3, e3, k3⟩ := (opn_int (P := Try.prog) (t := 3) (by kernel_rfl)) _ _ _ _ _ _ _ t3 w3
    obtain ⟨_, _, _, t4, w4⟩ := hp 4 _ rfl
    obtain ⟨x4, e4, k4⟩ := (opn_int (P := Try.prog) (t := 3) (by kernel_rfl)) _ _ _ _ _ _ _ t4 w4
    obtain ⟨_, _, _, t5, w5⟩ := hp 5 _ rfl
    obtain ⟨x5, e5, k5⟩ := opn_slice (P := Try.prog) (T := TInt) (t := 27) (e := 3) (by kernel_rfl) (by kernel_rfl) (by decide) (of_decide_eq_true (by kernel_rfl)) (opn_int (P := Try.prog) (t := 3) (by kernel_rfl)) t5 w5
    refine ⟨⟨x0, x1, x2, x3, x4, x5⟩, ?_, ⟨k0, k1, k2, k3, k4, k5⟩⟩
    have hc : [c0, c1, c2, c3, c4, c5, c6, c7, c8, c9, c10, c11, c12, c13] = [c0, c1, c2, c3, c4, c5, c6, c7, c8] ++ [c9] ++ [c10] ++ [c11] ++ [c12] ++ [c13] := rfl
    rw [hc]
    rw [show [c0, c1, c2, c3, c4, c5, c6, c7, c8] = _ from e0]
    rw [show [c9] = _ from e1]
    rw [show [c10] = _ from e2]
    rw [show [c11] = _ from e3]
    rw [show [c12] = _ from e4]
    rw [show [c13] = _ from e5]
    rfl
theorem opns_Task {base : Nat} {spare : Nat → Bool} {held : Bool} {fuel : Nat} {cs : List Value} {d : DataW H} {ps : List MemPlace} (h : DataW.trod enc Try.prog w base spare held fuel 55 cs = some (d, ps)) (hw : ∀ n ∈ d.weights Try.prog 55, n ≤ reachBytes) : ∃ s : Sl GTask, cs = [s.val] ∧ Rd TTask s (mhOf w) :=
  opn_slice (P := Try.prog) (T := TTask) (t := 55) (e := 71) (by kernel_rfl) (by kernel_rfl) (by decide) (of_decide_eq_true (by kernel_rfl)) opn_Task h hw
theorem opns_Int {base : Nat} {spare : Nat → Bool} {held : Bool} {fuel : Nat} {cs : List Value} {d : DataW H} {ps : List MemPlace} (h : DataW.trod enc Try.prog w base spare held fuel 27 cs = some (d, ps)) (hw : ∀ n ∈ d.weights Try.prog 27, n ≤ reachBytes) : ∃ s : Sl Int, cs = [s.val] ∧ Rd TInt s (mhOf w) :=
  opn_slice (P := Try.prog) (T := TInt) (t := 27) (e := 3) (by kernel_rfl) (by kernel_rfl) (by decide) (of_decide_eq_true (by kernel_rfl)) (opn_int (P := Try.prog) (t := 3) (by kernel_rfl)) h hw
end opns
end Go.Proofs.Ytlkmcdijioiddaa
