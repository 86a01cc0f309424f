/- Contracts of functions of the program, walked step by step. Not a proof of any statement by itself. -/
import Derived.Test.YtlkmcdijioiddaaMem
import Derived.Test.YtlkmcdijioiddaaProg
namespace Go.Proofs.Ytlkmcdijioiddaa
open Go.RowKit
set_option linter.unusedVariables false
set_option linter.unusedSimpArgs false
set_option maxRecDepth 100000

/-- each number is above the one ahead of it -/
def rises : List Int → Bool
  | [] => true
  | [_] => true
  | a :: b :: r => decide (a < b) && rises (b :: r)
def risesTo (l : List Int) (i : Int) : Prop := ∀ j : Int, 1 ≤ j → j < i → gi l (j - 1) < gi l j
theorem risesTo_one (l : List Int) : risesTo l 1 := fun j h1 h2 => by omega
theorem risesTo_succ {l : List Int} {i : Int} (h : risesTo l i) (h2 : gi l (i - 1) < gi l i) : risesTo l (i + 1) := fun j h1 h3 => by
  by_cases e : j = i
  · subst e; exact h2
  · exact h j h1 (by omega)
theorem gi_cons (a : Int) (r : List Int) (i : Int) (h : 0 ≤ i) : gi (a :: r) (i + 1) = gi r i := by
  unfold gi
  rw [show (i + 1).toNat = i.toNat + 1 by omega]; rfl
theorem rises_iff : ∀ (l : List Int), rises l = true ↔ risesTo l l.length
  | [] => ⟨fun _ j h1 h2 => by simp at h2; omega, fun _ => rfl⟩
  | [a] => ⟨fun _ j h1 h2 => by simp at h2; omega, fun _ => rfl⟩
  | a :: b :: r => by
    have ih := rises_iff (b :: r)
    simp only [rises, Bool.and_eq_true, decide_eq_true_eq]
    constructor
    · rintro ⟨h1, h2⟩ j h3 h4
      by_cases e : j = 1
      · subst e; exact h1
      · have h5 := ih.1 h2 (j - 1) (by omega) (by simp at h4 ⊢; omega)
        have e1 := gi_cons a (b :: r) (j - 1) (by omega)
        have e2 := gi_cons a (b :: r) (j - 1 - 1) (by omega)
        rw [show j - 1 + 1 = j by omega] at e1
        rw [show j - 1 - 1 + 1 = j - 1 by omega] at e2
        rw [e1, e2]; exact h5
    · intro h
      refine ⟨h 1 (by omega) (by simp; omega), ih.2 fun j h1 h2 => ?_⟩
      have h5 := h (j + 1) (by omega) (by simp at h2 ⊢; omega)
      have e1 := gi_cons a (b :: r) j (by omega)
      have e2 := gi_cons a (b :: r) (j - 1) (by omega)
      rw [show j - 1 + 1 = j by omega] at e2
      rw [show j + 1 - 1 = j by omega] at h5
      rw [e1, e2] at h5; exact h5
theorem rises_of {l : List Int} {i : Int} (h : risesTo l i) (hi : (l.length : Int) ≤ i) : rises l = true := (rises_iff l).2 fun j h1 h2 => h j h1 (by omega)
theorem rises_not {l : List Int} {i : Int} (h1 : 1 ≤ i) (h2 : i < l.length) (h : gi l i ≤ gi l (i - 1)) : rises l = false := by
  cases hr : rises l with
  | false => rfl
  | true => have := (rises_iff l).1 hr i h1 h2; omega


set_option maxHeartbeats 400000 in
theorem S_idset_Right (s : Sl Int) (hlen : s.xs.length ≤ 17592186044416) : Fn Try.prog 47 [s.val] [per (Rd TInt s)] (fun v_ S_ => v_ = .bool (rises s.xs) ∧ S_ []) := by
  refine fn_intro (m := 20) (gs := [(0, s.val)]) Try.func47 rfl rfl rfl rfl (fun t v h => gs_ok (by repeat (first | exact GsOk.nil | refine GsOk.cons (by rfl) ?_)) t v h) (fun F => per (Rd TInt s) :: F) (fun _ => rfl) (fun E F => ?_)
  refine wc_seq ?_
  refine wc_region ?_
  refine wl_q (q_assign rfl) rfl ?_
  refine wl_nil ?_
  refine wq_then ?_
  refine wc_jumpsE 0 rfl (γ := Int) (fun i => 1 ≤ i ∧ i ≤ max 1 (s.xs.length : Int) ∧ risesTo s.xs i) (fun i => [(0, s.val), (3, .int .i64 i)]) (fun i => per (Rd TInt s) :: F) (fun i => ((s.xs.length : Int) + 1 - i).toNat) (fun hround => ?_) ?_
  · skip
    refine wc_seq ?_
    refine wc_region ?_
    refine wl_q (q_assign rfl) rfl ?_
    refine wl_nil ?_
    refine wq_then ?_
    refine wc_seq ?_
    refine wc_label ?_
    refine wq_then ?_
    exact wc_enter hround (1) (⟨by omega, by omega, risesTo_one _⟩) (by repeat (first | exact Sub.nil | refine Sub.cons (by rfl) ?_)) (Ent.refl _)
  · rintro i ⟨hi1, hi2, hi3⟩
    refine wc_seq ?_
    refine wc_seq ?_
    refine wc_region ?_
    refine wl_q (q_move rfl) rfl ?_
    refine wl_q (q_move rfl) rfl ?_
    refine wl_q (q_len (e := 3) (by kernel_rfl) rfl) rfl ?_
    refine wl_q (q_geq rfl rfl) rfl ?_
    refine wl_nil ?_
    refine wq_then ?_
    refine wc_cond _ rfl (fun hc7 => ?_) (fun hc7 => ?_)
    · have hc7_ := hc7; try simp only [decide_eq_true_eq, decide_eq_false_iff_not, Bool.not_eq_true', Bool.not_eq_false', Decidable.not_not, Int.not_lt, Int.not_le, Bool.and_eq_true, Bool.or_eq_true] at hc7_
      refine wc_seq ?_
      refine wc_region ?_
      refine wl_q (q_assign rfl) rfl ?_
      refine wl_nil ?_
      refine wq_then ?_
      refine wc_ret ?_
      refine wq_then_ret ?_
      refine wq_jump_ret ?_
      refine wq_ret rfl (RVs.tmp rfl RVs.nil) (fun w_ hs_ => ?_)
      exact ⟨by rw [rises_of hi3 hc7_]; rfl, Split.use (by repeat (first | exact Split.nil | (apply Split.keep; · ((repeat constructor); first | done | fail)) | (apply Split.take; · ((repeat constructor); first | done | fail)) | apply Split.drop)) hs_⟩
    · have hc7_ := hc7; try simp only [decide_eq_true_eq, decide_eq_false_iff_not, Bool.not_eq_true', Bool.not_eq_false', Decidable.not_not, Int.not_lt, Int.not_le, Bool.and_eq_true, Bool.or_eq_true] at hc7_
      refine wc_skip ?_
      refine wq_then ?_
      refine wc_seq ?_
      refine wc_seq ?_
      refine wc_quiet (by kernel_rfl) (by kernel_rfl) ?_
      refine wlq_q (q_move rfl) rfl ?_
      refine wlq_q (q_move rfl) rfl ?_
      refine wlq_q (q_sub rfl rfl ⟨by omega, by omega⟩) rfl ?_
      refine wlq_q (by first | exact q_indexR (e := 3) (by kernel_rfl) (by kernel_rfl) rfl rfl (by ((repeat constructor); first | done | fail)) (by first | omega | (dsimp only; omega) | (simp only [Int.toNat_natCast, List.length_set, List.length_append, List.length_cons, List.length_nil] at *; omega)) (by first | omega | (dsimp only; omega) | (simp only [Int.toNat_natCast, List.length_set, List.length_append, List.length_cons, List.length_nil] at *; omega)) | exact q_indexO (e := 3) (by kernel_rfl) (by kernel_rfl) rfl rfl (by ((repeat constructor); first | done | fail)) (by first | omega | (dsimp only; omega) | (simp only [Int.toNat_natCast, List.length_set, List.length_append, List.length_cons, List.length_nil] at *; omega)) (by first | omega | (dsimp only; omega) | (simp only [Int.toNat_natCast, List.length_set, List.length_append, List.length_cons, List.length_nil] at *; omega))) rfl ?_
      refine wlq_q (by first | exact q_elemR1 (T := TInt) rfl (by kernel_rfl) (by ((repeat constructor); first | done | fail)) (gi_get (by omega) (by omega)) rfl | exact q_elemO1 (T := TInt) rfl (by kernel_rfl) (by ((repeat constructor); first | done | fail)) (gi_get (by omega) (by omega)) rfl) rfl ?_
      refine wlq_q (q_move rfl) rfl ?_
      refine wlq_q (q_move rfl) rfl ?_
      refine wlq_q (by first | exact q_indexR (e := 3) (by kernel_rfl) (by kernel_rfl) rfl rfl (by ((repeat constructor); first | done | fail)) (by first | omega | (dsimp only; omega) | (simp only [Int.toNat_natCast, List.length_set, List.length_append, List.length_cons, List.length_nil] at *; omega)) (by first | omega | (dsimp only; omega) | (simp only [Int.toNat_natCast, List.length_set, List.length_append, List.length_cons, List.length_nil] at *; omega)) | exact q_indexO (e := 3) (by kernel_rfl) (by kernel_rfl) rfl rfl (by ((repeat constructor); first | done | fail)) (by first | omega | (dsimp only; omega) | (simp only [Int.toNat_natCast, List.length_set, List.length_append, List.length_cons, List.length_nil] at *; omega)) (by first | omega | (dsimp only; omega) | (simp only [Int.toNat_natCast, List.length_set, List.length_append, List.length_cons, List.length_nil] at *; omega))) rfl ?_
      refine wlq_q (by first | exact q_elemR1 (T := TInt) rfl (by kernel_rfl) (by ((repeat constructor); first | done | fail)) (gi_get (by omega) (by omega)) rfl | exact q_elemO1 (T := TInt) rfl (by kernel_rfl) (by ((repeat constructor); first | done | fail)) (gi_get (by omega) (by omega)) rfl) rfl ?_
      refine wlq_q (q_lss rfl rfl) rfl ?_
      refine wlq_nil ?_
      refine wq_then ?_
      refine wc_cond _ rfl (fun hc17 => ?_) (fun hc17 => ?_)
      · have hc17_ := hc17; try simp only [decide_eq_true_eq, decide_eq_false_iff_not, Bool.not_eq_true', Bool.not_eq_false', Decidable.not_not, Int.not_lt, Int.not_le, Bool.and_eq_true, Bool.or_eq_true] at hc17_
        refine wc_seq ?_
        refine wc_region ?_
        refine wl_q (q_move rfl) rfl ?_
        refine wl_q (q_add rfl rfl ⟨by omega, by omega⟩) rfl ?_
        refine wl_q (q_assign rfl) rfl ?_
        refine wl_nil ?_
        refine wq_then ?_
        refine wc_goto ?_
        refine wq_then_goto ?_
        exact wq_jump_goto (i + 1) (⟨⟨by omega, by omega, risesTo_succ hi3 hc17_⟩, by omega⟩) (by repeat (first | exact Sub.nil | refine Sub.cons (by rfl) ?_)) (Ent.refl _)
      · have hc17_ := hc17; try simp only [decide_eq_true_eq, decide_eq_false_iff_not, Bool.not_eq_true', Bool.not_eq_false', Decidable.not_not, Int.not_lt, Int.not_le, Bool.and_eq_true, Bool.or_eq_true] at hc17_
        refine wc_skip ?_
        refine wq_then ?_
        refine wc_seq ?_
        refine wc_region ?_
        refine wl_q (q_assign rfl) rfl ?_
        refine wl_nil ?_
        refine wq_then ?_
        refine wc_ret ?_
        refine wq_jump_ret ?_
        refine wq_ret rfl (RVs.tmp rfl RVs.nil) (fun w_ hs_ => ?_)
        exact ⟨by rw [rises_not (by omega) (by omega) hc17_]; rfl, Split.use (by repeat (first | exact Split.nil | (apply Split.keep; · ((repeat constructor); first | done | fail)) | (apply Split.take; · ((repeat constructor); first | done | fail)) | apply Split.drop)) hs_⟩
end Go.Proofs.Ytlkmcdijioiddaa
