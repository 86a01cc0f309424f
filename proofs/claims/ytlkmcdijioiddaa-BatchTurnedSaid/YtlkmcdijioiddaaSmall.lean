/- Contracts of functions of the program, walked step by step. Not a proof of any statement by itself. -/
import Derived.Test.YtlkmcdijioiddaaDraw
import Derived.Test.YtlkmcdijioiddaaIdset
import Derived.Test.YtlkmcdijioiddaaProg
namespace Go.Proofs.Ytlkmcdijioiddaa
open Go.RowKit
set_option linter.unusedVariables false
set_option linter.unusedSimpArgs false
set_option maxRecDepth 100000

theorem gi_of {l : List Int} {i : Nat} {x : Int} (h : l[i]? = some x) : gi l i = x := by
  unfold gi
  rw [List.getD_eq_getElem?_getD, Int.toNat_natCast, h]; rfl
theorem gi_mem {l : List Int} {i : Int} (h0 : 0 ≤ i) (h1 : i < l.length) : gi l i ∈ l := List.mem_of_getElem? (gi_get h0 h1)
/-- where a number stands, or -1 -/
def idxOf (l : List Int) (n : Int) : Int := match l.findIdx? (fun x => decide (n = x)) with | some i => (i : Int) | none => -1
theorem idxOf_none {l : List Int} {n : Int} (h : ∀ j : Int, 0 ≤ j → j < l.length → gi l j ≠ n) : idxOf l n = -1 := by
  unfold idxOf
  have : l.findIdx? (fun x => decide (n = x)) = none := by
    rw [List.findIdx?_eq_none_iff]
    intro x hx
    obtain ⟨i, hi, rfl⟩ := List.mem_iff_getElem.1 hx
    have := h i (by omega) (by omega)
    rw [gi_of (List.getElem?_eq_getElem hi)] at this
    simpa using fun e => this e.symm
  rw [this]
theorem idxOf_some {l : List Int} {n i : Int} (h0 : 0 ≤ i) (h1 : i < l.length) (h2 : gi l i = n) (h : ∀ j : Int, 0 ≤ j → j < i → gi l j ≠ n) : idxOf l n = i := by
  unfold idxOf
  have : l.findIdx? (fun x => decide (n = x)) = some i.toNat := by
    rw [List.findIdx?_eq_some_iff_getElem]
    refine ⟨by omega, ?_, fun j hj => ?_⟩
    · have := gi_get h0 h1
      rw [List.getElem?_eq_getElem (by omega)] at this
      simp only [Option.some.injEq] at this
      rw [this, h2]; simp
    · have := h j (by omega) (by omega)
      rw [gi_of (List.getElem?_eq_getElem (by omega))] at this
      simpa using fun e => this e.symm
  rw [this]; simp; omega
theorem idxOf_ge {l : List Int} {n : Int} : (0 ≤ idxOf l n) ↔ n ∈ l := by
  unfold idxOf
  cases h : l.findIdx? (fun x => decide (n = x)) with
  | none =>
    rw [List.findIdx?_eq_none_iff] at h
    simp only [show ¬ (0 ≤ (-1 : Int)) by omega, false_iff]
    intro hm; have := h n hm; simp at this
  | some i =>
    obtain ⟨h1, h2, _⟩ := List.findIdx?_eq_some_iff_getElem.1 h
    simp only [Int.natCast_nonneg, true_iff]
    have : n = l[i] := by simpa using h2
    rw [this]; exact List.getElem_mem ..
theorem idxOf_lt {l : List Int} {n : Int} : idxOf l n < l.length := by
  unfold idxOf
  cases h : l.findIdx? (fun x => decide (n = x)) with
  | none => simp only; omega
  | some i => obtain ⟨h1, _⟩ := List.findIdx?_eq_some_iff_getElem.1 h; simp only; omega
theorem val_eq_nil {s : Sl Int} (h : s.xs = []) (e : TypeId) : True := trivial


set_option maxHeartbeats 400000 in
theorem S_slices_Index (s : Sl Int) (n : Int) (hlen : s.xs.length ≤ 17592186044416) : Fn Try.prog 93 [s.val, .int .i64 n] [per (Rd TInt s)] (fun v_ S_ => v_ = .int .i64 (idxOf s.xs n) ∧ S_ []) := by
  refine fn_intro (m := 19) (gs := [(0, s.val), (1, .int .i64 n)]) Try.func93 rfl rfl rfl rfl (fun t v h => gs_ok (by repeat (first | exact GsOk.nil | refine GsOk.cons (by rfl) ?_)) t v h) (fun F => per (Rd TInt s) :: F) (fun _ => rfl) (fun E F => ?_)
  refine wc_seq ?_
  refine wc_region ?_
  refine wl_q (q_assign rfl) rfl ?_
  refine wl_nil ?_
  refine wq_then ?_
  refine wc_seq ?_
  refine wc_seq ?_
  refine wc_region ?_
  refine wl_q (q_move rfl) rfl ?_
  refine wl_q (q_len (e := 3) (by kernel_rfl) rfl) rfl ?_
  refine wl_q (q_move rfl) rfl ?_
  refine wl_nil ?_
  refine wq_then ?_
  refine wc_block ?_
  refine wc_loop (γ := Int) (fun i => 0 ≤ i ∧ i ≤ s.xs.length ∧ ∀ j : Int, 0 ≤ j → j < i → gi s.xs j ≠ n) (fun i => [(0, s.val), (1, .int .i64 n), (7, .int .i64 s.xs.length), (8, .int .i64 i)]) (fun i => per (Rd TInt s) :: F) (fun i => ((s.xs.length : Int) - i).toNat) (0) (⟨by omega, by omega, fun j h1 h2 => by omega⟩) (by repeat (first | exact Sub.nil | refine Sub.cons (by rfl) ?_)) (Ent.refl _) ?_
  rintro i ⟨hi1, hi2, hi3⟩
  refine wc_seq ?_
  refine wc_region ?_
  refine wl_q (q_lss rfl rfl) rfl ?_
  refine wl_nil ?_
  refine wq_then ?_
  refine wc_seq ?_
  refine wc_cond _ rfl (fun hc9 => ?_) (fun hc9 => ?_)
  · have hc9_ := hc9; try simp only [decide_eq_true_eq, decide_eq_false_iff_not, Bool.not_eq_true', Bool.not_eq_false', Decidable.not_not, Int.not_lt, Int.not_le, Bool.and_eq_true, Bool.or_eq_true] at hc9_
    refine wc_skip ?_
    refine wq_then ?_
    refine wc_seq ?_
    refine wc_block ?_
    refine wc_seq ?_
    refine wc_region ?_
    refine wl_q (q_move rfl) rfl ?_
    refine wl_q (q_assign rfl) rfl ?_
    refine wl_nil ?_
    refine wq_then ?_
    refine wc_seq ?_
    refine wc_region ?_
    refine wl_q (q_move rfl) rfl ?_
    refine wl_q (q_move rfl) rfl ?_
    refine wl_q (q_move rfl) rfl ?_
    refine wl_q (by first | exact q_indexR (e := 3) (by kernel_rfl) (by kernel_rfl) rfl rfl (by ((repeat constructor); first | done | fail)) (by first | omega | (dsimp only; omega) | (simp only [Int.toNat_natCast, List.length_set, List.length_append, List.length_cons, List.length_nil] at *; omega)) (by first | omega | (dsimp only; omega) | (simp only [Int.toNat_natCast, List.length_set, List.length_append, List.length_cons, List.length_nil] at *; omega)) | exact q_indexO (e := 3) (by kernel_rfl) (by kernel_rfl) rfl rfl (by ((repeat constructor); first | done | fail)) (by first | omega | (dsimp only; omega) | (simp only [Int.toNat_natCast, List.length_set, List.length_append, List.length_cons, List.length_nil] at *; omega)) (by first | omega | (dsimp only; omega) | (simp only [Int.toNat_natCast, List.length_set, List.length_append, List.length_cons, List.length_nil] at *; omega))) rfl ?_
    refine wl_q (by first | exact q_elemR1 (T := TInt) rfl (by kernel_rfl) (by ((repeat constructor); first | done | fail)) (gi_get (by omega) (by omega)) rfl | exact q_elemO1 (T := TInt) rfl (by kernel_rfl) (by ((repeat constructor); first | done | fail)) (gi_get (by omega) (by omega)) rfl) rfl ?_
    refine wl_q (q_eql rfl rfl) rfl ?_
    refine wl_nil ?_
    refine wq_then ?_
    refine wc_cond _ rfl (fun hc16 => ?_) (fun hc16 => ?_)
    · have hc16_ := hc16; try simp only [decide_eq_true_eq, decide_eq_false_iff_not, Bool.not_eq_true', Bool.not_eq_false', Decidable.not_not, Int.not_lt, Int.not_le, Bool.and_eq_true, Bool.or_eq_true] at hc16_
      refine wc_seq ?_
      refine wc_region ?_
      refine wl_q (q_move rfl) rfl ?_
      refine wl_q (q_assign rfl) rfl ?_
      refine wl_nil ?_
      refine wq_then ?_
      refine wc_ret ?_
      refine wq_block_ret ?_
      refine wq_then_ret ?_
      refine wq_then_ret ?_
      refine wq_block_ret ?_
      refine wq_then_ret ?_
      refine wq_ret rfl (RVs.tmp rfl RVs.nil) (fun w_ hs_ => ?_)
      exact ⟨by rw [idxOf_some hi1 (by omega) hc16_.symm hi3]; rfl, Split.use (by repeat (first | exact Split.nil | (apply Split.keep; · ((repeat constructor); first | done | fail)) | (apply Split.take; · ((repeat constructor); first | done | fail)) | apply Split.drop)) hs_⟩
    · have hc16_ := hc16; try simp only [decide_eq_true_eq, decide_eq_false_iff_not, Bool.not_eq_true', Bool.not_eq_false', Decidable.not_not, Int.not_lt, Int.not_le, Bool.and_eq_true, Bool.or_eq_true] at hc16_
      refine wc_skip ?_
      refine wq_block_normal ?_
      refine wq_then ?_
      refine wc_region ?_
      refine wl_q (q_add rfl rfl ⟨by omega, by omega⟩) rfl ?_
      refine wl_q (q_move rfl) rfl ?_
      refine wl_nil ?_
      exact wq_meet (i + 1) (⟨⟨by omega, by omega, fun j h1 h2 => by rcases Int.lt_or_le j i with h | h; exact hi3 j h1 h; exact fun e => hc16_ (by rw [show i = j by omega]; exact e.symm)⟩, by omega⟩) (by repeat (first | exact Sub.nil | refine Sub.cons (by rfl) ?_)) (Ent.refl _)
  · have hc9_ := hc9; try simp only [decide_eq_true_eq, decide_eq_false_iff_not, Bool.not_eq_true', Bool.not_eq_false', Decidable.not_not, Int.not_lt, Int.not_le, Bool.and_eq_true, Bool.or_eq_true] at hc9_
    refine wc_exit ?_
    refine wq_then_exit ?_
    refine wq_then_exit ?_
    refine wq_block_exit ?_
    refine wq_then ?_
    refine wc_seq ?_
    refine wc_region ?_
    refine wl_q (q_assign rfl) rfl ?_
    refine wl_nil ?_
    refine wq_then ?_
    refine wc_ret ?_
    refine wq_ret rfl (RVs.tmp rfl RVs.nil) (fun w_ hs_ => ?_)
    exact ⟨by rw [idxOf_none fun j h1 h2 => hi3 j h1 (by omega)]; rfl, Split.use (by repeat (first | exact Split.nil | (apply Split.keep; · ((repeat constructor); first | done | fail)) | (apply Split.take; · ((repeat constructor); first | done | fail)) | apply Split.drop)) hs_⟩

set_option maxHeartbeats 400000 in
theorem S_slices_Contains (s : Sl Int) (n : Int) (hlen : s.xs.length ≤ 17592186044416) : Fn Try.prog 94 [s.val, .int .i64 n] [per (Rd TInt s)] (fun v_ S_ => v_ = .bool (decide (n ∈ s.xs)) ∧ S_ []) := by
  refine fn_intro (m := 9) (gs := [(0, s.val), (1, .int .i64 n)]) Try.func94 rfl rfl rfl rfl (fun t v h => gs_ok (by repeat (first | exact GsOk.nil | refine GsOk.cons (by rfl) ?_)) t v h) (fun F => per (Rd TInt s) :: F) (fun _ => rfl) (fun E F => ?_)
  refine wc_seq ?_
  refine wc_region ?_
  refine wl_q (q_assign rfl) rfl ?_
  refine wl_nil ?_
  refine wq_then ?_
  refine wc_seq ?_
  refine wc_region ?_
  refine wl_q (q_move rfl) rfl ?_
  refine wl_q (q_move rfl) rfl ?_
  refine wl_l (lev_callF (S_slices_Index _ _ (by omega)) rfl rfl (by repeat (first | exact Split.nil | (apply Split.keep; · ((repeat constructor); first | done | fail)) | (apply Split.take; · ((repeat constructor); first | done | fail)) | apply Split.drop)) ?_)
  rintro v_ w_ ⟨rfl, hs_⟩
  (try simp only [List.cons_append, List.nil_append] at hs_)
  refine ⟨_, hs_, ?_⟩
  refine wl_q (q_geq rfl rfl) rfl ?_
  refine wl_q (q_assign rfl) rfl ?_
  refine wl_nil ?_
  refine wq_then ?_
  refine wc_ret ?_
  refine wq_ret rfl (RVs.tmp rfl RVs.nil) (fun w_ hs_ => ?_)
  exact ⟨by rw [decide_eq_decide.2 (idxOf_ge (l := s.xs) (n := n))]; rfl, Split.use (by repeat (first | exact Split.nil | (apply Split.keep; · ((repeat constructor); first | done | fail)) | (apply Split.take; · ((repeat constructor); first | done | fail)) | apply Split.drop)) hs_⟩

set_option maxHeartbeats 400000 in
theorem S_idset_Has (s : Sl Int) (n : Int) (hlen : s.xs.length ≤ 17592186044416) : Fn Try.prog 107 [s.val, .int .i64 n] [per (Rd TInt s)] (fun v_ S_ => v_ = .bool (decide (n ∈ s.xs)) ∧ S_ []) := by
  refine fn_intro (m := 8) (gs := [(0, s.val), (1, .int .i64 n)]) Try.func107 rfl rfl rfl rfl (fun t v h => gs_ok (by repeat (first | exact GsOk.nil | refine GsOk.cons (by rfl) ?_)) t v h) (fun F => per (Rd TInt s) :: F) (fun _ => rfl) (fun E F => ?_)
  refine wc_seq ?_
  refine wc_region ?_
  refine wl_q (q_assign rfl) rfl ?_
  refine wl_nil ?_
  refine wq_then ?_
  refine wc_seq ?_
  refine wc_region ?_
  refine wl_q (q_move rfl) rfl ?_
  refine wl_q (q_move rfl) rfl ?_
  refine wl_l (lev_callF (S_slices_Contains _ _ (by omega)) rfl rfl (by repeat (first | exact Split.nil | (apply Split.keep; · ((repeat constructor); first | done | fail)) | (apply Split.take; · ((repeat constructor); first | done | fail)) | apply Split.drop)) ?_)
  rintro v_ w_ ⟨rfl, hs_⟩
  (try simp only [List.cons_append, List.nil_append] at hs_)
  refine ⟨_, hs_, ?_⟩
  refine wl_q (q_assign rfl) rfl ?_
  refine wl_nil ?_
  refine wq_then ?_
  refine wc_ret ?_
  refine wq_ret rfl (RVs.tmp rfl RVs.nil) (fun w_ hs_ => ?_)
  exact ⟨rfl, Split.use (by repeat (first | exact Split.nil | (apply Split.keep; · ((repeat constructor); first | done | fail)) | (apply Split.take; · ((repeat constructor); first | done | fail)) | apply Split.drop)) hs_⟩

set_option maxHeartbeats 400000 in
theorem S_cmp_isNaN (n : Int) : Fn Try.prog 164 [.int .i64 n] [] (fun v_ S_ => v_ = .bool false ∧ S_ []) := by
  refine fn_intro (m := 6) (gs := [(0, .int .i64 n)]) Try.func164 rfl rfl rfl rfl (fun t v h => gs_ok (by repeat (first | exact GsOk.nil | refine GsOk.cons (by rfl) ?_)) t v h) (fun F => F) (fun _ => rfl) (fun E F => ?_)
  refine wc_seq ?_
  refine wc_region ?_
  refine wl_q (q_assign rfl) rfl ?_
  refine wl_nil ?_
  refine wq_then ?_
  refine wc_seq ?_
  refine wc_region ?_
  refine wl_q (q_move rfl) rfl ?_
  refine wl_q (q_move rfl) rfl ?_
  refine wl_q (q_neq rfl rfl) rfl ?_
  refine wl_q (q_assign rfl) rfl ?_
  refine wl_nil ?_
  refine wq_then ?_
  refine wc_ret ?_
  refine wq_ret rfl (RVs.tmp rfl RVs.nil) (fun w_ hs_ => ?_)
  exact ⟨by simp [outV], hs_⟩

set_option maxHeartbeats 400000 in
theorem S_slices_isNaN (n : Int) : Fn Try.prog 166 [.int .i64 n] [] (fun v_ S_ => v_ = .bool false ∧ S_ []) := by
  refine fn_intro (m := 6) (gs := [(0, .int .i64 n)]) Try.func166 rfl rfl rfl rfl (fun t v h => gs_ok (by repeat (first | exact GsOk.nil | refine GsOk.cons (by rfl) ?_)) t v h) (fun F => F) (fun _ => rfl) (fun E F => ?_)
  refine wc_seq ?_
  refine wc_region ?_
  refine wl_q (q_assign rfl) rfl ?_
  refine wl_nil ?_
  refine wq_then ?_
  refine wc_seq ?_
  refine wc_region ?_
  refine wl_q (q_move rfl) rfl ?_
  refine wl_q (q_move rfl) rfl ?_
  refine wl_q (q_neq rfl rfl) rfl ?_
  refine wl_q (q_assign rfl) rfl ?_
  refine wl_nil ?_
  refine wq_then ?_
  refine wc_ret ?_
  refine wq_ret rfl (RVs.tmp rfl RVs.nil) (fun w_ hs_ => ?_)
  exact ⟨by simp [outV], hs_⟩
end Go.Proofs.Ytlkmcdijioiddaa
