/- Contracts of functions of the program, walked step by step. Not a proof of any statement by itself. -/
import Derived.Test.YtlkmcdijioiddaaShift
import Derived.Test.YtlkmcdijioiddaaSmall
import Derived.Test.YtlkmcdijioiddaaProg
namespace Go.Proofs.Ytlkmcdijioiddaa
open Go.RowKit
set_option linter.unusedVariables false
set_option linter.unusedSimpArgs false
set_option maxRecDepth 100000


set_option maxHeartbeats 400000 in
theorem S_slices_Clone (s : Sl Int) (hlen : s.xs.length < 1099511627776) : Fn Try.prog 49 [s.val] [per (Rd TInt s)] (fun v_ S_ => ∃ s' : Sl Int, v_ = s'.val ∧ s'.xs = s.xs ∧ S_ [Own TInt 3 s']) := by
  refine fn_intro (m := 8) (gs := [(0, s.val)]) Try.func49 rfl rfl rfl rfl (fun t v h => gs_ok (by repeat (first | exact GsOk.nil | refine GsOk.cons (by rfl) ?_)) t v h) (fun F => per (Rd TInt s) :: F) (fun _ => rfl) (fun E F => ?_)
  refine wc_rdNil (s := s) (by ((repeat constructor); first | done | fail)) fun hnil => ?_
  have hbig2 := big_is
  refine wc_seq ?_
  refine wc_region ?_
  refine wl_q (q_assign rfl) rfl ?_
  refine wl_nil ?_
  refine wq_then ?_
  refine wc_seq ?_
  refine wc_seq ?_
  refine wc_region ?_
  refine wl_q (q_move rfl) rfl ?_
  refine wl_q (q_eqlSlNil (e := 3) (by kernel_rfl) rfl rfl) rfl ?_
  refine wl_nil ?_
  refine wq_then ?_
  refine wc_cond _ rfl (fun hc4 => ?_) (fun hc4 => ?_)
  · have hc4_ := hc4; try simp only [decide_eq_true_eq, decide_eq_false_iff_not, Bool.not_eq_true', Bool.not_eq_false', Decidable.not_not, Int.not_lt, Int.not_le, Bool.and_eq_true, Bool.or_eq_true] at hc4_
    have he : s.xs = [] := hnil (by simpa using hc4)
    refine wc_seq ?_
    refine wc_region ?_
    refine wl_q (q_assign rfl) rfl ?_
    refine wl_nil ?_
    refine wq_then ?_
    refine wc_ret ?_
    refine wq_then_ret ?_
    refine wq_ret rfl (RVs.tmp rfl RVs.nil) (fun w_ hs_ => ?_)
    have hs2 := sats.own_nil hs_ TInt 3
    exact ⟨Sl.nil, rfl, he.symm, Split.use (by repeat (first | exact Split.nil | (apply Split.take; · ((repeat constructor); first | done | fail)) | apply Split.drop)) hs2⟩
  · have hc4_ := hc4; try simp only [decide_eq_true_eq, decide_eq_false_iff_not, Bool.not_eq_true', Bool.not_eq_false', Decidable.not_not, Int.not_lt, Int.not_le, Bool.and_eq_true, Bool.or_eq_true] at hc4_
    refine wc_skip ?_
    refine wq_then ?_
    refine wc_seq ?_
    refine wc_region ?_
    refine wl_l (lev_buildSlice (e := 3) (size := 1) (xs := []) (z := (.int .i64 0)) (by kernel_rfl) (by kernel_rfl) (by unfold zeroIs; kernel_rfl) rfl rfl rfl .nil rfl fun b1 => ?_)
    refine wl_q (q_move rfl) rfl ?_
    refine wl_re 5 (Sl.val ⟨some ⟨b1, 0, none⟩, 0, ([] : List Int)⟩) rfl ?_
    refine wl_entL (ent_litO (T := TInt) (m := 0) (ys := []) (by ((repeat constructor); first | done | fail)) rfl rfl (by decide) (fun M z hz => by cases hz)) ?_
    refine wl_l (lev_appendR (T := TInt) (e := 3) (z := (.int .i64 0)) (by kernel_rfl) (by unfold zeroIs; kernel_rfl) (by kernel_rfl) rfl rfl 8 (by kernel_rfl) rfl rfl rfl (by ((repeat constructor); first | done | fail)) (by ((repeat constructor); first | done | fail)) (⟨by simp only [big_is, List.length_nil]; omega, by simp only [List.length_nil]; omega, by decide⟩) fun s1 hs1 => ?_)
    refine wl_q (q_assign rfl) rfl ?_
    refine wl_nil ?_
    refine wq_then ?_
    refine wc_ret ?_
    refine wq_ret rfl (RVs.tmp rfl RVs.nil) (fun w_ hs_ => ?_)
    exact ⟨s1, rfl, by rw [hs1]; simp, Split.use (by repeat (first | exact Split.nil | (apply Split.keep; · ((repeat constructor); first | done | fail)) | (apply Split.take; · ((repeat constructor); first | done | fail)) | apply Split.drop)) hs_⟩

set_option maxHeartbeats 400000 in
theorem S_cmp_Less (a b : Int) : Fn Try.prog 143 [.int .i64 a, .int .i64 b] [] (fun v_ S_ => v_ = .bool (decide (a < b)) ∧ S_ []) := by
  refine fn_intro (m := 17) (gs := [(0, .int .i64 a), (1, .int .i64 b)]) Try.func143 rfl rfl rfl rfl (fun t v h => gs_ok (by repeat (first | exact GsOk.nil | refine GsOk.cons (by rfl) ?_)) t v h) (fun F => F) (fun _ => rfl) (fun E F => ?_)
  refine wc_seq ?_
  refine wc_region ?_
  refine wl_q (q_assign rfl) rfl ?_
  refine wl_nil ?_
  refine wq_then ?_
  refine wc_seq ?_
  refine wc_region ?_
  refine wl_q (q_move rfl) rfl ?_
  refine wl_l (lev_callF (S_cmp_isNaN _) rfl rfl (by repeat (first | exact Split.nil | (apply Split.keep; · ((repeat constructor); first | done | fail)) | (apply Split.take; · ((repeat constructor); first | done | fail)) | apply Split.drop)) ?_)
  rintro v_ w_ ⟨rfl, hs_⟩
  (try simp only [List.cons_append, List.nil_append] at hs_)
  refine ⟨_, hs_, ?_⟩
  refine wl_q (q_move rfl) rfl ?_
  refine wl_skip 7 rfl rfl (by intro h; cases h) rfl ?_
  refine wl_skip 7 rfl rfl (by intro h; cases h) rfl ?_
  refine wl_skip 7 rfl rfl (by intro h; cases h) rfl ?_
  refine wl_q (q_pickF rfl rfl rfl) rfl ?_
  refine wl_q (q_move rfl) rfl ?_
  refine wl_g 12 rfl rfl (q_move rfl) rfl ?_
  refine wl_g 12 rfl rfl (q_move rfl) rfl ?_
  refine wl_g 12 rfl rfl (q_lss rfl rfl) rfl ?_
  refine wl_q (q_pickF rfl rfl rfl) rfl ?_
  refine wl_q (q_assign rfl) rfl ?_
  refine wl_nil ?_
  refine wq_then ?_
  refine wc_ret ?_
  refine wq_ret rfl (RVs.tmp rfl RVs.nil) (fun w_ hs_ => ?_)
  exact ⟨rfl, Split.use (by repeat (first | exact Split.nil | (apply Split.keep; · ((repeat constructor); first | done | fail)) | (apply Split.take; · ((repeat constructor); first | done | fail)) | apply Split.drop)) hs_⟩

theorem mem_gi {l : List Int} {n : Int} (h : n ∈ l) : ∃ j : Int, 0 ≤ j ∧ j < l.length ∧ gi l j = n := by
  obtain ⟨i, hi, rfl⟩ := List.mem_iff_getElem.1 h
  exact ⟨i, by omega, by omega, gi_of (List.getElem?_eq_getElem hi)⟩

set_option maxHeartbeats 400000 in
theorem S_slices_BinarySearch (s : Sl Int) (n : Int) (hlen : s.xs.length ≤ 17592186044416) (hs : ∀ i j : Int, 0 ≤ i → i ≤ j → j < s.xs.length → gi s.xs i ≤ gi s.xs j) : Fn Try.prog 155 [s.val, .int .i64 n] [per (Rd TInt s)] (fun v_ S_ => ∃ i : Int, v_ = .tuple [.int .i64 i, .bool (decide (n ∈ s.xs))].toArray ∧ (0 ≤ i ∧ i ≤ s.xs.length ∧ (∀ j, 0 ≤ j → j < i → gi s.xs j < n) ∧ (∀ j, i ≤ j → j < s.xs.length → n ≤ gi s.xs j)) ∧ S_ []) := by
  refine fn_intro (m := 54) (gs := [(0, s.val), (1, .int .i64 n)]) Try.func155 rfl rfl rfl rfl (fun t v h => gs_ok (by repeat (first | exact GsOk.nil | refine GsOk.cons (by rfl) ?_)) t v h) (fun F => per (Rd TInt s) :: F) (fun _ => rfl) (fun E F => ?_)
  refine wc_seq ?_
  refine wc_region ?_
  refine wl_q (q_assign rfl) rfl ?_
  refine wl_q (q_assign rfl) rfl ?_
  refine wl_nil ?_
  refine wq_then ?_
  refine wc_seq ?_
  refine wc_region ?_
  refine wl_q (q_move rfl) rfl ?_
  refine wl_q (q_len (e := 3) (by kernel_rfl) rfl) rfl ?_
  refine wl_q (q_assign rfl) rfl ?_
  refine wl_nil ?_
  refine wq_then ?_
  refine wc_seq ?_
  refine wc_region ?_
  refine wl_q (q_move rfl) rfl ?_
  refine wl_q (q_assign rfl) rfl ?_
  refine wl_q (q_assign rfl) rfl ?_
  refine wl_nil ?_
  refine wq_then ?_
  refine wc_seq ?_
  refine wc_block ?_
  refine wc_loop (γ := (Int) × (Int)) (fun g_ => (0 ≤ g_.1) ∧ (g_.1 ≤ g_.2) ∧ (g_.2 ≤ s.xs.length) ∧ (∀ j, 0 ≤ j → j < g_.1 → gi s.xs j < n) ∧ (∀ j, g_.2 ≤ j → j < s.xs.length → n ≤ gi s.xs j)) (fun g_ => [(0, s.val), (1, .int .i64 n), (6, .int .i64 s.xs.length), (7, .int .i64 g_.1), (8, .int .i64 g_.2)]) (fun g_ => per (Rd TInt s) :: F) (fun g_ => (g_.2 - g_.1).toNat) ((0, (s.xs.length : Int))) (⟨(show 0 ≤ (0 : Int) from (by omega)), (show (0 : Int) ≤ ((s.xs.length : Int) : Int) from (by omega)), (show ((s.xs.length : Int) : Int) ≤ s.xs.length from (by omega)), (show ∀ j, 0 ≤ j → j < (0 : Int) → gi s.xs j < n from fun j a b => by omega), (show ∀ j, ((s.xs.length : Int) : Int) ≤ j → j < s.xs.length → n ≤ gi s.xs j from fun j a b => by omega)⟩) (by repeat (first | exact Sub.nil | refine Sub.cons (by rfl) ?_)) (Ent.of_split (by repeat (first | exact Split.all | exact Split.nil | (apply Split.keep; · ((repeat constructor); first | done | fail)) | (apply Split.take; · ((repeat constructor); first | done | fail)) | apply Split.drop))) ?_
  rintro ⟨lo, hi⟩ ⟨h1, h2, h3, h4, h5⟩
  replace h1 : 0 ≤ lo := h1
  replace h2 : lo ≤ hi := h2
  replace h3 : hi ≤ s.xs.length := h3
  replace h4 : ∀ j, 0 ≤ j → j < lo → gi s.xs j < n := h4
  replace h5 : ∀ j, hi ≤ j → j < s.xs.length → n ≤ gi s.xs j := h5
  refine wc_ent (gs := [(0, s.val), (1, .int .i64 n), (6, .int .i64 s.xs.length), (7, .int .i64 lo), (8, .int .i64 hi)]) (by repeat (first | exact Sub.nil | refine Sub.cons (by rfl) ?_)) (L' := per (Rd TInt s) :: F) (Ent.refl _) ?_
  refine wc_seq ?_
  refine wc_seq ?_
  refine wc_region ?_
  refine wl_q (q_move rfl) rfl ?_
  refine wl_q (q_move rfl) rfl ?_
  refine wl_q (q_lss rfl rfl) rfl ?_
  refine wl_nil ?_
  refine wq_then ?_
  refine wc_cond _ rfl (fun hc15 => ?_) (fun hc15 => ?_)
  · have hc15_ := hc15; try simp only [decide_eq_true_eq, decide_eq_false_iff_not, Bool.not_eq_true', Bool.not_eq_false', Decidable.not_not, Int.not_lt, Int.not_le, Bool.and_eq_true, Bool.or_eq_true] at hc15_
    refine wc_skip ?_
    refine wq_then ?_
    refine wc_block ?_
    refine wc_seq ?_
    refine wc_region ?_
    refine wl_q (q_move rfl) rfl ?_
    refine wl_q (q_move rfl) rfl ?_
    refine wl_q (q_add rfl rfl ⟨by omega, by omega⟩) rfl ?_
    refine wl_q (q_convert (k := .i64) .u64 (by kernel_rfl) (by kernel_rfl) rfl (wrapU_in (by omega) (by omega))) rfl ?_
    refine wl_q (q_shr1 rfl rfl) rfl ?_
    refine wl_q (q_convert (k := .u64) .i64 (by kernel_rfl) (by kernel_rfl) rfl (wrap64_in (by omega) (by omega))) rfl ?_
    refine wl_q (q_assign rfl) rfl ?_
    refine wl_nil ?_
    refine wq_then ?_
    refine wc_seq ?_
    refine wc_region ?_
    refine wl_q (q_move rfl) rfl ?_
    refine wl_q (q_move rfl) rfl ?_
    refine wl_q (by first | exact q_indexR (e := 3) (by kernel_rfl) (by kernel_rfl) rfl rfl (by ((repeat constructor); first | done | fail)) (by first | omega | (dsimp only; omega) | (simp only [Int.toNat_natCast, List.length_set, List.length_append, List.length_cons, List.length_nil] at *; omega)) (by first | omega | (dsimp only; omega) | (simp only [Int.toNat_natCast, List.length_set, List.length_append, List.length_cons, List.length_nil] at *; omega)) | exact q_indexO (e := 3) (by kernel_rfl) (by kernel_rfl) rfl rfl (by ((repeat constructor); first | done | fail)) (by first | omega | (dsimp only; omega) | (simp only [Int.toNat_natCast, List.length_set, List.length_append, List.length_cons, List.length_nil] at *; omega)) (by first | omega | (dsimp only; omega) | (simp only [Int.toNat_natCast, List.length_set, List.length_append, List.length_cons, List.length_nil] at *; omega))) rfl ?_
    refine wl_q (by first | exact q_elemR1 (T := TInt) rfl (by kernel_rfl) (by ((repeat constructor); first | done | fail)) (gi_get (by omega) (by omega)) rfl | exact q_elemO1 (T := TInt) rfl (by kernel_rfl) (by ((repeat constructor); first | done | fail)) (gi_get (by omega) (by omega)) rfl) rfl ?_
    refine wl_q (q_move rfl) rfl ?_
    refine wl_l (lev_callF (S_cmp_Less _ _) rfl rfl (by repeat (first | exact Split.nil | (apply Split.keep; · ((repeat constructor); first | done | fail)) | (apply Split.take; · ((repeat constructor); first | done | fail)) | apply Split.drop)) ?_)
    rintro v_ w_ ⟨rfl, hs_⟩
    (try simp only [List.cons_append, List.nil_append] at hs_)
    refine ⟨_, hs_, ?_⟩
    refine wl_nil ?_
    refine wq_then ?_
    refine wc_cond _ rfl (fun hc27 => ?_) (fun hc27 => ?_)
    · have hc27_ := hc27; try simp only [decide_eq_true_eq, decide_eq_false_iff_not, Bool.not_eq_true', Bool.not_eq_false', Decidable.not_not, Int.not_lt, Int.not_le, Bool.and_eq_true, Bool.or_eq_true] at hc27_
      refine wc_region ?_
      refine wl_q (q_move rfl) rfl ?_
      refine wl_q (q_add rfl rfl ⟨by omega, by omega⟩) rfl ?_
      refine wl_q (q_assign rfl) rfl ?_
      refine wl_nil ?_
      refine wq_block_normal ?_
      exact wq_meet (((lo + hi) / 2 + 1, hi)) (⟨⟨(show 0 ≤ ((lo + hi) / 2 + 1 : Int) from (by omega)), (show ((lo + hi) / 2 + 1 : Int) ≤ (hi : Int) from (by omega)), (show (hi : Int) ≤ s.xs.length from (by omega)), (show ∀ j, 0 ≤ j → j < ((lo + hi) / 2 + 1 : Int) → gi s.xs j < n from fun j a b => by have := hs j ((lo + hi) / 2) a (by omega) (by omega); omega), (show ∀ j, (hi : Int) ≤ j → j < s.xs.length → n ≤ gi s.xs j from h5)⟩, (show ((hi : Int) - ((lo + hi) / 2 + 1 : Int)).toNat < (hi - lo).toNat from (by omega))⟩) (by repeat (first | exact Sub.nil | refine Sub.cons (by rfl) ?_)) (Ent.of_split (by repeat (first | exact Split.all | exact Split.nil | (apply Split.keep; · ((repeat constructor); first | done | fail)) | (apply Split.take; · ((repeat constructor); first | done | fail)) | apply Split.drop)))
    · have hc27_ := hc27; try simp only [decide_eq_true_eq, decide_eq_false_iff_not, Bool.not_eq_true', Bool.not_eq_false', Decidable.not_not, Int.not_lt, Int.not_le, Bool.and_eq_true, Bool.or_eq_true] at hc27_
      refine wc_region ?_
      refine wl_q (q_move rfl) rfl ?_
      refine wl_q (q_assign rfl) rfl ?_
      refine wl_nil ?_
      refine wq_block_normal ?_
      exact wq_meet ((lo, (lo + hi) / 2)) (⟨⟨(show 0 ≤ (lo : Int) from (by omega)), (show (lo : Int) ≤ ((lo + hi) / 2 : Int) from (by omega)), (show ((lo + hi) / 2 : Int) ≤ s.xs.length from (by omega)), (show ∀ j, 0 ≤ j → j < (lo : Int) → gi s.xs j < n from h4), (show ∀ j, ((lo + hi) / 2 : Int) ≤ j → j < s.xs.length → n ≤ gi s.xs j from fun j a b => by have := hs ((lo + hi) / 2) j (by omega) (by omega) (by omega); omega)⟩, (show (((lo + hi) / 2 : Int) - (lo : Int)).toNat < (hi - lo).toNat from (by omega))⟩) (by repeat (first | exact Sub.nil | refine Sub.cons (by rfl) ?_)) (Ent.of_split (by repeat (first | exact Split.all | exact Split.nil | (apply Split.keep; · ((repeat constructor); first | done | fail)) | (apply Split.take; · ((repeat constructor); first | done | fail)) | apply Split.drop)))
  · have hc15_ := hc15; try simp only [decide_eq_true_eq, decide_eq_false_iff_not, Bool.not_eq_true', Bool.not_eq_false', Decidable.not_not, Int.not_lt, Int.not_le, Bool.and_eq_true, Bool.or_eq_true] at hc15_
    refine wc_exit ?_
    refine wq_then_exit ?_
    refine wq_then_exit ?_
    refine wq_block_exit ?_
    refine wq_then ?_
    refine wc_seq ?_
    refine wc_region ?_
    refine wl_q (q_move rfl) rfl ?_
    refine wl_q (q_move rfl) rfl ?_
    refine wl_q (q_move rfl) rfl ?_
    refine wl_q (q_lss rfl rfl) rfl ?_
    refine wl_q (q_move rfl) rfl ?_
    refine wl_split 35 _ rfl (fun hb35 => ?_) (fun hb35 => ?_)
    · have hb35_ := hb35; try simp only [decide_eq_true_eq, decide_eq_false_iff_not, Bool.not_eq_true', Bool.not_eq_false', Decidable.not_not, Int.not_lt, Int.not_le, Bool.and_eq_true, Bool.or_eq_true] at hb35_
      refine wl_g 35 rfl (lk_bool rfl hb35) (q_move rfl) rfl ?_
      refine wl_g 35 rfl (lk_bool rfl hb35) (q_move rfl) rfl ?_
      refine wl_g 35 rfl (lk_bool rfl hb35) (by first | exact q_indexR (e := 3) (by kernel_rfl) (by kernel_rfl) rfl rfl (by ((repeat constructor); first | done | fail)) (by first | omega | (dsimp only; omega) | (simp only [Int.toNat_natCast, List.length_set, List.length_append, List.length_cons, List.length_nil] at *; omega)) (by first | omega | (dsimp only; omega) | (simp only [Int.toNat_natCast, List.length_set, List.length_append, List.length_cons, List.length_nil] at *; omega)) | exact q_indexO (e := 3) (by kernel_rfl) (by kernel_rfl) rfl rfl (by ((repeat constructor); first | done | fail)) (by first | omega | (dsimp only; omega) | (simp only [Int.toNat_natCast, List.length_set, List.length_append, List.length_cons, List.length_nil] at *; omega)) (by first | omega | (dsimp only; omega) | (simp only [Int.toNat_natCast, List.length_set, List.length_append, List.length_cons, List.length_nil] at *; omega))) rfl ?_
      refine wl_g 35 rfl (lk_bool rfl hb35) (by first | exact q_elemR1 (T := TInt) rfl (by kernel_rfl) (by ((repeat constructor); first | done | fail)) (gi_get (by omega) (by omega)) rfl | exact q_elemO1 (T := TInt) rfl (by kernel_rfl) (by ((repeat constructor); first | done | fail)) (gi_get (by omega) (by omega)) rfl) rfl ?_
      refine wl_g 35 rfl (lk_bool rfl hb35) (q_move rfl) rfl ?_
      refine wl_g 35 rfl (lk_bool rfl hb35) (q_eql rfl rfl) rfl ?_
      refine wl_g 35 rfl (lk_bool rfl hb35) (q_move rfl) rfl ?_
      refine wl_split 42 _ rfl (fun hb42 => ?_) (fun hb42 => ?_)
      · have hb42_ := hb42; try simp only [decide_eq_true_eq, decide_eq_false_iff_not, Bool.not_eq_true', Bool.not_eq_false', Decidable.not_not, Int.not_lt, Int.not_le, Bool.and_eq_true, Bool.or_eq_true] at hb42_
        refine wl_skip 42 rfl (lk_bool rfl hb42) (by intro h; cases h) rfl ?_
        refine wl_skip 42 rfl (lk_bool rfl hb42) (by intro h; cases h) rfl ?_
        refine wl_skip 42 rfl (lk_bool rfl hb42) (by intro h; cases h) rfl ?_
        refine wl_skip 42 rfl (lk_bool rfl hb42) (by intro h; cases h) rfl ?_
        refine wl_skip 42 rfl (lk_bool rfl hb42) (by intro h; cases h) rfl ?_
        refine wl_skip 42 rfl (lk_bool rfl hb42) (by intro h; cases h) rfl ?_
        refine wl_skip 48 rfl rfl (by intro h; cases h) rfl ?_
        refine wl_skip 48 rfl rfl (by intro h; cases h) rfl ?_
        refine wl_skip 42 rfl (lk_bool rfl hb42) (by intro h; cases h) rfl ?_
        refine wl_g 35 rfl (lk_bool rfl hb35) (q_pickT rfl hb42 rfl) rfl ?_
        refine wl_q (q_pickT rfl hb35 rfl) rfl ?_
        refine wl_q (q_assign rfl) rfl ?_
        refine wl_q (q_assign rfl) rfl ?_
        refine wl_nil ?_
        refine wq_then ?_
        refine wc_ret ?_
        refine wq_ret rfl (RVs.tmp rfl (RVs.tmp rfl RVs.nil)) (fun w_ hs_ => ?_)
        have hm : n ∈ s.xs := by rw [← hb42_]; exact gi_mem h1 (by omega)
        exact ⟨lo, by rw [decide_eq_true hm]; rfl, ⟨h1, by omega, h4, fun j a b => h5 j (by omega) b⟩, Split.use (by repeat (first | exact Split.nil | (apply Split.keep; · ((repeat constructor); first | done | fail)) | (apply Split.take; · ((repeat constructor); first | done | fail)) | apply Split.drop)) hs_⟩
      · have hb42_ := hb42; try simp only [decide_eq_true_eq, decide_eq_false_iff_not, Bool.not_eq_true', Bool.not_eq_false', Decidable.not_not, Int.not_lt, Int.not_le, Bool.and_eq_true, Bool.or_eq_true] at hb42_
        refine wl_g 42 rfl (lk_bool rfl hb42) (q_move rfl) rfl ?_
        refine wl_g 42 rfl (lk_bool rfl hb42) (q_move rfl) rfl ?_
        refine wl_g 42 rfl (lk_bool rfl hb42) (by first | exact q_indexR (e := 3) (by kernel_rfl) (by kernel_rfl) rfl rfl (by ((repeat constructor); first | done | fail)) (by first | omega | (dsimp only; omega) | (simp only [Int.toNat_natCast, List.length_set, List.length_append, List.length_cons, List.length_nil] at *; omega)) (by first | omega | (dsimp only; omega) | (simp only [Int.toNat_natCast, List.length_set, List.length_append, List.length_cons, List.length_nil] at *; omega)) | exact q_indexO (e := 3) (by kernel_rfl) (by kernel_rfl) rfl rfl (by ((repeat constructor); first | done | fail)) (by first | omega | (dsimp only; omega) | (simp only [Int.toNat_natCast, List.length_set, List.length_append, List.length_cons, List.length_nil] at *; omega)) (by first | omega | (dsimp only; omega) | (simp only [Int.toNat_natCast, List.length_set, List.length_append, List.length_cons, List.length_nil] at *; omega))) rfl ?_
        refine wl_g 42 rfl (lk_bool rfl hb42) (by first | exact q_elemR1 (T := TInt) rfl (by kernel_rfl) (by ((repeat constructor); first | done | fail)) (gi_get (by omega) (by omega)) rfl | exact q_elemO1 (T := TInt) rfl (by kernel_rfl) (by ((repeat constructor); first | done | fail)) (gi_get (by omega) (by omega)) rfl) rfl ?_
        refine wl_lg 42 rfl (lk_bool rfl hb42) (lev_callF (S_slices_isNaN _) rfl rfl (by repeat (first | exact Split.nil | (apply Split.keep; · ((repeat constructor); first | done | fail)) | (apply Split.take; · ((repeat constructor); first | done | fail)) | apply Split.drop)) ?_)
        rintro v_ w_ ⟨rfl, hs_⟩
        (try simp only [List.cons_append, List.nil_append] at hs_)
        refine ⟨_, hs_, ?_⟩
        refine wl_g 42 rfl (lk_bool rfl hb42) (q_move rfl) rfl ?_
        refine wl_skip 48 rfl rfl (by intro h; cases h) rfl ?_
        refine wl_skip 48 rfl rfl (by intro h; cases h) rfl ?_
        refine wl_g 42 rfl (lk_bool rfl hb42) (q_pickF rfl rfl rfl) rfl ?_
        refine wl_g 35 rfl (lk_bool rfl hb35) (q_pickF rfl hb42 rfl) rfl ?_
        refine wl_q (q_pickT rfl hb35 rfl) rfl ?_
        refine wl_q (q_assign rfl) rfl ?_
        refine wl_q (q_assign rfl) rfl ?_
        refine wl_nil ?_
        refine wq_then ?_
        refine wc_ret ?_
        refine wq_ret rfl (RVs.tmp rfl (RVs.tmp rfl RVs.nil)) (fun w_ hs_ => ?_)
        have hm : ¬ n ∈ s.xs := fun hm => by obtain ⟨j, a, b, c⟩ := mem_gi hm; rcases Int.lt_or_le j lo with hj | hj; have := h4 j a hj; omega; have := hs lo j h1 hj b; have := h5 lo (by omega) (by omega); omega
        exact ⟨lo, by rw [decide_eq_false hm]; rfl, ⟨h1, by omega, h4, fun j a b => h5 j (by omega) b⟩, Split.use (by repeat (first | exact Split.nil | (apply Split.keep; · ((repeat constructor); first | done | fail)) | (apply Split.take; · ((repeat constructor); first | done | fail)) | apply Split.drop)) hs_⟩
    · have hb35_ := hb35; try simp only [decide_eq_true_eq, decide_eq_false_iff_not, Bool.not_eq_true', Bool.not_eq_false', Decidable.not_not, Int.not_lt, Int.not_le, Bool.and_eq_true, Bool.or_eq_true] at hb35_
      refine wl_skip 35 rfl (lk_bool rfl hb35) (by intro h; cases h) rfl ?_
      refine wl_skip 35 rfl (lk_bool rfl hb35) (by intro h; cases h) rfl ?_
      refine wl_skip 35 rfl (lk_bool rfl hb35) (by intro h; cases h) rfl ?_
      refine wl_skip 35 rfl (lk_bool rfl hb35) (by intro h; cases h) rfl ?_
      refine wl_skip 35 rfl (lk_bool rfl hb35) (by intro h; cases h) rfl ?_
      refine wl_skip 35 rfl (lk_bool rfl hb35) (by intro h; cases h) rfl ?_
      refine wl_skip 35 rfl (lk_bool rfl hb35) (by intro h; cases h) rfl ?_
      refine wl_skip 42 rfl rfl (by intro h; cases h) rfl ?_
      refine wl_skip 42 rfl rfl (by intro h; cases h) rfl ?_
      refine wl_skip 42 rfl rfl (by intro h; cases h) rfl ?_
      refine wl_skip 42 rfl rfl (by intro h; cases h) rfl ?_
      refine wl_skip 42 rfl rfl (by intro h; cases h) rfl ?_
      refine wl_skip 42 rfl rfl (by intro h; cases h) rfl ?_
      refine wl_skip 48 rfl rfl (by intro h; cases h) rfl ?_
      refine wl_skip 48 rfl rfl (by intro h; cases h) rfl ?_
      refine wl_skip 42 rfl rfl (by intro h; cases h) rfl ?_
      refine wl_skip 35 rfl (lk_bool rfl hb35) (by intro h; cases h) rfl ?_
      refine wl_q (q_pickF rfl hb35 rfl) rfl ?_
      refine wl_q (q_assign rfl) rfl ?_
      refine wl_q (q_assign rfl) rfl ?_
      refine wl_nil ?_
      refine wq_then ?_
      refine wc_ret ?_
      refine wq_ret rfl (RVs.tmp rfl (RVs.tmp rfl RVs.nil)) (fun w_ hs_ => ?_)
      have hm : ¬ n ∈ s.xs := fun hm => by obtain ⟨j, a, b, c⟩ := mem_gi hm; have := h4 j a (by omega); omega
      exact ⟨lo, by rw [decide_eq_false hm]; rfl, ⟨h1, by omega, h4, fun j a b => h5 j (by omega) b⟩, Split.use (by repeat (first | exact Split.nil | (apply Split.keep; · ((repeat constructor); first | done | fail)) | (apply Split.take; · ((repeat constructor); first | done | fail)) | apply Split.drop)) hs_⟩
end Go.Proofs.Ytlkmcdijioiddaa
