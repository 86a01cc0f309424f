/- Contracts of functions of the program, walked step by step. Not a proof of any statement by itself. -/
import Derived.Test.YtlkmcdijioiddaaBatchW
import Derived.Test.YtlkmcdijioiddaaProg
namespace Go.Proofs.Ytlkmcdijioiddaa
open Go.RowKit
set_option linter.unusedVariables false
set_option linter.unusedSimpArgs false
set_option maxRecDepth 100000


theorem gi_ext {l r : List Int} (h : l.length = r.length) (hg : ∀ j : Int, 0 ≤ j → j < l.length → gi l j = gi r j) : l = r := by
  apply List.ext_getElem h
  intro i h1 h2
  have := hg i (by omega) (by omega)
  rw [gi_of (List.getElem?_eq_getElem h1), gi_of (List.getElem?_eq_getElem h2)] at this
  exact this

set_option maxHeartbeats 400000 in
theorem S_ref01_Ints (s r : Sl Int) (hs : s.xs.length ≤ 17592186044416) (hr : r.xs.length ≤ 17592186044416) : Fn Try.prog 25 [s.val, r.val] [per (Rd TInt s), per (Rd TInt r)] (fun v_ S_ => v_ = .bool (decide (s.xs = r.xs)) ∧ S_ []) := by
  refine fn_intro (m := 26) (gs := [(0, s.val), (1, r.val)]) Try.func25 rfl rfl rfl rfl (fun t v h => gs_ok (by repeat (first | exact GsOk.nil | refine GsOk.cons (by rfl) ?_)) t v h) (fun F => per (Rd TInt s) :: per (Rd TInt r) :: F) (fun _ => rfl) (fun E F => ?_)
  refine wc_seq ?_
  refine wc_region ?_
  refine wl_q (q_assign rfl) rfl ?_
  refine wl_nil ?_
  refine wq_then ?_
  refine wc_seq ?_
  refine wc_seq ?_
  refine wc_region ?_
  refine wl_q (q_move rfl) rfl ?_
  refine wl_q (q_len (e := 3) (by kernel_rfl) rfl) rfl ?_
  refine wl_q (q_move rfl) rfl ?_
  refine wl_q (q_len (e := 3) (by kernel_rfl) rfl) rfl ?_
  refine wl_q (q_neq rfl rfl) rfl ?_
  refine wl_nil ?_
  refine wq_then ?_
  refine wc_cond _ rfl (fun hc10 => ?_) (fun hc10 => ?_)
  · have hc10_ := hc10; try simp only [decide_eq_true_eq, decide_eq_false_iff_not, Bool.not_eq_true', Bool.not_eq_false', Decidable.not_not, Int.not_lt, Int.not_le, Bool.and_eq_true, Bool.or_eq_true] at hc10_
    refine wc_seq ?_
    refine wc_region ?_
    refine wl_q (q_assign rfl) rfl ?_
    refine wl_nil ?_
    refine wq_then ?_
    refine wc_ret ?_
    refine wq_then_ret ?_
    refine wq_ret rfl (RVs.tmp rfl RVs.nil) (fun w_ hs_ => ?_)
    have hne : ¬ s.xs = r.xs := fun e => hc10_ (by rw [e])
    exact ⟨by rw [decide_eq_false hne]; rfl, Split.use (by repeat (first | exact Split.nil | (apply Split.keep; · ((repeat constructor); first | done | fail)) | (apply Split.take; · ((repeat constructor); first | done | fail)) | apply Split.drop)) hs_⟩
  · have hc10_ := hc10; try simp only [decide_eq_true_eq, decide_eq_false_iff_not, Bool.not_eq_true', Bool.not_eq_false', Decidable.not_not, Int.not_lt, Int.not_le, Bool.and_eq_true, Bool.or_eq_true] at hc10_
    refine wc_skip ?_
    refine wq_then ?_
    refine wc_seq ?_
    refine wc_seq ?_
    refine wc_region ?_
    refine wl_q (q_assign rfl) rfl ?_
    refine wl_nil ?_
    refine wq_then ?_
    refine wc_block ?_
    refine wc_loop (γ := (Int)) (fun g_ => (s.xs.length = r.xs.length) ∧ (0 ≤ g_) ∧ (g_ ≤ s.xs.length) ∧ (∀ j : Int, 0 ≤ j → j < g_ → gi s.xs j = gi r.xs j)) (fun g_ => [(0, s.val), (1, r.val), (5, .int .i64 g_)]) (fun g_ => per (Rd TInt s) :: per (Rd TInt r) :: F) (fun g_ => ((s.xs.length : Int) - g_).toNat) (0) (⟨(show s.xs.length = r.xs.length from (by omega)), (show 0 ≤ (0 : Int) from (by omega)), (show (0 : Int) ≤ s.xs.length from (by omega)), (show ∀ j : Int, 0 ≤ j → j < (0 : Int) → gi s.xs j = gi r.xs j from (fun j a b => by omega))⟩) (by repeat (first | exact Sub.nil | refine Sub.cons (by rfl) ?_)) (Ent.of_split (by repeat (first | exact Split.all | exact Split.nil | (apply Split.keep; · ((repeat constructor); first | done | fail)) | (apply Split.take; · ((repeat constructor); first | done | fail)) | apply Split.drop))) ?_
    rintro i ⟨hl, h0, h1, h2⟩
    replace hl : s.xs.length = r.xs.length := hl
    replace h0 : 0 ≤ i := h0
    replace h1 : i ≤ s.xs.length := h1
    replace h2 : ∀ j : Int, 0 ≤ j → j < i → gi s.xs j = gi r.xs j := h2
    refine wc_ent (gs := [(0, s.val), (1, r.val), (5, .int .i64 i)]) (by repeat (first | exact Sub.nil | refine Sub.cons (by rfl) ?_)) (L' := per (Rd TInt s) :: per (Rd TInt r) :: F) (Ent.refl _) ?_
    refine wc_seq ?_
    refine wc_seq ?_
    refine wc_region ?_
    refine wl_q (q_move rfl) rfl ?_
    refine wl_q (q_move rfl) rfl ?_
    refine wl_q (q_len (e := 3) (by kernel_rfl) rfl) rfl ?_
    refine wl_q (q_lss rfl rfl) rfl ?_
    refine wl_nil ?_
    refine wq_then ?_
    refine wc_cond _ rfl (fun hc14 => ?_) (fun hc14 => ?_)
    · have hc14_ := hc14; try simp only [decide_eq_true_eq, decide_eq_false_iff_not, Bool.not_eq_true', Bool.not_eq_false', Decidable.not_not, Int.not_lt, Int.not_le, Bool.and_eq_true, Bool.or_eq_true] at hc14_
      refine wc_skip ?_
      refine wq_then ?_
      refine wc_seq ?_
      refine wc_block ?_
      refine wc_seq ?_
      refine wc_quiet (by kernel_rfl) (by kernel_rfl) ?_
      refine wlq_q (q_move rfl) rfl ?_
      refine wlq_q (q_move rfl) rfl ?_
      refine wlq_q (by first | exact q_indexR (e := 3) (by kernel_rfl) (by kernel_rfl) rfl rfl (by ((repeat constructor); first | done | fail)) (by first | omega | (dsimp only; omega) | (simp only [Int.toNat_natCast, List.length_set, List.length_append, List.length_cons, List.length_nil] at *; omega)) (by first | omega | (dsimp only; omega) | (simp only [Int.toNat_natCast, List.length_set, List.length_append, List.length_cons, List.length_nil] at *; omega)) | exact q_indexO (e := 3) (by kernel_rfl) (by kernel_rfl) rfl rfl (by ((repeat constructor); first | done | fail)) (by first | omega | (dsimp only; omega) | (simp only [Int.toNat_natCast, List.length_set, List.length_append, List.length_cons, List.length_nil] at *; omega)) (by first | omega | (dsimp only; omega) | (simp only [Int.toNat_natCast, List.length_set, List.length_append, List.length_cons, List.length_nil] at *; omega))) rfl ?_
      refine wlq_q (by first | exact q_elemR1 (T := TInt) rfl (by kernel_rfl) (by ((repeat constructor); first | done | fail)) (gi_get (by omega) (by omega)) rfl | exact q_elemO1 (T := TInt) rfl (by kernel_rfl) (by ((repeat constructor); first | done | fail)) (gi_get (by omega) (by omega)) rfl) rfl ?_
      refine wlq_q (q_move rfl) rfl ?_
      refine wlq_q (q_move rfl) rfl ?_
      refine wlq_q (by first | exact q_indexR (e := 3) (by kernel_rfl) (by kernel_rfl) rfl rfl (by ((repeat constructor); first | done | fail)) (by first | omega | (dsimp only; omega) | (simp only [Int.toNat_natCast, List.length_set, List.length_append, List.length_cons, List.length_nil] at *; omega)) (by first | omega | (dsimp only; omega) | (simp only [Int.toNat_natCast, List.length_set, List.length_append, List.length_cons, List.length_nil] at *; omega)) | exact q_indexO (e := 3) (by kernel_rfl) (by kernel_rfl) rfl rfl (by ((repeat constructor); first | done | fail)) (by first | omega | (dsimp only; omega) | (simp only [Int.toNat_natCast, List.length_set, List.length_append, List.length_cons, List.length_nil] at *; omega)) (by first | omega | (dsimp only; omega) | (simp only [Int.toNat_natCast, List.length_set, List.length_append, List.length_cons, List.length_nil] at *; omega))) rfl ?_
      refine wlq_q (by first | exact q_elemR1 (T := TInt) rfl (by kernel_rfl) (by ((repeat constructor); first | done | fail)) (gi_get (by omega) (by omega)) rfl | exact q_elemO1 (T := TInt) rfl (by kernel_rfl) (by ((repeat constructor); first | done | fail)) (gi_get (by omega) (by omega)) rfl) rfl ?_
      refine wlq_q (q_neq rfl rfl) rfl ?_
      refine wlq_nil ?_
      refine wq_then ?_
      refine wc_cond _ rfl (fun hc25 => ?_) (fun hc25 => ?_)
      · have hc25_ := hc25; try simp only [decide_eq_true_eq, decide_eq_false_iff_not, Bool.not_eq_true', Bool.not_eq_false', Decidable.not_not, Int.not_lt, Int.not_le, Bool.and_eq_true, Bool.or_eq_true] at hc25_
        refine wc_seq ?_
        refine wc_region ?_
        refine wl_q (q_assign rfl) rfl ?_
        refine wl_nil ?_
        refine wq_then ?_
        refine wc_ret ?_
        refine wq_block_ret ?_
        refine wq_then_ret ?_
        refine wq_then_ret ?_
        refine wq_block_ret ?_
        refine wq_then_ret ?_
        refine wq_ret rfl (RVs.tmp rfl RVs.nil) (fun w_ hs_ => ?_)
        have hne : ¬ s.xs = r.xs := fun e => hc25_ (by rw [e])
        exact ⟨by rw [decide_eq_false hne]; rfl, Split.use (by repeat (first | exact Split.nil | (apply Split.keep; · ((repeat constructor); first | done | fail)) | (apply Split.take; · ((repeat constructor); first | done | fail)) | apply Split.drop)) hs_⟩
      · have hc25_ := hc25; try simp only [decide_eq_true_eq, decide_eq_false_iff_not, Bool.not_eq_true', Bool.not_eq_false', Decidable.not_not, Int.not_lt, Int.not_le, Bool.and_eq_true, Bool.or_eq_true] at hc25_
        refine wc_skip ?_
        refine wq_block_normal ?_
        refine wq_then ?_
        refine wc_region ?_
        refine wl_q (q_move rfl) rfl ?_
        refine wl_q (q_add rfl rfl ⟨by omega, by omega⟩) rfl ?_
        refine wl_q (q_assign rfl) rfl ?_
        refine wl_nil ?_
        exact wq_meet (i + 1) (⟨⟨(show s.xs.length = r.xs.length from hl), (show 0 ≤ (i + 1 : Int) from (by omega)), (show (i + 1 : Int) ≤ s.xs.length from (by omega)), (show ∀ j : Int, 0 ≤ j → j < (i + 1 : Int) → gi s.xs j = gi r.xs j from (fun j a b => by rcases Int.lt_or_le j i with h | h; exact h2 j a h; rw [show j = i by omega]; exact hc25_))⟩, (show ((s.xs.length : Int) - (i + 1 : Int)).toNat < ((s.xs.length : Int) - i).toNat from (by omega))⟩) (by repeat (first | exact Sub.nil | refine Sub.cons (by rfl) ?_)) (Ent.of_split (by repeat (first | exact Split.all | exact Split.nil | (apply Split.keep; · ((repeat constructor); first | done | fail)) | (apply Split.take; · ((repeat constructor); first | done | fail)) | apply Split.drop)))
    · have hc14_ := hc14; try simp only [decide_eq_true_eq, decide_eq_false_iff_not, Bool.not_eq_true', Bool.not_eq_false', Decidable.not_not, Int.not_lt, Int.not_le, Bool.and_eq_true, Bool.or_eq_true] at hc14_
      refine wc_exit ?_
      refine wq_then_exit ?_
      refine wq_then_exit ?_
      refine wq_block_exit ?_
      refine wq_then ?_
      refine wc_seq ?_
      refine wc_region ?_
      refine wl_q (q_assign rfl) rfl ?_
      refine wl_nil ?_
      refine wq_then ?_
      refine wc_ret ?_
      refine wq_ret rfl (RVs.tmp rfl RVs.nil) (fun w_ hs_ => ?_)
      have he : s.xs = r.xs := gi_ext hl (fun j a b => h2 j a (by omega))
      exact ⟨by rw [decide_eq_true he]; rfl, Split.use (by repeat (first | exact Split.nil | (apply Split.keep; · ((repeat constructor); first | done | fail)) | (apply Split.take; · ((repeat constructor); first | done | fail)) | apply Split.drop)) hs_⟩

def okS20 (x : GSpec) : Bool := decide ((x.After.xs.length : Int) ≤ 20)
def okK20 (x : GTask) : Bool := decide ((x.Spec.After.xs.length : Int) ≤ 20) && decide ((x.Burnt.xs.length : Int) ≤ 40)
def f_ref22_Few (most : Int) (l : List GSpec) : Bool := decide ((l.length : Int) ≤ most) && l.all okS20
def f_ref23_Few (most : Int) (l : List GTask) : Bool := decide ((l.length : Int) ≤ most) && l.all okK20
theorem allP_of {α : Type} {p : α → Bool} {l : List α} (h : ∀ (j : Nat) (b : α), l[j]? = some b → p b = true) : l.all p = true := List.all_eq_true.2 fun x hx => by
  obtain ⟨j, hj, rfl⟩ := List.mem_iff_getElem.1 hx
  exact h j _ (List.getElem?_eq_getElem hj)
theorem allP_not {α : Type} {p : α → Bool} {l : List α} {j : Nat} {b : α} (h : l[j]? = some b) (hb : p b = false) : l.all p = false := by
  cases hq : l.all p with
  | false => rfl
  | true => have := List.all_eq_true.1 hq b (List.mem_of_getElem? h); rw [hb] at this; cases this

set_option maxHeartbeats 400000 in
theorem S_ref22_Few (s : Sl GSpec) (most : Int) (hs : s.xs.length ≤ 17592186044416) : Fn Try.prog 21 [s.val, .int .i64 most] [per (Rd TSpec s)] (fun v_ S_ => v_ = .bool (f_ref22_Few most s.xs) ∧ S_ []) := by
  refine fn_intro (m := 23) (gs := [(0, s.val), (1, .int .i64 most)]) Try.func21 rfl rfl rfl rfl (fun t v h => gs_ok (by repeat (first | exact GsOk.nil | refine GsOk.cons (by rfl) ?_)) t v h) (fun F => per (Rd TSpec s) :: F) (fun _ => rfl) (fun E F => ?_)
  have hbig2 := big_is
  refine wc_seq ?_
  refine wc_region ?_
  refine wl_q (q_assign rfl) rfl ?_
  refine wl_nil ?_
  refine wq_then ?_
  refine wc_seq ?_
  refine wc_seq ?_
  refine wc_region ?_
  refine wl_q (q_move rfl) rfl ?_
  refine wl_q (q_len (e := 67) (by kernel_rfl) rfl) rfl ?_
  refine wl_q (q_move rfl) rfl ?_
  refine wl_q (q_gtr rfl rfl) rfl ?_
  refine wl_nil ?_
  refine wq_then ?_
  refine wc_cond _ rfl (fun hc9 => ?_) (fun hc9 => ?_)
  · have hc9_ := hc9; try simp only [decide_eq_true_eq, decide_eq_false_iff_not, Bool.not_eq_true', Bool.not_eq_false', Decidable.not_not, Int.not_lt, Int.not_le, Bool.and_eq_true, Bool.or_eq_true] at hc9_
    refine wc_seq ?_
    refine wc_region ?_
    refine wl_q (q_assign rfl) rfl ?_
    refine wl_nil ?_
    refine wq_then ?_
    refine wc_ret ?_
    refine wq_then_ret ?_
    refine wq_ret rfl (RVs.tmp rfl RVs.nil) (fun w_ hs_ => ?_)
    exact ⟨by unfold f_ref22_Few; rw [decide_eq_false (by omega)]; rfl, Split.use (by repeat (first | exact Split.nil | (apply Split.keep; · ((repeat constructor); first | done | fail)) | (apply Split.take; · ((repeat constructor); first | done | fail)) | apply Split.drop)) hs_⟩
  · have hc9_ := hc9; try simp only [decide_eq_true_eq, decide_eq_false_iff_not, Bool.not_eq_true', Bool.not_eq_false', Decidable.not_not, Int.not_lt, Int.not_le, Bool.and_eq_true, Bool.or_eq_true] at hc9_
    refine wc_skip ?_
    refine wq_then ?_
    refine wc_seq ?_
    refine wc_seq ?_
    refine wc_region ?_
    refine wl_q (q_assign rfl) rfl ?_
    refine wl_nil ?_
    refine wq_then ?_
    refine wc_block ?_
    refine wc_loop (γ := (Int)) (fun g_ => ((s.xs.length : Int) ≤ most) ∧ (0 ≤ g_) ∧ (g_ ≤ s.xs.length) ∧ (∀ j : Nat, (j : Int) < g_ → ∀ y, s.xs[j]? = some y → okS20 y = true)) (fun g_ => [(0, s.val), (1, .int .i64 most), (5, .int .i64 g_)]) (fun g_ => per (Rd TSpec s) :: F) (fun g_ => ((s.xs.length : Int) - g_).toNat) (0) (⟨(show (s.xs.length : Int) ≤ most from (by omega)), (show 0 ≤ (0 : Int) from (by omega)), (show (0 : Int) ≤ s.xs.length from (by omega)), (show ∀ j : Nat, (j : Int) < (0 : Int) → ∀ y, s.xs[j]? = some y → okS20 y = true from (fun j h => by omega))⟩) (by repeat (first | exact Sub.nil | refine Sub.cons (by rfl) ?_)) (Ent.of_split (by repeat (first | exact Split.all | exact Split.nil | (apply Split.keep; · ((repeat constructor); first | done | fail)) | (apply Split.take; · ((repeat constructor); first | done | fail)) | apply Split.drop))) ?_
    rintro i ⟨hm, h0, h1, h2⟩
    replace hm : (s.xs.length : Int) ≤ most := hm
    replace h0 : 0 ≤ i := h0
    replace h1 : i ≤ s.xs.length := h1
    replace h2 : ∀ j : Nat, (j : Int) < i → ∀ y, s.xs[j]? = some y → okS20 y = true := h2
    refine wc_ent (gs := [(0, s.val), (1, .int .i64 most), (5, .int .i64 i)]) (by repeat (first | exact Sub.nil | refine Sub.cons (by rfl) ?_)) (L' := per (Rd TSpec s) :: F) (Ent.refl _) ?_
    refine wc_seq ?_
    refine wc_seq ?_
    refine wc_region ?_
    refine wl_q (q_move rfl) rfl ?_
    refine wl_q (q_move rfl) rfl ?_
    refine wl_q (q_len (e := 67) (by kernel_rfl) rfl) rfl ?_
    refine wl_q (q_lss rfl rfl) rfl ?_
    refine wl_nil ?_
    refine wq_then ?_
    refine wc_cond _ rfl (fun hc13 => ?_) (fun hc13 => ?_)
    · have hc13_ := hc13; try simp only [decide_eq_true_eq, decide_eq_false_iff_not, Bool.not_eq_true', Bool.not_eq_false', Decidable.not_not, Int.not_lt, Int.not_le, Bool.and_eq_true, Bool.or_eq_true] at hc13_
      obtain ⟨x, hx⟩ : ∃ x, s.xs[i.toNat]? = some x := ⟨_, List.getElem?_eq_getElem (by omega)⟩
      refine wc_skip ?_
      refine wq_then ?_
      refine wc_seq ?_
      refine wc_block ?_
      refine wc_seq ?_
      refine wc_region ?_
      refine wl_q (q_move rfl) rfl ?_
      refine wl_q (q_move rfl) rfl ?_
      refine wl_q (by first | exact q_indexR (e := 67) (by kernel_rfl) (by kernel_rfl) rfl rfl (by ((repeat constructor); first | done | fail)) (by first | omega | (dsimp only; omega) | (simp only [Int.toNat_natCast, List.length_set, List.length_append, List.length_cons, List.length_nil] at *; omega)) (by first | omega | (dsimp only; omega) | (simp only [Int.toNat_natCast, List.length_set, List.length_append, List.length_cons, List.length_nil] at *; omega)) | exact q_indexO (e := 67) (by kernel_rfl) (by kernel_rfl) rfl rfl (by ((repeat constructor); first | done | fail)) (by first | omega | (dsimp only; omega) | (simp only [Int.toNat_natCast, List.length_set, List.length_append, List.length_cons, List.length_nil] at *; omega)) (by first | omega | (dsimp only; omega) | (simp only [Int.toNat_natCast, List.length_set, List.length_append, List.length_cons, List.length_nil] at *; omega))) rfl ?_
      refine wl_q (q_fieldAddr (off := 8) (by kernel_rfl) rfl) rfl ?_
      refine wl_q (by first | exact q_elemR rfl (by kernel_rfl) (by ((repeat constructor); first | done | fail)) (by assumption) (by rfl) | exact q_elemO rfl (by kernel_rfl) (by ((repeat constructor); first | done | fail)) (by assumption) (by rfl)) rfl ?_
      refine wl_q (q_len (e := 3) (by kernel_rfl) rfl) rfl ?_
      refine wl_q (q_gtr rfl rfl) rfl ?_
      refine wl_nil ?_
      refine wq_then ?_
      refine wc_cond _ rfl (fun hc22 => ?_) (fun hc22 => ?_)
      · have hc22_ := hc22; try simp only [decide_eq_true_eq, decide_eq_false_iff_not, Bool.not_eq_true', Bool.not_eq_false', Decidable.not_not, Int.not_lt, Int.not_le, Bool.and_eq_true, Bool.or_eq_true] at hc22_
        refine wc_seq ?_
        refine wc_region ?_
        refine wl_q (q_assign rfl) rfl ?_
        refine wl_nil ?_
        refine wq_then ?_
        refine wc_ret ?_
        refine wq_block_ret ?_
        refine wq_then_ret ?_
        refine wq_then_ret ?_
        refine wq_block_ret ?_
        refine wq_then_ret ?_
        refine wq_ret rfl (RVs.tmp rfl RVs.nil) (fun w_ hs_ => ?_)
        exact ⟨by unfold f_ref22_Few; rw [allP_not hx (by unfold okS20; rw [decide_eq_false (by omega)])]; simp [outV], Split.use (by repeat (first | exact Split.nil | (apply Split.keep; · ((repeat constructor); first | done | fail)) | (apply Split.take; · ((repeat constructor); first | done | fail)) | apply Split.drop)) hs_⟩
      · have hc22_ := hc22; try simp only [decide_eq_true_eq, decide_eq_false_iff_not, Bool.not_eq_true', Bool.not_eq_false', Decidable.not_not, Int.not_lt, Int.not_le, Bool.and_eq_true, Bool.or_eq_true] at hc22_
        refine wc_skip ?_
        refine wq_block_normal ?_
        refine wq_then ?_
        refine wc_region ?_
        refine wl_q (q_move rfl) rfl ?_
        refine wl_q (q_add rfl rfl ⟨by omega, by omega⟩) rfl ?_
        refine wl_q (q_assign rfl) rfl ?_
        refine wl_nil ?_
        exact wq_meet (i + 1) (⟨⟨(show (s.xs.length : Int) ≤ most from hm), (show 0 ≤ (i + 1 : Int) from (by omega)), (show (i + 1 : Int) ≤ s.xs.length from (by omega)), (show ∀ j : Nat, (j : Int) < (i + 1 : Int) → ∀ y, s.xs[j]? = some y → okS20 y = true from (fun j h y hy => by rcases Int.lt_or_le (j : Int) i with h3 | h3; exact h2 j h3 y hy; rw [show j = i.toNat by omega, hx] at hy; simp only [Option.some.injEq] at hy; rw [← hy]; unfold okS20; simp; omega))⟩, (show ((s.xs.length : Int) - (i + 1 : Int)).toNat < ((s.xs.length : Int) - i).toNat from (by omega))⟩) (by repeat (first | exact Sub.nil | refine Sub.cons (by rfl) ?_)) (Ent.of_split (by repeat (first | exact Split.all | exact Split.nil | (apply Split.keep; · ((repeat constructor); first | done | fail)) | (apply Split.take; · ((repeat constructor); first | done | fail)) | apply Split.drop)))
    · have hc13_ := hc13; try simp only [decide_eq_true_eq, decide_eq_false_iff_not, Bool.not_eq_true', Bool.not_eq_false', Decidable.not_not, Int.not_lt, Int.not_le, Bool.and_eq_true, Bool.or_eq_true] at hc13_
      refine wc_exit ?_
      refine wq_then_exit ?_
      refine wq_then_exit ?_
      refine wq_block_exit ?_
      refine wq_then ?_
      refine wc_seq ?_
      refine wc_region ?_
      refine wl_q (q_assign rfl) rfl ?_
      refine wl_nil ?_
      refine wq_then ?_
      refine wc_ret ?_
      refine wq_ret rfl (RVs.tmp rfl RVs.nil) (fun w_ hs_ => ?_)
      exact ⟨by unfold f_ref22_Few; rw [decide_eq_true hm, allP_of (fun j b hb => h2 j (by have := (List.getElem?_eq_some_iff.1 hb).1; omega) b hb)]; rfl, Split.use (by repeat (first | exact Split.nil | (apply Split.keep; · ((repeat constructor); first | done | fail)) | (apply Split.take; · ((repeat constructor); first | done | fail)) | apply Split.drop)) hs_⟩

set_option maxHeartbeats 400000 in
theorem S_ref23_Few (s : Sl GTask) (most : Int) (hs : s.xs.length ≤ 17592186044416) : Fn Try.prog 20 [s.val, .int .i64 most] [per (Rd TTask s)] (fun v_ S_ => v_ = .bool (f_ref23_Few most s.xs) ∧ S_ []) := by
  refine fn_intro (m := 33) (gs := [(0, s.val), (1, .int .i64 most)]) Try.func20 rfl rfl rfl rfl (fun t v h => gs_ok (by repeat (first | exact GsOk.nil | refine GsOk.cons (by rfl) ?_)) t v h) (fun F => per (Rd TTask s) :: F) (fun _ => rfl) (fun E F => ?_)
  have hbig2 := big_is
  refine wc_seq ?_
  refine wc_region ?_
  refine wl_q (q_assign rfl) rfl ?_
  refine wl_nil ?_
  refine wq_then ?_
  refine wc_seq ?_
  refine wc_seq ?_
  refine wc_region ?_
  refine wl_q (q_move rfl) rfl ?_
  refine wl_q (q_len (e := 71) (by kernel_rfl) rfl) rfl ?_
  refine wl_q (q_move rfl) rfl ?_
  refine wl_q (q_gtr rfl rfl) rfl ?_
  refine wl_nil ?_
  refine wq_then ?_
  refine wc_cond _ rfl (fun hc9 => ?_) (fun hc9 => ?_)
  · have hc9_ := hc9; try simp only [decide_eq_true_eq, decide_eq_false_iff_not, Bool.not_eq_true', Bool.not_eq_false', Decidable.not_not, Int.not_lt, Int.not_le, Bool.and_eq_true, Bool.or_eq_true] at hc9_
    refine wc_seq ?_
    refine wc_region ?_
    refine wl_q (q_assign rfl) rfl ?_
    refine wl_nil ?_
    refine wq_then ?_
    refine wc_ret ?_
    refine wq_then_ret ?_
    refine wq_ret rfl (RVs.tmp rfl RVs.nil) (fun w_ hs_ => ?_)
    exact ⟨by unfold f_ref23_Few; rw [decide_eq_false (by omega)]; rfl, Split.use (by repeat (first | exact Split.nil | (apply Split.keep; · ((repeat constructor); first | done | fail)) | (apply Split.take; · ((repeat constructor); first | done | fail)) | apply Split.drop)) hs_⟩
  · have hc9_ := hc9; try simp only [decide_eq_true_eq, decide_eq_false_iff_not, Bool.not_eq_true', Bool.not_eq_false', Decidable.not_not, Int.not_lt, Int.not_le, Bool.and_eq_true, Bool.or_eq_true] at hc9_
    refine wc_skip ?_
    refine wq_then ?_
    refine wc_seq ?_
    refine wc_seq ?_
    refine wc_region ?_
    refine wl_q (q_assign rfl) rfl ?_
    refine wl_nil ?_
    refine wq_then ?_
    refine wc_block ?_
    refine wc_loop (γ := (Int)) (fun g_ => ((s.xs.length : Int) ≤ most) ∧ (0 ≤ g_) ∧ (g_ ≤ s.xs.length) ∧ (∀ j : Nat, (j : Int) < g_ → ∀ y, s.xs[j]? = some y → okK20 y = true)) (fun g_ => [(0, s.val), (1, .int .i64 most), (5, .int .i64 g_)]) (fun g_ => per (Rd TTask s) :: F) (fun g_ => ((s.xs.length : Int) - g_).toNat) (0) (⟨(show (s.xs.length : Int) ≤ most from (by omega)), (show 0 ≤ (0 : Int) from (by omega)), (show (0 : Int) ≤ s.xs.length from (by omega)), (show ∀ j : Nat, (j : Int) < (0 : Int) → ∀ y, s.xs[j]? = some y → okK20 y = true from (fun j h => by omega))⟩) (by repeat (first | exact Sub.nil | refine Sub.cons (by rfl) ?_)) (Ent.of_split (by repeat (first | exact Split.all | exact Split.nil | (apply Split.keep; · ((repeat constructor); first | done | fail)) | (apply Split.take; · ((repeat constructor); first | done | fail)) | apply Split.drop))) ?_
    rintro i ⟨hm, h0, h1, h2⟩
    replace hm : (s.xs.length : Int) ≤ most := hm
    replace h0 : 0 ≤ i := h0
    replace h1 : i ≤ s.xs.length := h1
    replace h2 : ∀ j : Nat, (j : Int) < i → ∀ y, s.xs[j]? = some y → okK20 y = true := h2
    refine wc_ent (gs := [(0, s.val), (1, .int .i64 most), (5, .int .i64 i)]) (by repeat (first | exact Sub.nil | refine Sub.cons (by rfl) ?_)) (L' := per (Rd TTask s) :: F) (Ent.refl _) ?_
    refine wc_seq ?_
    refine wc_seq ?_
    refine wc_region ?_
    refine wl_q (q_move rfl) rfl ?_
    refine wl_q (q_move rfl) rfl ?_
    refine wl_q (q_len (e := 71) (by kernel_rfl) rfl) rfl ?_
    refine wl_q (q_lss rfl rfl) rfl ?_
    refine wl_nil ?_
    refine wq_then ?_
    refine wc_cond _ rfl (fun hc13 => ?_) (fun hc13 => ?_)
    · have hc13_ := hc13; try simp only [decide_eq_true_eq, decide_eq_false_iff_not, Bool.not_eq_true', Bool.not_eq_false', Decidable.not_not, Int.not_lt, Int.not_le, Bool.and_eq_true, Bool.or_eq_true] at hc13_
      obtain ⟨x, hx⟩ : ∃ x, s.xs[i.toNat]? = some x := ⟨_, List.getElem?_eq_getElem (by omega)⟩
      refine wc_skip ?_
      refine wq_then ?_
      refine wc_seq ?_
      refine wc_block ?_
      refine wc_seq ?_
      refine wc_region ?_
      refine wl_q (q_move rfl) rfl ?_
      refine wl_q (q_move rfl) rfl ?_
      refine wl_q (by first | exact q_indexR (e := 71) (by kernel_rfl) (by kernel_rfl) rfl rfl (by ((repeat constructor); first | done | fail)) (by first | omega | (dsimp only; omega) | (simp only [Int.toNat_natCast, List.length_set, List.length_append, List.length_cons, List.length_nil] at *; omega)) (by first | omega | (dsimp only; omega) | (simp only [Int.toNat_natCast, List.length_set, List.length_append, List.length_cons, List.length_nil] at *; omega)) | exact q_indexO (e := 71) (by kernel_rfl) (by kernel_rfl) rfl rfl (by ((repeat constructor); first | done | fail)) (by first | omega | (dsimp only; omega) | (simp only [Int.toNat_natCast, List.length_set, List.length_append, List.length_cons, List.length_nil] at *; omega)) (by first | omega | (dsimp only; omega) | (simp only [Int.toNat_natCast, List.length_set, List.length_append, List.length_cons, List.length_nil] at *; omega))) rfl ?_
      refine wl_q (q_fieldAddr (off := 0) (by kernel_rfl) rfl) rfl ?_
      refine wl_q (q_fieldAddr (off := 8) (by kernel_rfl) rfl) rfl ?_
      refine wl_q (by first | exact q_elemR2 rfl (by kernel_rfl) (by ((repeat constructor); first | done | fail)) (by assumption) (by rfl) | exact q_elemO2 rfl (by kernel_rfl) (by ((repeat constructor); first | done | fail)) (by assumption) (by rfl)) rfl ?_
      refine wl_q (q_len (e := 3) (by kernel_rfl) rfl) rfl ?_
      refine wl_q (q_gtr rfl rfl) rfl ?_
      refine wl_q (q_move rfl) rfl ?_
      refine wl_split 24 _ rfl (fun hb24 => ?_) (fun hb24 => ?_)
      · have hb24_ := hb24; try simp only [decide_eq_true_eq, decide_eq_false_iff_not, Bool.not_eq_true', Bool.not_eq_false', Decidable.not_not, Int.not_lt, Int.not_le, Bool.and_eq_true, Bool.or_eq_true] at hb24_
        refine wl_skip 24 rfl (lk_bool rfl hb24) (by intro h; cases h) rfl ?_
        refine wl_skip 24 rfl (lk_bool rfl hb24) (by intro h; cases h) rfl ?_
        refine wl_skip 24 rfl (lk_bool rfl hb24) (by intro h; cases h) rfl ?_
        refine wl_skip 24 rfl (lk_bool rfl hb24) (by intro h; cases h) rfl ?_
        refine wl_skip 24 rfl (lk_bool rfl hb24) (by intro h; cases h) rfl ?_
        refine wl_skip 24 rfl (lk_bool rfl hb24) (by intro h; cases h) rfl ?_
        refine wl_skip 24 rfl (lk_bool rfl hb24) (by intro h; cases h) rfl ?_
        refine wl_q (q_pickT rfl hb24 rfl) rfl ?_
        refine wl_nil ?_
        refine wq_then ?_
        refine wc_condT _ rfl rfl ?_
        refine wc_seq ?_
        refine wc_region ?_
        refine wl_q (q_assign rfl) rfl ?_
        refine wl_nil ?_
        refine wq_then ?_
        refine wc_ret ?_
        refine wq_block_ret ?_
        refine wq_then_ret ?_
        refine wq_then_ret ?_
        refine wq_block_ret ?_
        refine wq_then_ret ?_
        refine wq_ret rfl (RVs.tmp rfl RVs.nil) (fun w_ hs_ => ?_)
        exact ⟨by unfold f_ref23_Few; rw [allP_not hx (by unfold okK20; rw [decide_eq_false (by omega)]; rfl)]; simp [outV], Split.use (by repeat (first | exact Split.nil | (apply Split.keep; · ((repeat constructor); first | done | fail)) | (apply Split.take; · ((repeat constructor); first | done | fail)) | apply Split.drop)) hs_⟩
      · have hb24_ := hb24; try simp only [decide_eq_true_eq, decide_eq_false_iff_not, Bool.not_eq_true', Bool.not_eq_false', Decidable.not_not, Int.not_lt, Int.not_le, Bool.and_eq_true, Bool.or_eq_true] at hb24_
        refine wl_g 24 rfl (lk_bool rfl hb24) (q_move rfl) rfl ?_
        refine wl_g 24 rfl (lk_bool rfl hb24) (q_move rfl) rfl ?_
        refine wl_g 24 rfl (lk_bool rfl hb24) (by first | exact q_indexR (e := 71) (by kernel_rfl) (by kernel_rfl) rfl rfl (by ((repeat constructor); first | done | fail)) (by first | omega | (dsimp only; omega) | (simp only [Int.toNat_natCast, List.length_set, List.length_append, List.length_cons, List.length_nil] at *; omega)) (by first | omega | (dsimp only; omega) | (simp only [Int.toNat_natCast, List.length_set, List.length_append, List.length_cons, List.length_nil] at *; omega)) | exact q_indexO (e := 71) (by kernel_rfl) (by kernel_rfl) rfl rfl (by ((repeat constructor); first | done | fail)) (by first | omega | (dsimp only; omega) | (simp only [Int.toNat_natCast, List.length_set, List.length_append, List.length_cons, List.length_nil] at *; omega)) (by first | omega | (dsimp only; omega) | (simp only [Int.toNat_natCast, List.length_set, List.length_append, List.length_cons, List.length_nil] at *; omega))) rfl ?_
        refine wl_g 24 rfl (lk_bool rfl hb24) (q_fieldAddr (off := 13) (by kernel_rfl) rfl) rfl ?_
        refine wl_g 24 rfl (lk_bool rfl hb24) (by first | exact q_elemR rfl (by kernel_rfl) (by ((repeat constructor); first | done | fail)) (by assumption) (by rfl) | exact q_elemO rfl (by kernel_rfl) (by ((repeat constructor); first | done | fail)) (by assumption) (by rfl)) rfl ?_
        refine wl_g 24 rfl (lk_bool rfl hb24) (q_len (e := 3) (by kernel_rfl) rfl) rfl ?_
        refine wl_g 24 rfl (lk_bool rfl hb24) (q_gtr rfl rfl) rfl ?_
        refine wl_q (q_pickF rfl hb24 rfl) rfl ?_
        refine wl_nil ?_
        refine wq_then ?_
        refine wc_cond _ rfl (fun hc32 => ?_) (fun hc32 => ?_)
        · have hc32_ := hc32; try simp only [decide_eq_true_eq, decide_eq_false_iff_not, Bool.not_eq_true', Bool.not_eq_false', Decidable.not_not, Int.not_lt, Int.not_le, Bool.and_eq_true, Bool.or_eq_true] at hc32_
          refine wc_seq ?_
          refine wc_region ?_
          refine wl_q (q_assign rfl) rfl ?_
          refine wl_nil ?_
          refine wq_then ?_
          refine wc_ret ?_
          refine wq_block_ret ?_
          refine wq_then_ret ?_
          refine wq_then_ret ?_
          refine wq_block_ret ?_
          refine wq_then_ret ?_
          refine wq_ret rfl (RVs.tmp rfl RVs.nil) (fun w_ hs_ => ?_)
          exact ⟨by unfold f_ref23_Few; rw [allP_not hx (by unfold okK20; rw [decide_eq_false (p := (x.Burnt.xs.length : Int) ≤ 40) (by omega)]; simp)]; simp [outV], Split.use (by repeat (first | exact Split.nil | (apply Split.keep; · ((repeat constructor); first | done | fail)) | (apply Split.take; · ((repeat constructor); first | done | fail)) | apply Split.drop)) hs_⟩
        · have hc32_ := hc32; try simp only [decide_eq_true_eq, decide_eq_false_iff_not, Bool.not_eq_true', Bool.not_eq_false', Decidable.not_not, Int.not_lt, Int.not_le, Bool.and_eq_true, Bool.or_eq_true] at hc32_
          refine wc_skip ?_
          refine wq_block_normal ?_
          refine wq_then ?_
          refine wc_region ?_
          refine wl_q (q_move rfl) rfl ?_
          refine wl_q (q_add rfl rfl ⟨by omega, by omega⟩) rfl ?_
          refine wl_q (q_assign rfl) rfl ?_
          refine wl_nil ?_
          exact wq_meet (i + 1) (⟨⟨(show (s.xs.length : Int) ≤ most from hm), (show 0 ≤ (i + 1 : Int) from (by omega)), (show (i + 1 : Int) ≤ s.xs.length from (by omega)), (show ∀ j : Nat, (j : Int) < (i + 1 : Int) → ∀ y, s.xs[j]? = some y → okK20 y = true from (fun j h y hy => by rcases Int.lt_or_le (j : Int) i with h3 | h3; exact h2 j h3 y hy; rw [show j = i.toNat by omega, hx] at hy; simp only [Option.some.injEq] at hy; rw [← hy]; unfold okK20; simp; omega))⟩, (show ((s.xs.length : Int) - (i + 1 : Int)).toNat < ((s.xs.length : Int) - i).toNat from (by omega))⟩) (by repeat (first | exact Sub.nil | refine Sub.cons (by rfl) ?_)) (Ent.of_split (by repeat (first | exact Split.all | exact Split.nil | (apply Split.keep; · ((repeat constructor); first | done | fail)) | (apply Split.take; · ((repeat constructor); first | done | fail)) | apply Split.drop)))
    · have hc13_ := hc13; try simp only [decide_eq_true_eq, decide_eq_false_iff_not, Bool.not_eq_true', Bool.not_eq_false', Decidable.not_not, Int.not_lt, Int.not_le, Bool.and_eq_true, Bool.or_eq_true] at hc13_
      refine wc_exit ?_
      refine wq_then_exit ?_
      refine wq_then_exit ?_
      refine wq_block_exit ?_
      refine wq_then ?_
      refine wc_seq ?_
      refine wc_region ?_
      refine wl_q (q_assign rfl) rfl ?_
      refine wl_nil ?_
      refine wq_then ?_
      refine wc_ret ?_
      refine wq_ret rfl (RVs.tmp rfl RVs.nil) (fun w_ hs_ => ?_)
      exact ⟨by unfold f_ref23_Few; rw [decide_eq_true hm, allP_of (fun j b hb => h2 j (by have := (List.getElem?_eq_some_iff.1 hb).1; omega) b hb)]; rfl, Split.use (by repeat (first | exact Split.nil | (apply Split.keep; · ((repeat constructor); first | done | fail)) | (apply Split.take; · ((repeat constructor); first | done | fail)) | apply Split.drop)) hs_⟩

set_option maxHeartbeats 400000 in
theorem S_batch_Free1 (rk rf : Nat) (kn : List (Int × Int)) (l : Sl GSpec) (bb : Nat) (id : Int) : Fn Try.prog 111 [.int .i64 id, .pointer (some ⟨bb, 0, none⟩)] [star (mpI rk kn) (cb bb (bookc rk rf l) 130)] (fun v_ S_ => v_ = .bool (decide (¬ (aget kn id).getD 0 = 4)) ∧ S_ [star (mpI rk kn) (cb bb (bookc rk rf l) 130)]) := by
  refine fn_intro (m := 9) (gs := [(0, .int .i64 id), (1, .pointer (some ⟨bb, 0, none⟩))]) Try.func111 rfl rfl rfl rfl (fun t v h => gs_ok (by repeat (first | exact GsOk.nil | refine GsOk.cons (by rfl) ?_)) t v h) (fun F => star (mpI rk kn) (cb bb (bookc rk rf l) 130) :: F) (fun _ => rfl) (fun E F => ?_)
  refine wc_star (by ((repeat constructor); first | done | fail)) ?_
  refine wc_seq ?_
  refine wc_region ?_
  refine wl_q (q_assign rfl) rfl ?_
  refine wl_nil ?_
  refine wq_then ?_
  refine wc_seq ?_
  refine wc_region ?_
  refine wl_q (q_fieldAddr (off := 0) (by kernel_rfl) rfl) rfl ?_
  refine wl_q (q_loadC rfl (by kernel_rfl) (by ((repeat constructor); first | done | fail)) (by rfl)) rfl ?_
  refine wl_q (q_move rfl) rfl ?_
  refine wl_q (q_lookupI (kt := 3) (et := 3) (by kernel_rfl) (by kernel_rfl) (by unfold zeroIs; kernel_rfl) rfl rfl (by ((repeat constructor); first | done | fail))) rfl ?_
  refine wl_q (q_neq rfl rfl) rfl ?_
  refine wl_q (q_assign rfl) rfl ?_
  refine wl_nil ?_
  refine wq_then ?_
  refine wc_ret ?_
  refine wq_ret rfl (RVs.tmp rfl RVs.nil) (fun w_ hs_ => ?_)
  exact ⟨rfl, (show sats _ _ ([mpI rk kn, cb bb (bookc rk rf l) 130] ++ F) from Split.use (by repeat (first | exact Split.nil | (apply Split.keep; · ((repeat constructor); first | done | fail)) | (apply Split.take; · ((repeat constructor); first | done | fail)) | apply Split.drop)) hs_).star_put⟩

def isFree (known : List GTask) (x : GSpec) : Bool := !(x.After.xs.any fun id => decide (¬ (knF known id).getD 0 = 4))
def freeF (known : List GTask) (l : List GSpec) : List Int := (l.filter (isFree known)).map (·.ID)
theorem freeF_add (known : List GTask) (l : List GSpec) (x : GSpec) : freeF known (l ++ [x]) = freeF known l ++ (if isFree known x = true then [x.ID] else []) := by
  unfold freeF
  rw [List.filter_append, List.map_append]
  by_cases h : isFree known x = true
  · simp [h]
  · simp [h]
theorem freeF_len (known : List GTask) (l : List GSpec) : (freeF known l).length ≤ l.length := by unfold freeF; rw [List.length_map]; exact List.length_filter_le ..

set_option maxHeartbeats 400000 in
theorem S_batch_Free (known : Sl GTask) (l : Sl GSpec) (hk : known.xs.length ≤ 17592186044416) (hl : l.xs.length < 1099511627776) : Fn Try.prog 74 [known.val, l.val] [per (Rd TTask known), per (Rd TSpec l)] (fun v_ S_ => ∃ s : Sl Int, v_ = s.val ∧ s.xs = freeF known.xs l.xs ∧ S_ [Own TInt 3 s]) := by
  refine fn_intro (m := 29) (gs := [(0, known.val), (1, l.val)]) Try.func74 rfl rfl rfl rfl (fun t v h => gs_ok (by repeat (first | exact GsOk.nil | refine GsOk.cons (by rfl) ?_)) t v h) (fun F => per (Rd TTask known) :: per (Rd TSpec l) :: F) (fun _ => rfl) (fun E F => ?_)
  have hbig2 := big_is
  refine wc_rdF (s := l) (by ((repeat constructor); first | done | fail)) fun hcap hbig hok => ?_
  obtain ⟨M_, hok⟩ := hok
  refine wc_entL (ent_rdNil TSpec) ?_
  refine wc_seq ?_
  refine wc_region ?_
  refine wl_q (q_assign rfl) rfl ?_
  refine wl_nil ?_
  refine wq_then ?_
  refine wc_seq ?_
  refine wc_region ?_
  refine wl_q (q_move rfl) rfl ?_
  refine wl_l (lev_callF (S_batch_of known Sl.nil hk (by decide)) rfl rfl (by repeat (first | exact Split.nil | (apply Split.keep; · ((repeat constructor); first | done | fail)) | (apply Split.take; · ((repeat constructor); first | done | fail)) | apply Split.drop)) ?_)
  rintro v_ w_ ⟨rk, rf, kn, fr, rfl, ⟨hkn, hfr⟩, hs2⟩
  have hp : (fun id => decide (¬ (aget kn id).getD 0 = 4)) = fun id => decide (¬ (knF known.xs id).getD 0 = 4) := funext fun id => by rw [hkn]
  (try simp only [List.cons_append, List.nil_append] at hs2)
  refine ⟨_, hs2, ?_⟩
  refine wl_l (lev_alloc [(.map none), (.map none), (.slice none 0 0)] (.agg #[(.map none), (.map none), (.slice none 0 0)]) (by kernel_rfl) rfl rfl fun bb => ?_)
  refine wl_l ?_
  first | refine lev_store1 rfl rfl rfl (by kernel_rfl) rfl rfl (by ((repeat constructor); first | done | fail)) (by rfl) ?_ | refine lev_storeA rfl rfl (by ((repeat constructor); first | done | fail)) (by rfl) (by kernel_rfl) (by first | exact TThing.one _ | exact TSpec.one _ | exact TTask.one _ | exact TArc.one _ | exact TBounds.one _ | exact fun u hu => List.all_eq_true.1 (rfl : List.all _ (·.oneCell') = true) u hu) rfl ?_
  refine wl_nil ?_
  refine wq_then ?_
  refine wc_seq ?_
  refine wc_region ?_
  refine wl_q (q_assign rfl) rfl ?_
  refine wl_nil ?_
  refine wq_then ?_
  refine wc_seq ?_
  refine wc_seq ?_
  refine wc_entL (ent_own_nil TInt 3) ?_
  refine wc_entL (ent_star (A := mpI rk kn) (B := cb bb (bookc rk rf Sl.nil) 130) (by ((repeat constructor); first | done | fail)) (by ((repeat constructor); first | done | fail))) ?_
  refine wc_region ?_
  refine wl_q (q_move rfl) rfl ?_
  refine wl_q (q_len (e := 67) (by kernel_rfl) rfl) rfl ?_
  refine wl_q (q_move rfl) rfl ?_
  refine wl_nil ?_
  refine wq_then ?_
  refine wc_block ?_
  refine wc_loop (γ := (Int) × (Sl Int)) (fun g_ => (0 ≤ g_.1) ∧ (g_.1 ≤ l.xs.length) ∧ (g_.2.xs = freeF known.xs (l.xs.take g_.1.toNat))) (fun g_ => [(5, .pointer (some ⟨bb, 0, none⟩)), (6, g_.2.val), (11, l.val), (12, .int .i64 l.xs.length), (13, .int .i64 g_.1)]) (fun g_ => star (mpI rk kn) (cb bb (bookc rk rf Sl.nil) 130) :: per (Rd TSpec l) :: Own TInt 3 g_.2 :: F) (fun g_ => ((l.xs.length : Int) - g_.1).toNat) ((0, Sl.nil)) (⟨(show 0 ≤ (0 : Int) from (by omega)), (show (0 : Int) ≤ l.xs.length from (by omega)), (show (Sl.nil : Sl Int).xs = freeF known.xs (l.xs.take (0 : Int).toNat) from rfl)⟩) (by repeat (first | exact Sub.nil | refine Sub.cons (by rfl) ?_)) (Ent.of_split (by repeat (first | exact Split.all | exact Split.nil | (apply Split.keep; · ((repeat constructor); first | done | fail)) | (apply Split.take; · ((repeat constructor); first | done | fail)) | apply Split.drop))) ?_
  rintro ⟨i, s⟩ ⟨h0, h1, h2⟩
  replace h0 : 0 ≤ i := h0
  replace h1 : i ≤ l.xs.length := h1
  replace h2 : s.xs = freeF known.xs (l.xs.take i.toNat) := h2
  refine wc_ent (gs := [(5, .pointer (some ⟨bb, 0, none⟩)), (6, s.val), (11, l.val), (12, .int .i64 l.xs.length), (13, .int .i64 i)]) (by repeat (first | exact Sub.nil | refine Sub.cons (by rfl) ?_)) (L' := star (mpI rk kn) (cb bb (bookc rk rf Sl.nil) 130) :: per (Rd TSpec l) :: Own TInt 3 s :: F) (Ent.refl _) ?_
  refine wc_seq ?_
  refine wc_region ?_
  refine wl_q (q_lss rfl rfl) rfl ?_
  refine wl_nil ?_
  refine wq_then ?_
  refine wc_seq ?_
  refine wc_cond _ rfl (fun hc14 => ?_) (fun hc14 => ?_)
  · have hc14_ := hc14; try simp only [decide_eq_true_eq, decide_eq_false_iff_not, Bool.not_eq_true', Bool.not_eq_false', Decidable.not_not, Int.not_lt, Int.not_le, Bool.and_eq_true, Bool.or_eq_true] at hc14_
    obtain ⟨x, hx⟩ : ∃ x, l.xs[i.toNat]? = some x := ⟨_, List.getElem?_eq_getElem (by omega)⟩
    have e1 : l.xs.take (i + 1).toNat = l.xs.take i.toNat ++ [x] := by rw [show (i + 1).toNat = i.toNat + 1 by omega]; exact take_succ' hx
    have hxm := List.mem_of_getElem? hx
    have hxi : inI64 x.ID := (sokB_of (hok x hxm)).1
    have hq := freeF_len known.xs (l.xs.take i.toNat)
    have hq2 : (l.xs.take i.toNat).length = i.toNat := by simp; omega
    rw [← h2] at hq
    refine wc_skip ?_
    refine wq_then ?_
    refine wc_seq ?_
    refine wc_block ?_
    refine wc_seq ?_
    refine wc_region ?_
    refine wl_q (by first | exact q_indexR (e := 67) (by kernel_rfl) (by kernel_rfl) rfl rfl (by ((repeat constructor); first | done | fail)) (by first | omega | (dsimp only; omega) | (simp only [Int.toNat_natCast, List.length_set, List.length_append, List.length_cons, List.length_nil] at *; omega)) (by first | omega | (dsimp only; omega) | (simp only [Int.toNat_natCast, List.length_set, List.length_append, List.length_cons, List.length_nil] at *; omega)) | exact q_indexO (e := 67) (by kernel_rfl) (by kernel_rfl) rfl rfl (by ((repeat constructor); first | done | fail)) (by first | omega | (dsimp only; omega) | (simp only [Int.toNat_natCast, List.length_set, List.length_append, List.length_cons, List.length_nil] at *; omega)) (by first | omega | (dsimp only; omega) | (simp only [Int.toNat_natCast, List.length_set, List.length_append, List.length_cons, List.length_nil] at *; omega))) rfl ?_
    refine wl_q (by first | exact q_elemRA rfl (by kernel_rfl) (by ((repeat constructor); first | done | fail)) (by assumption) | exact q_elemOA rfl (by kernel_rfl) (by ((repeat constructor); first | done | fail)) (by assumption)) rfl ?_
    refine wl_l (lev_alloc [(.int .i64 0), (.int .i64 0), (.int .u64 0), (.int .u64 0), (.int .i64 0), (.int .i64 0), (.int .i64 0), (.int .i64 0), (.slice none 0 0)] (.agg #[(.int .i64 0), (.int .i64 0), (.int .u64 0), (.int .u64 0), (.int .i64 0), (.int .i64 0), (.int .i64 0), (.int .i64 0), (.slice none 0 0)]) (by kernel_rfl) rfl rfl fun sb => ?_)
    refine wl_l ?_
    first | refine lev_store1 rfl rfl rfl (by kernel_rfl) rfl rfl (by ((repeat constructor); first | done | fail)) (by rfl) ?_ | refine lev_storeA rfl rfl (by ((repeat constructor); first | done | fail)) (by rfl) (by kernel_rfl) (by first | exact TThing.one _ | exact TSpec.one _ | exact TTask.one _ | exact TArc.one _ | exact TBounds.one _ | exact fun u hu => List.all_eq_true.1 (rfl : List.all _ (·.oneCell') = true) u hu) rfl ?_
    refine wl_nil ?_
    refine wq_then ?_
    refine wc_seq ?_
    refine wc_entL (ent_per (q := Rd TInt x.After) (.here (q' := Rd TSpec l) (by ((repeat constructor); first | done | fail)) fun M h => okAfter (h.2.2.1 x hxm))) ?_
    refine wc_rdF (s := x.After) (by ((repeat constructor); first | done | fail)) fun hcap4 hbig4 hok4 => ?_
    refine wc_region ?_
    refine wl_q (q_fieldAddr (off := 8) (by kernel_rfl) rfl) rfl ?_
    refine wl_q (q_loadC rfl (by kernel_rfl) (by ((repeat constructor); first | done | fail)) (by rfl)) rfl ?_
    refine wl_q (q_makeFunc rfl rfl) rfl ?_
    refine wl_l (lev_callF (S_slices_ContainsFunc (p := fun id => decide (¬ (aget kn id).getD 0 = 4)) x.After 111 [] [.pointer (some ⟨bb, 0, none⟩)] (star (mpI rk kn) (cb bb (bookc rk rf Sl.nil) 130)) (by omega) (fun id _ => S_batch_Free1 rk rf kn Sl.nil bb id)) rfl rfl (by repeat (first | exact Split.nil | (apply Split.keep; · ((repeat constructor); first | done | fail)) | (apply Split.take; · ((repeat constructor); first | done | fail)) | apply Split.drop)) ?_)
    rintro v_ w_ ⟨rfl, hs18⟩
    (try simp only [List.cons_append, List.nil_append] at hs18)
    refine ⟨_, hs18, ?_⟩
    refine wl_q (q_not rfl) rfl ?_
    refine wl_nil ?_
    refine wq_then ?_
    refine wc_cond _ rfl (fun hc21 => ?_) (fun hc21 => ?_)
    · have hc21_ := hc21; try simp only [decide_eq_true_eq, decide_eq_false_iff_not, Bool.not_eq_true', Bool.not_eq_false', Decidable.not_not, Int.not_lt, Int.not_le, Bool.and_eq_true, Bool.or_eq_true] at hc21_
      refine wc_region ?_
      refine wl_q (q_move rfl) rfl ?_
      refine wl_q (q_fieldAddr (off := 0) (by kernel_rfl) rfl) rfl ?_
      refine wl_q (q_loadC rfl (by kernel_rfl) (by ((repeat constructor); first | done | fail)) (by rfl)) rfl ?_
      refine wl_l (lev_buildSlice1 (e := 3) (us := [_]) (z := (.int .i64 0)) (by kernel_rfl) (by kernel_rfl) (by unfold zeroIs; kernel_rfl) rfl rfl rfl rfl rfl fun b24 => ?_)
      refine wl_l (lev_append1 (T := TInt) (e := 3) (z := (.int .i64 0)) (x.ID) (by kernel_rfl) (by unfold zeroIs; kernel_rfl) (by kernel_rfl) rfl rfl 8 (by kernel_rfl) rfl rfl rfl (by ((repeat constructor); first | done | fail)) (by ((repeat constructor); first | done | fail)) rfl (.pure fun _ => hxi) (⟨by simp only [big_is]; omega, by omega, by decide⟩) fun s2 hs2 => ?_)
      refine wl_q (q_assign rfl) rfl ?_
      refine wl_nil ?_
      refine wq_block_normal ?_
      refine wq_then ?_
      refine wc_region ?_
      refine wl_q (q_add rfl rfl ⟨by omega, by omega⟩) rfl ?_
      refine wl_q (q_move rfl) rfl ?_
      refine wl_nil ?_
      have hfree : isFree known.xs x = true := by unfold isFree; rw [← hp]; exact hc21
      exact wq_meet ((i + 1, s2)) (⟨⟨(show 0 ≤ (i + 1 : Int) from (by omega)), (show (i + 1 : Int) ≤ l.xs.length from (by omega)), (show (s2 : Sl Int).xs = freeF known.xs (l.xs.take (i + 1 : Int).toNat) from (by rw [hs2, h2, e1, freeF_add, if_pos hfree]))⟩, (show ((l.xs.length : Int) - (i + 1 : Int)).toNat < ((l.xs.length : Int) - i).toNat from (by omega))⟩) (by repeat (first | exact Sub.nil | refine Sub.cons (by rfl) ?_)) (Ent.of_split (by repeat (first | exact Split.all | exact Split.nil | (apply Split.keep; · ((repeat constructor); first | done | fail)) | (apply Split.take; · ((repeat constructor); first | done | fail)) | apply Split.drop)))
    · have hc21_ := hc21; try simp only [decide_eq_true_eq, decide_eq_false_iff_not, Bool.not_eq_true', Bool.not_eq_false', Decidable.not_not, Int.not_lt, Int.not_le, Bool.and_eq_true, Bool.or_eq_true] at hc21_
      refine wc_skip ?_
      refine wq_block_normal ?_
      refine wq_then ?_
      refine wc_region ?_
      refine wl_q (q_add rfl rfl ⟨by omega, by omega⟩) rfl ?_
      refine wl_q (q_move rfl) rfl ?_
      refine wl_nil ?_
      have hfree : ¬ isFree known.xs x = true := by unfold isFree; rw [← hp, hc21]; decide
      exact wq_meet ((i + 1, s)) (⟨⟨(show 0 ≤ (i + 1 : Int) from (by omega)), (show (i + 1 : Int) ≤ l.xs.length from (by omega)), (show (s : Sl Int).xs = freeF known.xs (l.xs.take (i + 1 : Int).toNat) from (by rw [h2, e1, freeF_add, if_neg hfree, List.append_nil]))⟩, (show ((l.xs.length : Int) - (i + 1 : Int)).toNat < ((l.xs.length : Int) - i).toNat from (by omega))⟩) (by repeat (first | exact Sub.nil | refine Sub.cons (by rfl) ?_)) (Ent.of_split (by repeat (first | exact Split.all | exact Split.nil | (apply Split.keep; · ((repeat constructor); first | done | fail)) | (apply Split.take; · ((repeat constructor); first | done | fail)) | apply Split.drop)))
  · have hc14_ := hc14; try simp only [decide_eq_true_eq, decide_eq_false_iff_not, Bool.not_eq_true', Bool.not_eq_false', Decidable.not_not, Int.not_lt, Int.not_le, Bool.and_eq_true, Bool.or_eq_true] at hc14_
    have e0 : l.xs.take i.toNat = l.xs := by rw [show i.toNat = l.xs.length by omega]; simp
    rw [e0] at h2
    refine wc_exit ?_
    refine wq_then_exit ?_
    refine wq_then_exit ?_
    refine wq_block_exit ?_
    refine wq_then ?_
    refine wc_seq ?_
    refine wc_region ?_
    refine wl_q (q_move rfl) rfl ?_
    refine wl_q (q_assign rfl) rfl ?_
    refine wl_nil ?_
    refine wq_then ?_
    refine wc_ret ?_
    refine wq_ret rfl (RVs.tmp rfl RVs.nil) (fun w_ hs_ => ?_)
    exact ⟨s, rfl, h2, Split.use (by repeat (first | exact Split.nil | (apply Split.keep; · ((repeat constructor); first | done | fail)) | (apply Split.take; · ((repeat constructor); first | done | fail)) | apply Split.drop)) hs_⟩
end Go.Proofs.Ytlkmcdijioiddaa
