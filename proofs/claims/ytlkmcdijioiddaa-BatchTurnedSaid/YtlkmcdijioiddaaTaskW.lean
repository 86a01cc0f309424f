/- Contracts of functions of the program, walked step by step. Not a proof of any statement by itself. -/
import Derived.Test.YtlkmcdijioiddaaSlW
import Derived.Test.YtlkmcdijioiddaaProg
namespace Go.Proofs.Ytlkmcdijioiddaa
open Go.RowKit
set_option linter.unusedVariables false
set_option linter.unusedSimpArgs false
set_option maxRecDepth 100000


def idxBy {α : Type} (p : α → Bool) (l : List α) : Int := match l.findIdx? p with | some i => (i : Int) | none => -1
theorem idxBy_some {α : Type} {p : α → Bool} {l : List α} {i : Nat} {x : α} (hx : l[i]? = some x) (hp : p x = true) (h : ∀ j, j < i → ∀ y, l[j]? = some y → p y = false) : idxBy p l = (i : Int) := by
  have hi : i < l.length := (List.getElem?_eq_some_iff.1 hx).1
  have e : l[i] = x := (List.getElem?_eq_some_iff.1 hx).2
  have : l.findIdx? p = some i := by
    rw [List.findIdx?_eq_some_iff_getElem]
    refine ⟨hi, by rw [e]; exact hp, fun j hj => ?_⟩
    have := h j hj (l[j]) (List.getElem?_eq_getElem (by omega))
    rw [this]; decide
  unfold idxBy; rw [this]
theorem idxBy_none {α : Type} {p : α → Bool} {l : List α} (h : ∀ (j : Nat) (y : α), l[j]? = some y → p y = false) : idxBy p l = -1 := by
  have : l.findIdx? p = none := by
    rw [List.findIdx?_eq_none_iff]
    intro x hx
    obtain ⟨j, hj, rfl⟩ := List.mem_iff_getElem.1 hx
    exact h j _ (List.getElem?_eq_getElem hj)
  unfold idxBy; rw [this]
theorem idxBy_any {α : Type} (p : α → Bool) (l : List α) : decide (0 ≤ idxBy p l) = l.any p := by
  unfold idxBy
  cases h : l.findIdx? p with
  | none =>
    rw [List.findIdx?_eq_none_iff] at h
    have : l.any p = false := by rw [List.any_eq_false]; intro x hx; rw [h x hx]; decide
    rw [this]; rfl
  | some i =>
    obtain ⟨h1, h2, _⟩ := List.findIdx?_eq_some_iff_getElem.1 h
    have : l.any p = true := List.any_eq_true.2 ⟨l[i], List.getElem_mem .., h2⟩
    rw [this]; simp

set_option maxHeartbeats 400000 in
theorem S_slices_IndexFunc {p : Int → Bool} (s : Sl Int) (f : FuncId) (first cap : List Value) (A : HP) (hlen : s.xs.length ≤ 17592186044416) (hp : ∀ x ∈ s.xs, Fn Try.prog f (first ++ [.int .i64 x] ++ cap) [A] (fun v S => v = .bool (p x) ∧ S [A])) : Fn Try.prog 128 [s.val, .func (.func f) first.toArray cap.toArray] [per (Rd TInt s), A] (fun v_ S_ => v_ = .int .i64 (idxBy p s.xs) ∧ S_ [A]) := by
  refine fn_intro (m := 19) (gs := [(0, s.val), (1, .func (.func f) first.toArray cap.toArray)]) Try.func128 rfl rfl rfl rfl (fun t v h => gs_ok (by repeat (first | exact GsOk.nil | refine GsOk.cons (by rfl) ?_)) t v h) (fun F => per (Rd TInt s) :: A :: F) (fun _ => rfl) (fun E F => ?_)
  have hbig2 := big_is
  refine wc_seq ?_
  refine wc_region ?_
  refine wl_q (q_assign rfl) rfl ?_
  refine wl_nil ?_
  refine wq_then ?_
  refine wc_seq ?_
  refine wc_seq ?_
  refine wc_region ?_
  refine wl_q (q_move rfl) rfl ?_
  refine wl_q (q_len (e := 3) (by kernel_rfl) rfl) rfl ?_
  refine wl_q (q_move rfl) rfl ?_
  refine wl_nil ?_
  refine wq_then ?_
  refine wc_block ?_
  refine wc_loop (γ := (Int)) (fun g_ => (0 ≤ g_) ∧ (g_ ≤ s.xs.length) ∧ (∀ j : Nat, (j : Int) < g_ → ∀ x, s.xs[j]? = some x → p x = false)) (fun g_ => [(0, s.val), (1, .func (.func f) first.toArray cap.toArray), (7, .int .i64 s.xs.length), (8, .int .i64 g_)]) (fun g_ => per (Rd TInt s) :: A :: F) (fun g_ => ((s.xs.length : Int) - g_).toNat) (0) (⟨(show 0 ≤ (0 : Int) from (by omega)), (show (0 : Int) ≤ s.xs.length from (by omega)), (show ∀ j : Nat, (j : Int) < (0 : Int) → ∀ x, s.xs[j]? = some x → p x = false from (fun j h => by omega))⟩) (by repeat (first | exact Sub.nil | refine Sub.cons (by rfl) ?_)) (Ent.of_split (by repeat (first | exact Split.all | exact Split.nil | (apply Split.keep; · ((repeat constructor); first | done | fail)) | (apply Split.take; · ((repeat constructor); first | done | fail)) | apply Split.drop))) ?_
  rintro i ⟨h0, h1, h2⟩
  replace h0 : 0 ≤ i := h0
  replace h1 : i ≤ s.xs.length := h1
  replace h2 : ∀ j : Nat, (j : Int) < i → ∀ x, s.xs[j]? = some x → p x = false := h2
  refine wc_ent (gs := [(0, s.val), (1, .func (.func f) first.toArray cap.toArray), (7, .int .i64 s.xs.length), (8, .int .i64 i)]) (by repeat (first | exact Sub.nil | refine Sub.cons (by rfl) ?_)) (L' := per (Rd TInt s) :: A :: F) (Ent.refl _) ?_
  refine wc_seq ?_
  refine wc_region ?_
  refine wl_q (q_lss rfl rfl) rfl ?_
  refine wl_nil ?_
  refine wq_then ?_
  refine wc_seq ?_
  refine wc_cond _ rfl (fun hc9 => ?_) (fun hc9 => ?_)
  · have hc9_ := hc9; try simp only [decide_eq_true_eq, decide_eq_false_iff_not, Bool.not_eq_true', Bool.not_eq_false', Decidable.not_not, Int.not_lt, Int.not_le, Bool.and_eq_true, Bool.or_eq_true] at hc9_
    obtain ⟨x, hx⟩ : ∃ x, s.xs[i.toNat]? = some x := ⟨_, List.getElem?_eq_getElem (by omega)⟩
    refine wc_skip ?_
    refine wq_then ?_
    refine wc_seq ?_
    refine wc_block ?_
    refine wc_seq ?_
    refine wc_region ?_
    refine wl_q (q_move rfl) rfl ?_
    refine wl_q (q_assign rfl) rfl ?_
    refine wl_nil ?_
    refine wq_then ?_
    refine wc_seq ?_
    refine wc_region ?_
    refine wl_q (q_move rfl) rfl ?_
    refine wl_q (q_move rfl) rfl ?_
    refine wl_q (q_move rfl) rfl ?_
    refine wl_q (by first | exact q_indexR (e := 3) (by kernel_rfl) (by kernel_rfl) rfl rfl (by ((repeat constructor); first | done | fail)) (by first | omega | (dsimp only; omega) | (simp only [Int.toNat_natCast, List.length_set, List.length_append, List.length_cons, List.length_nil] at *; omega)) (by first | omega | (dsimp only; omega) | (simp only [Int.toNat_natCast, List.length_set, List.length_append, List.length_cons, List.length_nil] at *; omega)) | exact q_indexO (e := 3) (by kernel_rfl) (by kernel_rfl) rfl rfl (by ((repeat constructor); first | done | fail)) (by first | omega | (dsimp only; omega) | (simp only [Int.toNat_natCast, List.length_set, List.length_append, List.length_cons, List.length_nil] at *; omega)) (by first | omega | (dsimp only; omega) | (simp only [Int.toNat_natCast, List.length_set, List.length_append, List.length_cons, List.length_nil] at *; omega))) rfl ?_
    refine wl_q (q_elemR1 (T := TInt) (x := x) rfl (by kernel_rfl) (by ((repeat constructor); first | done | fail)) hx rfl) rfl ?_
    refine wl_l (lev_call (first := first) (cap := cap) (hp x (List.mem_of_getElem? hx)) rfl rfl rfl (by repeat (first | exact Split.nil | (apply Split.keep; · ((repeat constructor); first | done | fail)) | (apply Split.take; · ((repeat constructor); first | done | fail)) | apply Split.drop)) ?_)
    rintro v_ w_ ⟨rfl, hs9⟩
    (try simp only [List.cons_append, List.nil_append] at hs9)
    refine ⟨_, hs9, ?_⟩
    refine wl_nil ?_
    refine wq_then ?_
    refine wc_cond _ rfl (fun hc16 => ?_) (fun hc16 => ?_)
    · have hc16_ := hc16; try simp only [decide_eq_true_eq, decide_eq_false_iff_not, Bool.not_eq_true', Bool.not_eq_false', Decidable.not_not, Int.not_lt, Int.not_le, Bool.and_eq_true, Bool.or_eq_true] at hc16_
      refine wc_seq ?_
      refine wc_region ?_
      refine wl_q (q_move rfl) rfl ?_
      refine wl_q (q_assign rfl) rfl ?_
      refine wl_nil ?_
      refine wq_then ?_
      refine wc_ret ?_
      refine wq_block_ret ?_
      refine wq_then_ret ?_
      refine wq_then_ret ?_
      refine wq_block_ret ?_
      refine wq_then_ret ?_
      refine wq_ret rfl (RVs.tmp rfl RVs.nil) (fun w_ hs_ => ?_)
      exact ⟨by rw [idxBy_some hx hc16 (fun j hj => h2 j (by omega))]; show Value.int .i64 i = _; rw [show ((i.toNat : Nat) : Int) = i by omega], Split.use (by repeat (first | exact Split.nil | (apply Split.keep; · ((repeat constructor); first | done | fail)) | (apply Split.take; · ((repeat constructor); first | done | fail)) | apply Split.drop)) hs_⟩
    · have hc16_ := hc16; try simp only [decide_eq_true_eq, decide_eq_false_iff_not, Bool.not_eq_true', Bool.not_eq_false', Decidable.not_not, Int.not_lt, Int.not_le, Bool.and_eq_true, Bool.or_eq_true] at hc16_
      refine wc_skip ?_
      refine wq_block_normal ?_
      refine wq_then ?_
      refine wc_region ?_
      refine wl_q (q_add rfl rfl ⟨by omega, by omega⟩) rfl ?_
      refine wl_q (q_move rfl) rfl ?_
      refine wl_nil ?_
      exact wq_meet (i + 1) (⟨⟨(show 0 ≤ (i + 1 : Int) from (by omega)), (show (i + 1 : Int) ≤ s.xs.length from (by omega)), (show ∀ j : Nat, (j : Int) < (i + 1 : Int) → ∀ x, s.xs[j]? = some x → p x = false from (fun j h y hy => by rcases Int.lt_or_le (j : Int) i with h3 | h3; exact h2 j h3 y hy; rw [show j = i.toNat by omega, hx] at hy; simp only [Option.some.injEq] at hy; rw [← hy]; exact hc16))⟩, (show ((s.xs.length : Int) - (i + 1 : Int)).toNat < ((s.xs.length : Int) - i).toNat from (by omega))⟩) (by repeat (first | exact Sub.nil | refine Sub.cons (by rfl) ?_)) (Ent.of_split (by repeat (first | exact Split.all | exact Split.nil | (apply Split.keep; · ((repeat constructor); first | done | fail)) | (apply Split.take; · ((repeat constructor); first | done | fail)) | apply Split.drop)))
  · have hc9_ := hc9; try simp only [decide_eq_true_eq, decide_eq_false_iff_not, Bool.not_eq_true', Bool.not_eq_false', Decidable.not_not, Int.not_lt, Int.not_le, Bool.and_eq_true, Bool.or_eq_true] at hc9_
    refine wc_exit ?_
    refine wq_then_exit ?_
    refine wq_then_exit ?_
    refine wq_block_exit ?_
    refine wq_then ?_
    refine wc_seq ?_
    refine wc_region ?_
    refine wl_q (q_assign rfl) rfl ?_
    refine wl_nil ?_
    refine wq_then ?_
    refine wc_ret ?_
    refine wq_ret rfl (RVs.tmp rfl RVs.nil) (fun w_ hs_ => ?_)
    exact ⟨by rw [idxBy_none (fun j x hx => h2 j (by have := (List.getElem?_eq_some_iff.1 hx).1; omega) x hx)]; rfl, Split.use (by repeat (first | exact Split.nil | (apply Split.keep; · ((repeat constructor); first | done | fail)) | (apply Split.take; · ((repeat constructor); first | done | fail)) | apply Split.drop)) hs_⟩

set_option maxHeartbeats 400000 in
theorem S_slices_ContainsFunc {p : Int → Bool} (s : Sl Int) (f : FuncId) (first cap : List Value) (A : HP) (hlen : s.xs.length ≤ 17592186044416) (hp : ∀ x ∈ s.xs, Fn Try.prog f (first ++ [.int .i64 x] ++ cap) [A] (fun v S => v = .bool (p x) ∧ S [A])) : Fn Try.prog 96 [s.val, .func (.func f) first.toArray cap.toArray] [per (Rd TInt s), A] (fun v_ S_ => v_ = .bool (s.xs.any p) ∧ S_ [A]) := by
  refine fn_intro (m := 9) (gs := [(0, s.val), (1, .func (.func f) first.toArray cap.toArray)]) Try.func96 rfl rfl rfl rfl (fun t v h => gs_ok (by repeat (first | exact GsOk.nil | refine GsOk.cons (by rfl) ?_)) t v h) (fun F => per (Rd TInt s) :: A :: F) (fun _ => rfl) (fun E F => ?_)
  refine wc_seq ?_
  refine wc_region ?_
  refine wl_q (q_assign rfl) rfl ?_
  refine wl_nil ?_
  refine wq_then ?_
  refine wc_seq ?_
  refine wc_region ?_
  refine wl_q (q_move rfl) rfl ?_
  refine wl_q (q_move rfl) rfl ?_
  refine wl_l (lev_callF (S_slices_IndexFunc s f first cap A hlen hp) rfl rfl (by repeat (first | exact Split.nil | (apply Split.keep; · ((repeat constructor); first | done | fail)) | (apply Split.take; · ((repeat constructor); first | done | fail)) | apply Split.drop)) ?_)
  rintro v_ w_ ⟨rfl, hs3⟩
  (try simp only [List.cons_append, List.nil_append] at hs3)
  refine ⟨_, hs3, ?_⟩
  refine wl_q (q_geq rfl rfl) rfl ?_
  refine wl_q (q_assign rfl) rfl ?_
  refine wl_nil ?_
  refine wq_then ?_
  refine wc_ret ?_
  refine wq_ret rfl (RVs.tmp rfl RVs.nil) (fun w_ hs_ => ?_)
  exact ⟨by show Value.bool (decide (0 ≤ idxBy p s.xs)) = _; rw [idxBy_any], Split.use (by repeat (first | exact Split.nil | (apply Split.keep; · ((repeat constructor); first | done | fail)) | (apply Split.take; · ((repeat constructor); first | done | fail)) | apply Split.drop)) hs_⟩

set_option maxHeartbeats 400000 in
theorem S_slices_IndexFuncS {p : GSpec → Bool} (s : Sl GSpec) (f : FuncId) (first cap : List Value) (A : HP) (hlen : s.xs.length ≤ 17592186044416) (hp : ∀ x ∈ s.xs, Fn Try.prog f (first ++ [.agg (encSpec x).toArray] ++ cap) [A] (fun v S => v = .bool (p x) ∧ S [A])) : Fn Try.prog 108 [s.val, .func (.func f) first.toArray cap.toArray] [per (Rd TSpec s), A] (fun v_ S_ => v_ = .int .i64 (idxBy p s.xs) ∧ S_ [A]) := by
  refine fn_intro (m := 19) (gs := [(0, s.val), (1, .func (.func f) first.toArray cap.toArray)]) Try.func108 rfl rfl rfl rfl (fun t v h => gs_ok (by repeat (first | exact GsOk.nil | refine GsOk.cons (by rfl) ?_)) t v h) (fun F => per (Rd TSpec s) :: A :: F) (fun _ => rfl) (fun E F => ?_)
  have hbig2 := big_is
  refine wc_seq ?_
  refine wc_region ?_
  refine wl_q (q_assign rfl) rfl ?_
  refine wl_nil ?_
  refine wq_then ?_
  refine wc_seq ?_
  refine wc_seq ?_
  refine wc_region ?_
  refine wl_q (q_move rfl) rfl ?_
  refine wl_q (q_len (e := 67) (by kernel_rfl) rfl) rfl ?_
  refine wl_q (q_move rfl) rfl ?_
  refine wl_nil ?_
  refine wq_then ?_
  refine wc_block ?_
  refine wc_loop (γ := (Int)) (fun g_ => (0 ≤ g_) ∧ (g_ ≤ s.xs.length) ∧ (∀ j : Nat, (j : Int) < g_ → ∀ x, s.xs[j]? = some x → p x = false)) (fun g_ => [(0, s.val), (1, .func (.func f) first.toArray cap.toArray), (7, .int .i64 s.xs.length), (8, .int .i64 g_)]) (fun g_ => per (Rd TSpec s) :: A :: F) (fun g_ => ((s.xs.length : Int) - g_).toNat) (0) (⟨(show 0 ≤ (0 : Int) from (by omega)), (show (0 : Int) ≤ s.xs.length from (by omega)), (show ∀ j : Nat, (j : Int) < (0 : Int) → ∀ x, s.xs[j]? = some x → p x = false from (fun j h => by omega))⟩) (by repeat (first | exact Sub.nil | refine Sub.cons (by rfl) ?_)) (Ent.of_split (by repeat (first | exact Split.all | exact Split.nil | (apply Split.keep; · ((repeat constructor); first | done | fail)) | (apply Split.take; · ((repeat constructor); first | done | fail)) | apply Split.drop))) ?_
  rintro i ⟨h0, h1, h2⟩
  replace h0 : 0 ≤ i := h0
  replace h1 : i ≤ s.xs.length := h1
  replace h2 : ∀ j : Nat, (j : Int) < i → ∀ x, s.xs[j]? = some x → p x = false := h2
  refine wc_ent (gs := [(0, s.val), (1, .func (.func f) first.toArray cap.toArray), (7, .int .i64 s.xs.length), (8, .int .i64 i)]) (by repeat (first | exact Sub.nil | refine Sub.cons (by rfl) ?_)) (L' := per (Rd TSpec s) :: A :: F) (Ent.refl _) ?_
  refine wc_seq ?_
  refine wc_region ?_
  refine wl_q (q_lss rfl rfl) rfl ?_
  refine wl_nil ?_
  refine wq_then ?_
  refine wc_seq ?_
  refine wc_cond _ rfl (fun hc9 => ?_) (fun hc9 => ?_)
  · have hc9_ := hc9; try simp only [decide_eq_true_eq, decide_eq_false_iff_not, Bool.not_eq_true', Bool.not_eq_false', Decidable.not_not, Int.not_lt, Int.not_le, Bool.and_eq_true, Bool.or_eq_true] at hc9_
    obtain ⟨x, hx⟩ : ∃ x, s.xs[i.toNat]? = some x := ⟨_, List.getElem?_eq_getElem (by omega)⟩
    refine wc_skip ?_
    refine wq_then ?_
    refine wc_seq ?_
    refine wc_block ?_
    refine wc_seq ?_
    refine wc_region ?_
    refine wl_q (q_move rfl) rfl ?_
    refine wl_q (q_assign rfl) rfl ?_
    refine wl_nil ?_
    refine wq_then ?_
    refine wc_seq ?_
    refine wc_region ?_
    refine wl_q (q_move rfl) rfl ?_
    refine wl_q (q_move rfl) rfl ?_
    refine wl_q (q_move rfl) rfl ?_
    refine wl_q (by first | exact q_indexR (e := 67) (by kernel_rfl) (by kernel_rfl) rfl rfl (by ((repeat constructor); first | done | fail)) (by first | omega | (dsimp only; omega) | (simp only [Int.toNat_natCast, List.length_set, List.length_append, List.length_cons, List.length_nil] at *; omega)) (by first | omega | (dsimp only; omega) | (simp only [Int.toNat_natCast, List.length_set, List.length_append, List.length_cons, List.length_nil] at *; omega)) | exact q_indexO (e := 67) (by kernel_rfl) (by kernel_rfl) rfl rfl (by ((repeat constructor); first | done | fail)) (by first | omega | (dsimp only; omega) | (simp only [Int.toNat_natCast, List.length_set, List.length_append, List.length_cons, List.length_nil] at *; omega)) (by first | omega | (dsimp only; omega) | (simp only [Int.toNat_natCast, List.length_set, List.length_append, List.length_cons, List.length_nil] at *; omega))) rfl ?_
    refine wl_q (by first | exact q_elemRA rfl (by kernel_rfl) (by ((repeat constructor); first | done | fail)) (by assumption) | exact q_elemOA rfl (by kernel_rfl) (by ((repeat constructor); first | done | fail)) (by assumption)) rfl ?_
    refine wl_l (lev_call (first := first) (cap := cap) (hp x (List.mem_of_getElem? hx)) rfl rfl rfl (by repeat (first | exact Split.nil | (apply Split.keep; · ((repeat constructor); first | done | fail)) | (apply Split.take; · ((repeat constructor); first | done | fail)) | apply Split.drop)) ?_)
    rintro v_ w_ ⟨rfl, hs9⟩
    (try simp only [List.cons_append, List.nil_append] at hs9)
    refine ⟨_, hs9, ?_⟩
    refine wl_nil ?_
    refine wq_then ?_
    refine wc_cond _ rfl (fun hc16 => ?_) (fun hc16 => ?_)
    · have hc16_ := hc16; try simp only [decide_eq_true_eq, decide_eq_false_iff_not, Bool.not_eq_true', Bool.not_eq_false', Decidable.not_not, Int.not_lt, Int.not_le, Bool.and_eq_true, Bool.or_eq_true] at hc16_
      refine wc_seq ?_
      refine wc_region ?_
      refine wl_q (q_move rfl) rfl ?_
      refine wl_q (q_assign rfl) rfl ?_
      refine wl_nil ?_
      refine wq_then ?_
      refine wc_ret ?_
      refine wq_block_ret ?_
      refine wq_then_ret ?_
      refine wq_then_ret ?_
      refine wq_block_ret ?_
      refine wq_then_ret ?_
      refine wq_ret rfl (RVs.tmp rfl RVs.nil) (fun w_ hs_ => ?_)
      exact ⟨by rw [idxBy_some hx hc16 (fun j hj => h2 j (by omega))]; show Value.int .i64 i = _; rw [show ((i.toNat : Nat) : Int) = i by omega], Split.use (by repeat (first | exact Split.nil | (apply Split.keep; · ((repeat constructor); first | done | fail)) | (apply Split.take; · ((repeat constructor); first | done | fail)) | apply Split.drop)) hs_⟩
    · have hc16_ := hc16; try simp only [decide_eq_true_eq, decide_eq_false_iff_not, Bool.not_eq_true', Bool.not_eq_false', Decidable.not_not, Int.not_lt, Int.not_le, Bool.and_eq_true, Bool.or_eq_true] at hc16_
      refine wc_skip ?_
      refine wq_block_normal ?_
      refine wq_then ?_
      refine wc_region ?_
      refine wl_q (q_add rfl rfl ⟨by omega, by omega⟩) rfl ?_
      refine wl_q (q_move rfl) rfl ?_
      refine wl_nil ?_
      exact wq_meet (i + 1) (⟨⟨(show 0 ≤ (i + 1 : Int) from (by omega)), (show (i + 1 : Int) ≤ s.xs.length from (by omega)), (show ∀ j : Nat, (j : Int) < (i + 1 : Int) → ∀ x, s.xs[j]? = some x → p x = false from (fun j h y hy => by rcases Int.lt_or_le (j : Int) i with h3 | h3; exact h2 j h3 y hy; rw [show j = i.toNat by omega, hx] at hy; simp only [Option.some.injEq] at hy; rw [← hy]; exact hc16))⟩, (show ((s.xs.length : Int) - (i + 1 : Int)).toNat < ((s.xs.length : Int) - i).toNat from (by omega))⟩) (by repeat (first | exact Sub.nil | refine Sub.cons (by rfl) ?_)) (Ent.of_split (by repeat (first | exact Split.all | exact Split.nil | (apply Split.keep; · ((repeat constructor); first | done | fail)) | (apply Split.take; · ((repeat constructor); first | done | fail)) | apply Split.drop)))
  · have hc9_ := hc9; try simp only [decide_eq_true_eq, decide_eq_false_iff_not, Bool.not_eq_true', Bool.not_eq_false', Decidable.not_not, Int.not_lt, Int.not_le, Bool.and_eq_true, Bool.or_eq_true] at hc9_
    refine wc_exit ?_
    refine wq_then_exit ?_
    refine wq_then_exit ?_
    refine wq_block_exit ?_
    refine wq_then ?_
    refine wc_seq ?_
    refine wc_region ?_
    refine wl_q (q_assign rfl) rfl ?_
    refine wl_nil ?_
    refine wq_then ?_
    refine wc_ret ?_
    refine wq_ret rfl (RVs.tmp rfl RVs.nil) (fun w_ hs_ => ?_)
    exact ⟨by rw [idxBy_none (fun j x hx => h2 j (by have := (List.getElem?_eq_some_iff.1 hx).1; omega) x hx)]; rfl, Split.use (by repeat (first | exact Split.nil | (apply Split.keep; · ((repeat constructor); first | done | fail)) | (apply Split.take; · ((repeat constructor); first | done | fail)) | apply Split.drop)) hs_⟩

set_option maxHeartbeats 400000 in
theorem S_slices_ContainsFuncS {p : GSpec → Bool} (s : Sl GSpec) (f : FuncId) (first cap : List Value) (A : HP) (hlen : s.xs.length ≤ 17592186044416) (hp : ∀ x ∈ s.xs, Fn Try.prog f (first ++ [.agg (encSpec x).toArray] ++ cap) [A] (fun v S => v = .bool (p x) ∧ S [A])) : Fn Try.prog 70 [s.val, .func (.func f) first.toArray cap.toArray] [per (Rd TSpec s), A] (fun v_ S_ => v_ = .bool (s.xs.any p) ∧ S_ [A]) := by
  refine fn_intro (m := 9) (gs := [(0, s.val), (1, .func (.func f) first.toArray cap.toArray)]) Try.func70 rfl rfl rfl rfl (fun t v h => gs_ok (by repeat (first | exact GsOk.nil | refine GsOk.cons (by rfl) ?_)) t v h) (fun F => per (Rd TSpec s) :: A :: F) (fun _ => rfl) (fun E F => ?_)
  refine wc_seq ?_
  refine wc_region ?_
  refine wl_q (q_assign rfl) rfl ?_
  refine wl_nil ?_
  refine wq_then ?_
  refine wc_seq ?_
  refine wc_region ?_
  refine wl_q (q_move rfl) rfl ?_
  refine wl_q (q_move rfl) rfl ?_
  refine wl_l (lev_callF (S_slices_IndexFuncS s f first cap A hlen hp) rfl rfl (by repeat (first | exact Split.nil | (apply Split.keep; · ((repeat constructor); first | done | fail)) | (apply Split.take; · ((repeat constructor); first | done | fail)) | apply Split.drop)) ?_)
  rintro v_ w_ ⟨rfl, hs3⟩
  (try simp only [List.cons_append, List.nil_append] at hs3)
  refine ⟨_, hs3, ?_⟩
  refine wl_q (q_geq rfl rfl) rfl ?_
  refine wl_q (q_assign rfl) rfl ?_
  refine wl_nil ?_
  refine wq_then ?_
  refine wc_ret ?_
  refine wq_ret rfl (RVs.tmp rfl RVs.nil) (fun w_ hs_ => ?_)
  exact ⟨by show Value.bool (decide (0 ≤ idxBy p s.xs)) = _; rw [idxBy_any], Split.use (by repeat (first | exact Split.nil | (apply Split.keep; · ((repeat constructor); first | done | fail)) | (apply Split.take; · ((repeat constructor); first | done | fail)) | apply Split.drop)) hs_⟩

def okB (b : GBounds) : Bool := !(decide (b.n < b.least)) && !(decide (b.most < b.n))
theorem all_of {l : List GBounds} (h : ∀ (j : Nat) (b : GBounds), l[j]? = some b → okB b = true) : l.all okB = true := List.all_eq_true.2 fun x hx => by
  obtain ⟨j, hj, rfl⟩ := List.mem_iff_getElem.1 hx
  exact h j _ (List.getElem?_eq_getElem hj)
theorem all_not {l : List GBounds} {j : Nat} {b : GBounds} (h : l[j]? = some b) (hb : okB b = false) : l.all okB = false := by
  cases hq : l.all okB with
  | false => rfl
  | true => have := List.all_eq_true.1 hq b (List.mem_of_getElem? h); rw [hb] at this; cases this
theorem okB_lt {b : GBounds} (h : b.n < b.least) : okB b = false := by unfold okB; simp [h]
theorem okB_gt {b : GBounds} (h : b.most < b.n) : okB b = false := by unfold okB; simp [h]
theorem okB_yes {b : GBounds} (h1 : b.least ≤ b.n) (h2 : b.n ≤ b.most) : okB b = true := by unfold okB; simp; omega

set_option maxHeartbeats 400000 in
theorem S_task_all (s : Sl GBounds) (hlen : s.xs.length ≤ 17592186044416) : Fn Try.prog 104 [s.val] [per (Rd TBounds s)] (fun v_ S_ => v_ = .bool (s.xs.all okB) ∧ S_ []) := by
  refine fn_intro (m := 34) (gs := [(0, s.val)]) Try.func104 rfl rfl rfl rfl (fun t v h => gs_ok (by repeat (first | exact GsOk.nil | refine GsOk.cons (by rfl) ?_)) t v h) (fun F => per (Rd TBounds s) :: F) (fun _ => rfl) (fun E F => ?_)
  refine wc_seq ?_
  refine wc_region ?_
  refine wl_q (q_assign rfl) rfl ?_
  refine wl_nil ?_
  refine wq_then ?_
  refine wc_jumpsE 0 rfl (γ := (Int)) (fun g_ => (0 ≤ g_) ∧ (g_ ≤ s.xs.length) ∧ (∀ j : Nat, (j : Int) < g_ → ∀ b, s.xs[j]? = some b → okB b = true)) (fun g_ => [(0, s.val), (3, .int .i64 g_)]) (fun g_ => per (Rd TBounds s) :: F) (fun g_ => ((s.xs.length : Int) - g_).toNat) (fun hround => ?_) ?_
  · skip
    refine wc_seq ?_
    refine wc_region ?_
    refine wl_q (q_assign rfl) rfl ?_
    refine wl_nil ?_
    refine wq_then ?_
    refine wc_seq ?_
    refine wc_label ?_
    refine wq_then ?_
    exact wc_enter hround (0) (⟨(show 0 ≤ (0 : Int) from (by omega)), (show (0 : Int) ≤ s.xs.length from (by omega)), (show ∀ j : Nat, (j : Int) < (0 : Int) → ∀ b, s.xs[j]? = some b → okB b = true from (fun j h => by omega))⟩) (by repeat (first | exact Sub.nil | refine Sub.cons (by rfl) ?_)) (Ent.of_split (by repeat (first | exact Split.all | exact Split.nil | (apply Split.keep; · ((repeat constructor); first | done | fail)) | (apply Split.take; · ((repeat constructor); first | done | fail)) | apply Split.drop)))
  · rintro i ⟨h0, h1, h2⟩
    replace h0 : 0 ≤ i := h0
    replace h1 : i ≤ s.xs.length := h1
    replace h2 : ∀ j : Nat, (j : Int) < i → ∀ b, s.xs[j]? = some b → okB b = true := h2
    refine wc_ent (gs := [(0, s.val), (3, .int .i64 i)]) (by repeat (first | exact Sub.nil | refine Sub.cons (by rfl) ?_)) (L' := per (Rd TBounds s) :: F) (Ent.refl _) ?_
    refine wc_seq ?_
    refine wc_seq ?_
    refine wc_region ?_
    refine wl_q (q_move rfl) rfl ?_
    refine wl_q (q_move rfl) rfl ?_
    refine wl_q (q_len (e := 177) (by kernel_rfl) rfl) rfl ?_
    refine wl_q (q_eql rfl rfl) rfl ?_
    refine wl_nil ?_
    refine wq_then ?_
    refine wc_cond _ rfl (fun hc7 => ?_) (fun hc7 => ?_)
    · have hc7_ := hc7; try simp only [decide_eq_true_eq, decide_eq_false_iff_not, Bool.not_eq_true', Bool.not_eq_false', Decidable.not_not, Int.not_lt, Int.not_le, Bool.and_eq_true, Bool.or_eq_true] at hc7_
      refine wc_seq ?_
      refine wc_region ?_
      refine wl_q (q_assign rfl) rfl ?_
      refine wl_nil ?_
      refine wq_then ?_
      refine wc_ret ?_
      refine wq_then_ret ?_
      refine wq_jump_ret ?_
      refine wq_ret rfl (RVs.tmp rfl RVs.nil) (fun w_ hs_ => ?_)
      exact ⟨by rw [all_of (fun j b hb => h2 j (by have := (List.getElem?_eq_some_iff.1 hb).1; omega) b hb)]; rfl, Split.use (by repeat (first | exact Split.nil | (apply Split.keep; · ((repeat constructor); first | done | fail)) | (apply Split.take; · ((repeat constructor); first | done | fail)) | apply Split.drop)) hs_⟩
    · have hc7_ := hc7; try simp only [decide_eq_true_eq, decide_eq_false_iff_not, Bool.not_eq_true', Bool.not_eq_false', Decidable.not_not, Int.not_lt, Int.not_le, Bool.and_eq_true, Bool.or_eq_true] at hc7_
      obtain ⟨b, hb⟩ : ∃ b, s.xs[i.toNat]? = some b := ⟨_, List.getElem?_eq_getElem (by omega)⟩
      refine wc_skip ?_
      refine wq_then ?_
      refine wc_seq ?_
      refine wc_seq ?_
      refine wc_quiet (by kernel_rfl) (by kernel_rfl) ?_
      refine wlq_q (q_move rfl) rfl ?_
      refine wlq_q (q_move rfl) rfl ?_
      refine wlq_q (by first | exact q_indexR (e := 177) (by kernel_rfl) (by kernel_rfl) rfl rfl (by ((repeat constructor); first | done | fail)) (by first | omega | (dsimp only; omega) | (simp only [Int.toNat_natCast, List.length_set, List.length_append, List.length_cons, List.length_nil] at *; omega)) (by first | omega | (dsimp only; omega) | (simp only [Int.toNat_natCast, List.length_set, List.length_append, List.length_cons, List.length_nil] at *; omega)) | exact q_indexO (e := 177) (by kernel_rfl) (by kernel_rfl) rfl rfl (by ((repeat constructor); first | done | fail)) (by first | omega | (dsimp only; omega) | (simp only [Int.toNat_natCast, List.length_set, List.length_append, List.length_cons, List.length_nil] at *; omega)) (by first | omega | (dsimp only; omega) | (simp only [Int.toNat_natCast, List.length_set, List.length_append, List.length_cons, List.length_nil] at *; omega))) rfl ?_
      refine wlq_q (q_fieldAddr (off := 0) (by kernel_rfl) rfl) rfl ?_
      refine wlq_q (by first | exact q_elemR rfl (by kernel_rfl) (by ((repeat constructor); first | done | fail)) (by assumption) (by rfl) | exact q_elemO rfl (by kernel_rfl) (by ((repeat constructor); first | done | fail)) (by assumption) (by rfl)) rfl ?_
      refine wlq_q (q_move rfl) rfl ?_
      refine wlq_q (q_move rfl) rfl ?_
      refine wlq_q (by first | exact q_indexR (e := 177) (by kernel_rfl) (by kernel_rfl) rfl rfl (by ((repeat constructor); first | done | fail)) (by first | omega | (dsimp only; omega) | (simp only [Int.toNat_natCast, List.length_set, List.length_append, List.length_cons, List.length_nil] at *; omega)) (by first | omega | (dsimp only; omega) | (simp only [Int.toNat_natCast, List.length_set, List.length_append, List.length_cons, List.length_nil] at *; omega)) | exact q_indexO (e := 177) (by kernel_rfl) (by kernel_rfl) rfl rfl (by ((repeat constructor); first | done | fail)) (by first | omega | (dsimp only; omega) | (simp only [Int.toNat_natCast, List.length_set, List.length_append, List.length_cons, List.length_nil] at *; omega)) (by first | omega | (dsimp only; omega) | (simp only [Int.toNat_natCast, List.length_set, List.length_append, List.length_cons, List.length_nil] at *; omega))) rfl ?_
      refine wlq_q (q_fieldAddr (off := 1) (by kernel_rfl) rfl) rfl ?_
      refine wlq_q (by first | exact q_elemR rfl (by kernel_rfl) (by ((repeat constructor); first | done | fail)) (by assumption) (by rfl) | exact q_elemO rfl (by kernel_rfl) (by ((repeat constructor); first | done | fail)) (by assumption) (by rfl)) rfl ?_
      refine wlq_q (q_lss rfl rfl) rfl ?_
      refine wlq_q (q_move rfl) rfl ?_
      refine wlq_split 19 _ rfl (fun hb19 => ?_) (fun hb19 => ?_)
      · have hb19_ := hb19; try simp only [decide_eq_true_eq, decide_eq_false_iff_not, Bool.not_eq_true', Bool.not_eq_false', Decidable.not_not, Int.not_lt, Int.not_le, Bool.and_eq_true, Bool.or_eq_true] at hb19_
        refine wlq_skip 19 rfl (lk_bool rfl hb19) (by intro h; cases h) rfl ?_
        refine wlq_skip 19 rfl (lk_bool rfl hb19) (by intro h; cases h) rfl ?_
        refine wlq_skip 19 rfl (lk_bool rfl hb19) (by intro h; cases h) rfl ?_
        refine wlq_skip 19 rfl (lk_bool rfl hb19) (by intro h; cases h) rfl ?_
        refine wlq_skip 19 rfl (lk_bool rfl hb19) (by intro h; cases h) rfl ?_
        refine wlq_skip 19 rfl (lk_bool rfl hb19) (by intro h; cases h) rfl ?_
        refine wlq_skip 19 rfl (lk_bool rfl hb19) (by intro h; cases h) rfl ?_
        refine wlq_skip 19 rfl (lk_bool rfl hb19) (by intro h; cases h) rfl ?_
        refine wlq_skip 19 rfl (lk_bool rfl hb19) (by intro h; cases h) rfl ?_
        refine wlq_skip 19 rfl (lk_bool rfl hb19) (by intro h; cases h) rfl ?_
        refine wlq_skip 19 rfl (lk_bool rfl hb19) (by intro h; cases h) rfl ?_
        refine wlq_q (q_pickT rfl hb19 rfl) rfl ?_
        refine wlq_nil ?_
        refine wq_then ?_
        refine wc_condT _ rfl rfl ?_
        refine wc_seq ?_
        refine wc_region ?_
        refine wl_q (q_assign rfl) rfl ?_
        refine wl_nil ?_
        refine wq_then ?_
        refine wc_ret ?_
        refine wq_then_ret ?_
        refine wq_jump_ret ?_
        refine wq_ret rfl (RVs.tmp rfl RVs.nil) (fun w_ hs_ => ?_)
        exact ⟨by rw [all_not hb (okB_lt hb19_)]; rfl, Split.use (by repeat (first | exact Split.nil | (apply Split.keep; · ((repeat constructor); first | done | fail)) | (apply Split.take; · ((repeat constructor); first | done | fail)) | apply Split.drop)) hs_⟩
      · have hb19_ := hb19; try simp only [decide_eq_true_eq, decide_eq_false_iff_not, Bool.not_eq_true', Bool.not_eq_false', Decidable.not_not, Int.not_lt, Int.not_le, Bool.and_eq_true, Bool.or_eq_true] at hb19_
        refine wlq_g 19 rfl (lk_bool rfl hb19) (q_move rfl) rfl ?_
        refine wlq_g 19 rfl (lk_bool rfl hb19) (q_move rfl) rfl ?_
        refine wlq_g 19 rfl (lk_bool rfl hb19) (by first | exact q_indexR (e := 177) (by kernel_rfl) (by kernel_rfl) rfl rfl (by ((repeat constructor); first | done | fail)) (by first | omega | (dsimp only; omega) | (simp only [Int.toNat_natCast, List.length_set, List.length_append, List.length_cons, List.length_nil] at *; omega)) (by first | omega | (dsimp only; omega) | (simp only [Int.toNat_natCast, List.length_set, List.length_append, List.length_cons, List.length_nil] at *; omega)) | exact q_indexO (e := 177) (by kernel_rfl) (by kernel_rfl) rfl rfl (by ((repeat constructor); first | done | fail)) (by first | omega | (dsimp only; omega) | (simp only [Int.toNat_natCast, List.length_set, List.length_append, List.length_cons, List.length_nil] at *; omega)) (by first | omega | (dsimp only; omega) | (simp only [Int.toNat_natCast, List.length_set, List.length_append, List.length_cons, List.length_nil] at *; omega))) rfl ?_
        refine wlq_g 19 rfl (lk_bool rfl hb19) (q_fieldAddr (off := 0) (by kernel_rfl) rfl) rfl ?_
        refine wlq_g 19 rfl (lk_bool rfl hb19) (by first | exact q_elemR rfl (by kernel_rfl) (by ((repeat constructor); first | done | fail)) (by assumption) (by rfl) | exact q_elemO rfl (by kernel_rfl) (by ((repeat constructor); first | done | fail)) (by assumption) (by rfl)) rfl ?_
        refine wlq_g 19 rfl (lk_bool rfl hb19) (q_move rfl) rfl ?_
        refine wlq_g 19 rfl (lk_bool rfl hb19) (q_move rfl) rfl ?_
        refine wlq_g 19 rfl (lk_bool rfl hb19) (by first | exact q_indexR (e := 177) (by kernel_rfl) (by kernel_rfl) rfl rfl (by ((repeat constructor); first | done | fail)) (by first | omega | (dsimp only; omega) | (simp only [Int.toNat_natCast, List.length_set, List.length_append, List.length_cons, List.length_nil] at *; omega)) (by first | omega | (dsimp only; omega) | (simp only [Int.toNat_natCast, List.length_set, List.length_append, List.length_cons, List.length_nil] at *; omega)) | exact q_indexO (e := 177) (by kernel_rfl) (by kernel_rfl) rfl rfl (by ((repeat constructor); first | done | fail)) (by first | omega | (dsimp only; omega) | (simp only [Int.toNat_natCast, List.length_set, List.length_append, List.length_cons, List.length_nil] at *; omega)) (by first | omega | (dsimp only; omega) | (simp only [Int.toNat_natCast, List.length_set, List.length_append, List.length_cons, List.length_nil] at *; omega))) rfl ?_
        refine wlq_g 19 rfl (lk_bool rfl hb19) (q_fieldAddr (off := 2) (by kernel_rfl) rfl) rfl ?_
        refine wlq_g 19 rfl (lk_bool rfl hb19) (by first | exact q_elemR rfl (by kernel_rfl) (by ((repeat constructor); first | done | fail)) (by assumption) (by rfl) | exact q_elemO rfl (by kernel_rfl) (by ((repeat constructor); first | done | fail)) (by assumption) (by rfl)) rfl ?_
        refine wlq_g 19 rfl (lk_bool rfl hb19) (q_gtr rfl rfl) rfl ?_
        refine wlq_q (q_pickF rfl hb19 rfl) rfl ?_
        refine wlq_nil ?_
        refine wq_then ?_
        refine wc_cond _ rfl (fun hc31 => ?_) (fun hc31 => ?_)
        · have hc31_ := hc31; try simp only [decide_eq_true_eq, decide_eq_false_iff_not, Bool.not_eq_true', Bool.not_eq_false', Decidable.not_not, Int.not_lt, Int.not_le, Bool.and_eq_true, Bool.or_eq_true] at hc31_
          refine wc_seq ?_
          refine wc_region ?_
          refine wl_q (q_assign rfl) rfl ?_
          refine wl_nil ?_
          refine wq_then ?_
          refine wc_ret ?_
          refine wq_then_ret ?_
          refine wq_jump_ret ?_
          refine wq_ret rfl (RVs.tmp rfl RVs.nil) (fun w_ hs_ => ?_)
          exact ⟨by rw [all_not hb (okB_gt hc31_)]; rfl, Split.use (by repeat (first | exact Split.nil | (apply Split.keep; · ((repeat constructor); first | done | fail)) | (apply Split.take; · ((repeat constructor); first | done | fail)) | apply Split.drop)) hs_⟩
        · have hc31_ := hc31; try simp only [decide_eq_true_eq, decide_eq_false_iff_not, Bool.not_eq_true', Bool.not_eq_false', Decidable.not_not, Int.not_lt, Int.not_le, Bool.and_eq_true, Bool.or_eq_true] at hc31_
          refine wc_skip ?_
          refine wq_then ?_
          refine wc_seq ?_
          refine wc_region ?_
          refine wl_q (q_move rfl) rfl ?_
          refine wl_q (q_add rfl rfl ⟨by omega, by omega⟩) rfl ?_
          refine wl_q (q_assign rfl) rfl ?_
          refine wl_nil ?_
          refine wq_then ?_
          refine wc_goto ?_
          exact wq_jump_goto (i + 1) (⟨⟨(show 0 ≤ (i + 1 : Int) from (by omega)), (show (i + 1 : Int) ≤ s.xs.length from (by omega)), (show ∀ j : Nat, (j : Int) < (i + 1 : Int) → ∀ b, s.xs[j]? = some b → okB b = true from (fun j h c hc => by rcases Int.lt_or_le (j : Int) i with h3 | h3; exact h2 j h3 c hc; rw [show j = i.toNat by omega, hb] at hc; simp only [Option.some.injEq] at hc; rw [← hc]; exact okB_yes hb19_ hc31_))⟩, (show ((s.xs.length : Int) - (i + 1 : Int)).toNat < ((s.xs.length : Int) - i).toNat from (by omega))⟩) (by repeat (first | exact Sub.nil | refine Sub.cons (by rfl) ?_)) (Ent.of_split (by repeat (first | exact Split.all | exact Split.nil | (apply Split.keep; · ((repeat constructor); first | done | fail)) | (apply Split.take; · ((repeat constructor); first | done | fail)) | apply Split.drop)))

set_option maxHeartbeats 400000 in
theorem S_task_id (n : Int) : Fn Try.prog 105 [.int .i64 n] [] (fun v_ S_ => v_ = .agg (encBounds ⟨n, 1, 999⟩).toArray ∧ S_ []) := by
  refine fn_intro (m := 5) (gs := [(0, .int .i64 n)]) Try.func105 rfl rfl rfl rfl (fun t v h => gs_ok (by repeat (first | exact GsOk.nil | refine GsOk.cons (by rfl) ?_)) t v h) (fun F => F) (fun _ => rfl) (fun E F => ?_)
  refine wc_seq ?_
  refine wc_region ?_
  refine wl_l (lev_alloc [(.int .i64 0), (.int .i64 0), (.int .i64 0)] (.agg #[(.int .i64 0), (.int .i64 0), (.int .i64 0)]) (by kernel_rfl) rfl rfl fun b1 => ?_)
  refine wl_nil ?_
  refine wq_then ?_
  refine wc_seq ?_
  refine wc_region ?_
  refine wl_q (q_move rfl) rfl ?_
  refine wl_q (q_build (zs := [(.int .i64 0), (.int .i64 0), (.int .i64 0)]) (z := .agg #[(.int .i64 0), (.int .i64 0), (.int .i64 0)]) (l := [_, _, _]) [(0, 1), (1, 1), (2, 1)] (by kernel_rfl) (by unfold zeroIs; kernel_rfl) rfl rfl (.cons rfl (us := [_]) rfl rfl rfl (.cons rfl (us := [_]) rfl rfl rfl (.cons rfl (us := [_]) rfl rfl rfl .nil)))) rfl ?_
  refine wl_l ?_
  first | refine lev_store1 rfl rfl rfl (by kernel_rfl) rfl rfl (by ((repeat constructor); first | done | fail)) (by rfl) ?_ | refine lev_storeA rfl rfl (by ((repeat constructor); first | done | fail)) (by rfl) (by kernel_rfl) (by first | exact TThing.one _ | exact TSpec.one _ | exact TTask.one _ | exact TArc.one _ | exact TBounds.one _ | exact fun u hu => List.all_eq_true.1 (rfl : List.all _ (·.oneCell') = true) u hu) rfl ?_
  refine wl_nil ?_
  refine wq_then ?_
  refine wc_ret ?_
  refine wq_ret rfl (RVs.cell rfl (fun w_ h_ => loadVar_agg (by kernel_rfl) (fun j v hj => by rw [add_at, Nat.zero_add]; exact cb_cell (by ((repeat constructor); first | done | fail)) h_ hj)) RVs.nil) (fun w_ hs_ => ?_)
  exact ⟨rfl, Split.use (by repeat (first | exact Split.nil | (apply Split.keep; · ((repeat constructor); first | done | fail)) | (apply Split.take; · ((repeat constructor); first | done | fail)) | apply Split.drop)) hs_⟩

set_option maxHeartbeats 400000 in
theorem S_task_wide (n : Int) : Fn Try.prog 106 [.int .i64 n] [] (fun v_ S_ => v_ = .agg (encBounds ⟨n, -1000, 1000⟩).toArray ∧ S_ []) := by
  refine fn_intro (m := 5) (gs := [(0, .int .i64 n)]) Try.func106 rfl rfl rfl rfl (fun t v h => gs_ok (by repeat (first | exact GsOk.nil | refine GsOk.cons (by rfl) ?_)) t v h) (fun F => F) (fun _ => rfl) (fun E F => ?_)
  refine wc_seq ?_
  refine wc_region ?_
  refine wl_l (lev_alloc [(.int .i64 0), (.int .i64 0), (.int .i64 0)] (.agg #[(.int .i64 0), (.int .i64 0), (.int .i64 0)]) (by kernel_rfl) rfl rfl fun b1 => ?_)
  refine wl_nil ?_
  refine wq_then ?_
  refine wc_seq ?_
  refine wc_region ?_
  refine wl_q (q_move rfl) rfl ?_
  refine wl_q (q_build (zs := [(.int .i64 0), (.int .i64 0), (.int .i64 0)]) (z := .agg #[(.int .i64 0), (.int .i64 0), (.int .i64 0)]) (l := [_, _, _]) [(0, 1), (1, 1), (2, 1)] (by kernel_rfl) (by unfold zeroIs; kernel_rfl) rfl rfl (.cons rfl (us := [_]) rfl rfl rfl (.cons rfl (us := [_]) rfl rfl rfl (.cons rfl (us := [_]) rfl rfl rfl .nil)))) rfl ?_
  refine wl_l ?_
  first | refine lev_store1 rfl rfl rfl (by kernel_rfl) rfl rfl (by ((repeat constructor); first | done | fail)) (by rfl) ?_ | refine lev_storeA rfl rfl (by ((repeat constructor); first | done | fail)) (by rfl) (by kernel_rfl) (by first | exact TThing.one _ | exact TSpec.one _ | exact TTask.one _ | exact TArc.one _ | exact TBounds.one _ | exact fun u hu => List.all_eq_true.1 (rfl : List.all _ (·.oneCell') = true) u hu) rfl ?_
  refine wl_nil ?_
  refine wq_then ?_
  refine wc_ret ?_
  refine wq_ret rfl (RVs.cell rfl (fun w_ h_ => loadVar_agg (by kernel_rfl) (fun j v hj => by rw [add_at, Nat.zero_add]; exact cb_cell (by ((repeat constructor); first | done | fail)) h_ hj)) RVs.nil) (fun w_ hs_ => ?_)
  exact ⟨rfl, Split.use (by repeat (first | exact Split.nil | (apply Split.keep; · ((repeat constructor); first | done | fail)) | (apply Split.take; · ((repeat constructor); first | done | fail)) | apply Split.drop)) hs_⟩

def numsB (x : GSpec) : List GBounds := [⟨x.ID, 1, 999⟩, ⟨x.Prio, 0, 1048575⟩, ⟨x.From.X, -1000, 1000⟩, ⟨x.From.Y, -1000, 1000⟩, ⟨x.To.X, -1000, 1000⟩, ⟨x.To.Y, -1000, 1000⟩]
def idB (n : Int) : GBounds := ⟨n, 1, 999⟩
/-- what task.Check tells -/
def checkF (x : GSpec) : Int := if (numsB x).all okB = false then 2 else if (8 : Int) < x.After.xs.length ∨ rises x.After.xs = false ∨ x.ID ∈ x.After.xs ∨ (x.After.xs.map idB).all okB = false then 1 else 0
def sokB (x : GSpec) : Prop := inI64 x.ID ∧ inI64 x.Prio ∧ (inI64 x.From.X ∧ inI64 x.From.Y) ∧ (inI64 x.To.X ∧ inI64 x.To.Y)
theorem inSmall {a : Int} (h0 : -2000000000 ≤ a) (h1 : a ≤ 2000000000) : inI64 a := ⟨by omega, by omega⟩
theorem k1 : inI64 1 := ⟨by omega, by omega⟩
theorem k0 : inI64 0 := ⟨by omega, by omega⟩
theorem k999 : inI64 999 := ⟨by omega, by omega⟩
theorem kP : inI64 1048575 := ⟨by omega, by omega⟩
theorem kN : inI64 (-1000) := ⟨by omega, by omega⟩
theorem kK : inI64 1000 := ⟨by omega, by omega⟩
theorem numsB_ok {x : GSpec} (hx : sokB x) : ∀ M, ∀ y ∈ numsB x, TBounds.ok M y := by
  intro M y hy
  obtain ⟨h1, h2, ⟨h3, h4⟩, h5, h6⟩ := hx
  simp only [numsB, List.mem_cons, List.not_mem_nil, or_false] at hy
  rcases hy with rfl | rfl | rfl | rfl | rfl | rfl
  · exact ⟨h1, k1, k999⟩
  · exact ⟨h2, k0, kP⟩
  · exact ⟨h3, kN, kK⟩
  · exact ⟨h4, kN, kK⟩
  · exact ⟨h5, kN, kK⟩
  · exact ⟨h6, kN, kK⟩

set_option maxHeartbeats 1000000 in
theorem S_task_Check (x : GSpec) (hx : sokB x) (hlen : x.After.xs.length < 1099511627776) : Fn Try.prog 67 [.agg (encSpec x).toArray] [per (Rd TInt x.After)] (fun v_ S_ => v_ = .int .i64 (checkF x) ∧ S_ []) := by
  refine fn_intro (m := 66) (gs := [(0, .agg (encSpec x).toArray)]) Try.func67 rfl rfl rfl rfl (fun t v h => gs_ok (by repeat (first | exact GsOk.nil | refine GsOk.cons (by rfl) ?_)) t v h) (fun F => per (Rd TInt x.After) :: F) (fun _ => rfl) (fun E F => ?_)
  refine wc_rdF (s := x.After) (by ((repeat constructor); first | done | fail)) fun hcap2 hbig3 hok => ?_
  have hbig2 := big_is
  obtain ⟨M_, hok⟩ := hok
  refine wc_seq ?_
  refine wc_region ?_
  refine wl_l (lev_box _ rfl rfl rfl fun b1 => ?_)
  refine wl_q (q_assign rfl) rfl ?_
  refine wl_nil ?_
  refine wq_then ?_
  refine wc_seq ?_
  refine wc_seq ?_
  refine wc_drawL [0, 1, 3, 4, 5, 6, 7, 8, 10, 11, 12, 14, 15, 16, 18, 19, 20] (by kernel_rfl) ?_
  refine wb_q 0 rfl (by kernel_rfl) (fun _ _ _ h => h) (Ent.refl _) (q_fieldAddr (off := 0) (by kernel_rfl) rfl) rfl ?_
  refine wb_q 1 rfl (by kernel_rfl) (fun _ _ _ h => h) (Ent.refl _) (q_loadC rfl (by kernel_rfl) (by ((repeat constructor); first | done | fail)) (by rfl)) rfl ?_
  refine wb_q 3 rfl (by kernel_rfl) (fun _ _ _ h => h) (Ent.refl _) (q_fieldAddr (off := 1) (by kernel_rfl) rfl) rfl ?_
  refine wb_q 4 rfl (by kernel_rfl) (fun _ _ _ h => h) (Ent.refl _) (q_loadC rfl (by kernel_rfl) (by ((repeat constructor); first | done | fail)) (by rfl)) rfl ?_
  refine wb_q 5 rfl (by kernel_rfl) (fun _ _ _ h => h) (Ent.refl _) (q_build (zs := [(.int .i64 0), (.int .i64 0), (.int .i64 0)]) (z := .agg #[(.int .i64 0), (.int .i64 0), (.int .i64 0)]) (l := [_, _, _]) [(0, 1), (1, 1), (2, 1)] (by kernel_rfl) (by unfold zeroIs; kernel_rfl) rfl rfl (.cons rfl (us := [_]) rfl rfl rfl (.cons rfl (us := [_]) rfl rfl rfl (.cons rfl (us := [_]) rfl rfl rfl .nil)))) rfl ?_
  refine wb_q 6 rfl (by kernel_rfl) (fun _ _ _ h => h) (Ent.refl _) (q_fieldAddr (off := 4) (by kernel_rfl) rfl) rfl ?_
  refine wb_q 7 rfl (by kernel_rfl) (fun _ _ _ h => h) (Ent.refl _) (q_fieldAddr (off := 0) (by kernel_rfl) rfl) rfl ?_
  refine wb_q 8 rfl (by kernel_rfl) (fun _ _ _ h => h) (Ent.refl _) (q_loadC rfl (by kernel_rfl) (by ((repeat constructor); first | done | fail)) (by rfl)) rfl ?_
  refine wb_q 10 rfl (by kernel_rfl) (fun _ _ _ h => h) (Ent.refl _) (q_fieldAddr (off := 4) (by kernel_rfl) rfl) rfl ?_
  refine wb_q 11 rfl (by kernel_rfl) (fun _ _ _ h => h) (Ent.refl _) (q_fieldAddr (off := 1) (by kernel_rfl) rfl) rfl ?_
  refine wb_q 12 rfl (by kernel_rfl) (fun _ _ _ h => h) (Ent.refl _) (q_loadC rfl (by kernel_rfl) (by ((repeat constructor); first | done | fail)) (by rfl)) rfl ?_
  refine wb_q 14 rfl (by kernel_rfl) (fun _ _ _ h => h) (Ent.refl _) (q_fieldAddr (off := 6) (by kernel_rfl) rfl) rfl ?_
  refine wb_q 15 rfl (by kernel_rfl) (fun _ _ _ h => h) (Ent.refl _) (q_fieldAddr (off := 0) (by kernel_rfl) rfl) rfl ?_
  refine wb_q 16 rfl (by kernel_rfl) (fun _ _ _ h => h) (Ent.refl _) (q_loadC rfl (by kernel_rfl) (by ((repeat constructor); first | done | fail)) (by rfl)) rfl ?_
  refine wb_q 18 rfl (by kernel_rfl) (fun _ _ _ h => h) (Ent.refl _) (q_fieldAddr (off := 6) (by kernel_rfl) rfl) rfl ?_
  refine wb_q 19 rfl (by kernel_rfl) (fun _ _ _ h => h) (Ent.refl _) (q_fieldAddr (off := 1) (by kernel_rfl) rfl) rfl ?_
  refine wb_q 20 rfl (by kernel_rfl) (fun _ _ _ h => h) (Ent.refl _) (q_loadC rfl (by kernel_rfl) (by ((repeat constructor); first | done | fail)) (by rfl)) rfl ?_
  refine wb_one 2 (by kernel_rfl) rfl (lev_callF (S_task_id _) rfl rfl (by repeat (first | exact Split.nil | (apply Split.keep; · ((repeat constructor); first | done | fail)) | (apply Split.take; · ((repeat constructor); first | done | fail)) | apply Split.drop)) ?_)
  rintro v_ w_ ⟨rfl, hs_⟩
  (try simp only [List.cons_append, List.nil_append] at hs_)
  refine ⟨_, hs_, ?_⟩
  refine ⟨fun _ => (Ent.of_split (by repeat (first | exact Split.all | exact Split.nil | (apply Split.keep; · ((repeat constructor); first | done | fail)) | (apply Split.take; · ((repeat constructor); first | done | fail)) | apply Split.drop))), ?_⟩
  refine wb_one 9 (by kernel_rfl) rfl (lev_callF (S_task_wide _) rfl rfl (by repeat (first | exact Split.nil | (apply Split.keep; · ((repeat constructor); first | done | fail)) | (apply Split.take; · ((repeat constructor); first | done | fail)) | apply Split.drop)) ?_)
  rintro v_ w_ ⟨rfl, hs_⟩
  (try simp only [List.cons_append, List.nil_append] at hs_)
  refine ⟨_, hs_, ?_⟩
  refine ⟨fun _ => (Ent.of_split (by repeat (first | exact Split.all | exact Split.nil | (apply Split.keep; · ((repeat constructor); first | done | fail)) | (apply Split.take; · ((repeat constructor); first | done | fail)) | apply Split.drop))), ?_⟩
  refine wb_one 13 (by kernel_rfl) rfl (lev_callF (S_task_wide _) rfl rfl (by repeat (first | exact Split.nil | (apply Split.keep; · ((repeat constructor); first | done | fail)) | (apply Split.take; · ((repeat constructor); first | done | fail)) | apply Split.drop)) ?_)
  rintro v_ w_ ⟨rfl, hs_⟩
  (try simp only [List.cons_append, List.nil_append] at hs_)
  refine ⟨_, hs_, ?_⟩
  refine ⟨fun _ => (Ent.of_split (by repeat (first | exact Split.all | exact Split.nil | (apply Split.keep; · ((repeat constructor); first | done | fail)) | (apply Split.take; · ((repeat constructor); first | done | fail)) | apply Split.drop))), ?_⟩
  refine wb_one 17 (by kernel_rfl) rfl (lev_callF (S_task_wide _) rfl rfl (by repeat (first | exact Split.nil | (apply Split.keep; · ((repeat constructor); first | done | fail)) | (apply Split.take; · ((repeat constructor); first | done | fail)) | apply Split.drop)) ?_)
  rintro v_ w_ ⟨rfl, hs_⟩
  (try simp only [List.cons_append, List.nil_append] at hs_)
  refine ⟨_, hs_, ?_⟩
  refine ⟨fun _ => (Ent.of_split (by repeat (first | exact Split.all | exact Split.nil | (apply Split.keep; · ((repeat constructor); first | done | fail)) | (apply Split.take; · ((repeat constructor); first | done | fail)) | apply Split.drop))), ?_⟩
  refine wb_one 21 (by kernel_rfl) rfl (lev_callF (S_task_wide _) rfl rfl (by repeat (first | exact Split.nil | (apply Split.keep; · ((repeat constructor); first | done | fail)) | (apply Split.take; · ((repeat constructor); first | done | fail)) | apply Split.drop)) ?_)
  rintro v_ w_ ⟨rfl, hs_⟩
  (try simp only [List.cons_append, List.nil_append] at hs_)
  refine ⟨_, hs_, ?_⟩
  refine ⟨fun _ => (Ent.of_split (by repeat (first | exact Split.all | exact Split.nil | (apply Split.keep; · ((repeat constructor); first | done | fail)) | (apply Split.take; · ((repeat constructor); first | done | fail)) | apply Split.drop))), ?_⟩
  refine wb_one 22 (by kernel_rfl) rfl (lev_buildSlice (e := 177) (size := 3) (xs := [_, _, _, _, _, _]) (z := .agg #[(.int .i64 0), (.int .i64 0), (.int .i64 0)]) (by kernel_rfl) (by kernel_rfl) (by unfold zeroIs; kernel_rfl) rfl rfl rfl (.cons (us := [_, _, _]) rfl rfl (.cons (us := [_, _, _]) rfl rfl (.cons (us := [_, _, _]) rfl rfl (.cons (us := [_, _, _]) rfl rfl (.cons (us := [_, _, _]) rfl rfl (.cons (us := [_, _, _]) rfl rfl .nil)))))) rfl fun b2 => ?_)
  refine ⟨fun _ => (Ent.of_split (by repeat (first | exact Split.all | exact Split.nil | (apply Split.keep; · ((repeat constructor); first | done | fail)) | (apply Split.take; · ((repeat constructor); first | done | fail)) | apply Split.drop))), ?_⟩
  refine wb_entL (ent_litR (T := TBounds) (m := 6) (ys := numsB x) (by ((repeat constructor); first | done | fail)) rfl rfl (by decide) (numsB_ok hx)) ?_
  refine wb_one 23 (by kernel_rfl) rfl (lev_callF (S_task_all ⟨some ⟨b2, 0, none⟩, 6, numsB x⟩ (by simp [numsB])) rfl rfl (by repeat (first | exact Split.nil | (apply Split.keep; · ((repeat constructor); first | done | fail)) | (apply Split.take; · ((repeat constructor); first | done | fail)) | apply Split.drop)) ?_)
  rintro v_ w_ ⟨rfl, hs_⟩
  (try simp only [List.cons_append, List.nil_append] at hs_)
  refine ⟨_, hs_, ?_⟩
  refine ⟨fun _ => (Ent.of_split (by repeat (first | exact Split.all | exact Split.nil | (apply Split.keep; · ((repeat constructor); first | done | fail)) | (apply Split.take; · ((repeat constructor); first | done | fail)) | apply Split.drop))), ?_⟩
  refine wb_one 24 (by kernel_rfl) rfl (LEv.of_q (q_not rfl) rfl ?_)
  refine ⟨fun _ => (Ent.of_split (by repeat (first | exact Split.all | exact Split.nil | (apply Split.keep; · ((repeat constructor); first | done | fail)) | (apply Split.take; · ((repeat constructor); first | done | fail)) | apply Split.drop))), ?_⟩
  refine wb_done (by kernel_rfl) ?_
  refine wq_then ?_
  refine wc_cond _ rfl (fun hc30 => ?_) (fun hc30 => ?_)
  · have hc30_ := hc30; try simp only [decide_eq_true_eq, decide_eq_false_iff_not, Bool.not_eq_true', Bool.not_eq_false', Decidable.not_not, Int.not_lt, Int.not_le, Bool.and_eq_true, Bool.or_eq_true] at hc30_
    refine wc_seq ?_
    refine wc_region ?_
    refine wl_q (q_assign rfl) rfl ?_
    refine wl_nil ?_
    refine wq_then ?_
    refine wc_ret ?_
    refine wq_then_ret ?_
    refine wq_ret rfl (RVs.tmp rfl RVs.nil) (fun w_ hs_ => ?_)
    have hA : (numsB x).all okB = false := by cases h : (numsB x).all okB with | false => rfl | true => rw [h] at hc30; cases hc30
    exact ⟨by unfold checkF; rw [if_pos hA]; rfl, Split.use (by repeat (first | exact Split.nil | (apply Split.keep; · ((repeat constructor); first | done | fail)) | (apply Split.take; · ((repeat constructor); first | done | fail)) | apply Split.drop)) hs_⟩
  · have hc30_ := hc30; try simp only [decide_eq_true_eq, decide_eq_false_iff_not, Bool.not_eq_true', Bool.not_eq_false', Decidable.not_not, Int.not_lt, Int.not_le, Bool.and_eq_true, Bool.or_eq_true] at hc30_
    refine wc_skip ?_
    refine wq_then ?_
    refine wc_seq ?_
    have hA : (numsB x).all okB = true := by cases h : (numsB x).all okB with | true => rfl | false => rw [h] at hc30; cases hc30
    refine wc_region ?_
    refine wl_q (q_assign rfl) rfl ?_
    refine wl_nil ?_
    refine wq_then ?_
    refine wc_seq ?_
    refine wc_seq ?_
    refine wc_entL (ent_own_nil TBounds 177) ?_
    refine wc_region ?_
    refine wl_q (q_fieldAddr (off := 8) (by kernel_rfl) rfl) rfl ?_
    refine wl_q (q_loadC rfl (by kernel_rfl) (by ((repeat constructor); first | done | fail)) (by rfl)) rfl ?_
    refine wl_q (q_len (e := 3) (by kernel_rfl) rfl) rfl ?_
    refine wl_q (q_move rfl) rfl ?_
    refine wl_nil ?_
    refine wq_then ?_
    refine wc_block ?_
    refine wc_loop (γ := (Int) × (Sl GBounds)) (fun g_ => (0 ≤ g_.1) ∧ (g_.1 ≤ x.After.xs.length) ∧ (g_.2.xs = (x.After.xs.take g_.1.toNat).map idB)) (fun g_ => [(1, .pointer (some ⟨b1, 0, none⟩)), (3, g_.2.val), (32, x.After.val), (33, .int .i64 x.After.xs.length), (34, .int .i64 g_.1)]) (fun g_ => cb b1 (encSpec x) 67 :: per (Rd TInt x.After) :: Own TBounds 177 g_.2 :: F) (fun g_ => ((x.After.xs.length : Int) - g_.1).toNat) ((0, Sl.nil)) (⟨(show 0 ≤ (0 : Int) from (by omega)), (show (0 : Int) ≤ x.After.xs.length from (by omega)), (show (Sl.nil : Sl GBounds).xs = (x.After.xs.take (0 : Int).toNat).map idB from rfl)⟩) (by repeat (first | exact Sub.nil | refine Sub.cons (by rfl) ?_)) (Ent.of_split (by repeat (first | exact Split.all | exact Split.nil | (apply Split.keep; · ((repeat constructor); first | done | fail)) | (apply Split.take; · ((repeat constructor); first | done | fail)) | apply Split.drop))) ?_
    rintro ⟨i, s⟩ ⟨h0, h1, h2⟩
    replace h0 : 0 ≤ i := h0
    replace h1 : i ≤ x.After.xs.length := h1
    replace h2 : s.xs = (x.After.xs.take i.toNat).map idB := h2
    refine wc_ent (gs := [(1, .pointer (some ⟨b1, 0, none⟩)), (3, s.val), (32, x.After.val), (33, .int .i64 x.After.xs.length), (34, .int .i64 i)]) (by repeat (first | exact Sub.nil | refine Sub.cons (by rfl) ?_)) (L' := cb b1 (encSpec x) 67 :: per (Rd TInt x.After) :: Own TBounds 177 s :: F) (Ent.refl _) ?_
    refine wc_seq ?_
    refine wc_region ?_
    refine wl_q (q_lss rfl rfl) rfl ?_
    refine wl_nil ?_
    refine wq_then ?_
    refine wc_seq ?_
    refine wc_cond _ rfl (fun hc35 => ?_) (fun hc35 => ?_)
    · have hc35_ := hc35; try simp only [decide_eq_true_eq, decide_eq_false_iff_not, Bool.not_eq_true', Bool.not_eq_false', Decidable.not_not, Int.not_lt, Int.not_le, Bool.and_eq_true, Bool.or_eq_true] at hc35_
      have hx0 := gi_get (l := x.After.xs) (i := i) (by omega) (by omega)
      have e1 : x.After.xs.take (i + 1).toNat = x.After.xs.take i.toNat ++ [gi x.After.xs i] := by rw [show (i + 1).toNat = i.toNat + 1 by omega, List.take_add_one, hx0]; rfl
      have hxo : inI64 (gi x.After.xs i) := hok _ (List.mem_of_getElem? hx0)
      have hl2 : s.xs.length = i.toNat := by rw [h2]; simp; omega
      refine wc_skip ?_
      refine wq_then ?_
      refine wc_seq ?_
      refine wc_block ?_
      refine wc_seq ?_
      refine wc_region ?_
      refine wl_q (by first | exact q_indexR (e := 3) (by kernel_rfl) (by kernel_rfl) rfl rfl (by ((repeat constructor); first | done | fail)) (by first | omega | (dsimp only; omega) | (simp only [Int.toNat_natCast, List.length_set, List.length_append, List.length_cons, List.length_nil] at *; omega)) (by first | omega | (dsimp only; omega) | (simp only [Int.toNat_natCast, List.length_set, List.length_append, List.length_cons, List.length_nil] at *; omega)) | exact q_indexO (e := 3) (by kernel_rfl) (by kernel_rfl) rfl rfl (by ((repeat constructor); first | done | fail)) (by first | omega | (dsimp only; omega) | (simp only [Int.toNat_natCast, List.length_set, List.length_append, List.length_cons, List.length_nil] at *; omega)) (by first | omega | (dsimp only; omega) | (simp only [Int.toNat_natCast, List.length_set, List.length_append, List.length_cons, List.length_nil] at *; omega))) rfl ?_
      refine wl_q (by first | exact q_elemR1 (T := TInt) rfl (by kernel_rfl) (by ((repeat constructor); first | done | fail)) (gi_get (by omega) (by omega)) rfl | exact q_elemO1 (T := TInt) rfl (by kernel_rfl) (by ((repeat constructor); first | done | fail)) (gi_get (by omega) (by omega)) rfl) rfl ?_
      refine wl_q (q_assign rfl) rfl ?_
      refine wl_nil ?_
      refine wq_then ?_
      refine wc_region ?_
      refine wl_q (q_move rfl) rfl ?_
      refine wl_q (q_move rfl) rfl ?_
      refine wl_l (lev_callF (S_task_id _) rfl rfl (by repeat (first | exact Split.nil | (apply Split.keep; · ((repeat constructor); first | done | fail)) | (apply Split.take; · ((repeat constructor); first | done | fail)) | apply Split.drop)) ?_)
      rintro v_ w_ ⟨rfl, hs_⟩
      (try simp only [List.cons_append, List.nil_append] at hs_)
      refine ⟨_, hs_, ?_⟩
      refine wl_l (lev_buildSlice1 (e := 177) (us := [_, _, _]) (z := .agg #[(.int .i64 0), (.int .i64 0), (.int .i64 0)]) (by kernel_rfl) (by kernel_rfl) (by unfold zeroIs; kernel_rfl) rfl rfl rfl rfl rfl fun b44 => ?_)
      refine wl_l (lev_append1 (T := TBounds) (e := 177) (z := .agg #[(.int .i64 0), (.int .i64 0), (.int .i64 0)]) ((idB (gi x.After.xs i))) (by kernel_rfl) (by unfold zeroIs; kernel_rfl) (by kernel_rfl) rfl rfl 24 (by kernel_rfl) rfl rfl rfl (by ((repeat constructor); first | done | fail)) (by ((repeat constructor); first | done | fail)) rfl (.pure fun _ => ⟨hxo, k1, k999⟩) (⟨by simp only [big_is]; omega, by omega, by decide⟩) fun s2 hs2 => ?_)
      refine wl_q (q_assign rfl) rfl ?_
      refine wl_nil ?_
      refine wq_block_normal ?_
      refine wq_then ?_
      refine wc_region ?_
      refine wl_q (q_add rfl rfl ⟨by omega, by omega⟩) rfl ?_
      refine wl_q (q_move rfl) rfl ?_
      refine wl_nil ?_
      exact wq_meet ((i + 1, s2)) (⟨⟨(show 0 ≤ (i + 1 : Int) from (by omega)), (show (i + 1 : Int) ≤ x.After.xs.length from (by omega)), (show (s2 : Sl GBounds).xs = (x.After.xs.take (i + 1 : Int).toNat).map idB from (by rw [hs2, h2, e1, List.map_append]; rfl))⟩, (show ((x.After.xs.length : Int) - (i + 1 : Int)).toNat < ((x.After.xs.length : Int) - i).toNat from (by omega))⟩) (by repeat (first | exact Sub.nil | refine Sub.cons (by rfl) ?_)) (Ent.of_split (by repeat (first | exact Split.all | exact Split.nil | (apply Split.keep; · ((repeat constructor); first | done | fail)) | (apply Split.take; · ((repeat constructor); first | done | fail)) | apply Split.drop)))
    · have hc35_ := hc35; try simp only [decide_eq_true_eq, decide_eq_false_iff_not, Bool.not_eq_true', Bool.not_eq_false', Decidable.not_not, Int.not_lt, Int.not_le, Bool.and_eq_true, Bool.or_eq_true] at hc35_
      refine wc_exit ?_
      refine wq_then_exit ?_
      refine wq_then_exit ?_
      refine wq_block_exit ?_
      refine wq_then ?_
      refine wc_seq ?_
      refine wc_seq ?_
      have e0 : x.After.xs.take i.toNat = x.After.xs := by rw [show i.toNat = x.After.xs.length by omega]; simp
      rw [e0] at h2
      refine wc_entL (ent_rd (s := s) (by ((repeat constructor); first | done | fail))) ?_
      have hsl : s.xs.length ≤ 17592186044416 := by rw [h2, List.length_map]; omega
      refine wc_region ?_
      refine wl_q (q_fieldAddr (off := 8) (by kernel_rfl) rfl) rfl ?_
      refine wl_q (q_loadC rfl (by kernel_rfl) (by ((repeat constructor); first | done | fail)) (by rfl)) rfl ?_
      refine wl_q (q_len (e := 3) (by kernel_rfl) rfl) rfl ?_
      refine wl_q (q_gtr rfl rfl) rfl ?_
      refine wl_q (q_move rfl) rfl ?_
      refine wl_split 48 _ rfl (fun hb48 => ?_) (fun hb48 => ?_)
      · have hb48_ := hb48; try simp only [decide_eq_true_eq, decide_eq_false_iff_not, Bool.not_eq_true', Bool.not_eq_false', Decidable.not_not, Int.not_lt, Int.not_le, Bool.and_eq_true, Bool.or_eq_true] at hb48_
        refine wl_skip 48 rfl (lk_bool rfl hb48) (by intro h; cases h) rfl ?_
        refine wl_skip 48 rfl (lk_bool rfl hb48) (by intro h; cases h) rfl ?_
        refine wl_skip 48 rfl (lk_bool rfl hb48) (by intro h; cases h) rfl ?_
        refine wl_skip 48 rfl (lk_bool rfl hb48) (by intro h; cases h) rfl ?_
        refine wl_q (q_pickT rfl hb48 rfl) rfl ?_
        refine wl_q (q_move rfl) rfl ?_
        refine wl_skip 54 rfl rfl (by intro h; cases h) rfl ?_
        refine wl_skip 54 rfl rfl (by intro h; cases h) rfl ?_
        refine wl_skip 54 rfl rfl (by intro h; cases h) rfl ?_
        refine wl_skip 54 rfl rfl (by intro h; cases h) rfl ?_
        refine wl_skip 54 rfl rfl (by intro h; cases h) rfl ?_
        refine wl_q (q_pickT rfl rfl rfl) rfl ?_
        refine wl_q (q_move rfl) rfl ?_
        refine wl_skip 61 rfl rfl (by intro h; cases h) rfl ?_
        refine wl_skip 61 rfl rfl (by intro h; cases h) rfl ?_
        refine wl_skip 61 rfl rfl (by intro h; cases h) rfl ?_
        refine wl_q (q_pickT rfl rfl rfl) rfl ?_
        refine wl_nil ?_
        refine wq_then ?_
        refine wc_condT _ rfl rfl ?_
        refine wc_seq ?_
        refine wc_region ?_
        refine wl_q (q_assign rfl) rfl ?_
        refine wl_nil ?_
        refine wq_then ?_
        refine wc_ret ?_
        refine wq_then_ret ?_
        refine wq_ret rfl (RVs.tmp rfl RVs.nil) (fun w_ hs_ => ?_)
        exact ⟨by unfold checkF; rw [if_neg (by rw [hA]; decide), if_pos (.inl hb48_)]; rfl, Split.use (by repeat (first | exact Split.nil | (apply Split.keep; · ((repeat constructor); first | done | fail)) | (apply Split.take; · ((repeat constructor); first | done | fail)) | apply Split.drop)) hs_⟩
      · have hb48_ := hb48; try simp only [decide_eq_true_eq, decide_eq_false_iff_not, Bool.not_eq_true', Bool.not_eq_false', Decidable.not_not, Int.not_lt, Int.not_le, Bool.and_eq_true, Bool.or_eq_true] at hb48_
        refine wl_g 48 rfl (lk_bool rfl hb48) (q_fieldAddr (off := 8) (by kernel_rfl) rfl) rfl ?_
        refine wl_g 48 rfl (lk_bool rfl hb48) (q_loadC rfl (by kernel_rfl) (by ((repeat constructor); first | done | fail)) (by rfl)) rfl ?_
        refine wl_lg 48 rfl (lk_bool rfl hb48) (lev_callF (S_idset_Right x.After (by omega)) rfl rfl (by repeat (first | exact Split.nil | (apply Split.keep; · ((repeat constructor); first | done | fail)) | (apply Split.take; · ((repeat constructor); first | done | fail)) | apply Split.drop)) ?_)
        rintro v_ w_ ⟨rfl, hs_⟩
        (try simp only [List.cons_append, List.nil_append] at hs_)
        refine ⟨_, hs_, ?_⟩
        refine wl_g 48 rfl (lk_bool rfl hb48) (q_not rfl) rfl ?_
        refine wl_q (q_pickF rfl hb48 rfl) rfl ?_
        refine wl_q (q_move rfl) rfl ?_
        refine wl_split 54 _ rfl (fun hb54 => ?_) (fun hb54 => ?_)
        · have hb54_ := hb54; try simp only [decide_eq_true_eq, decide_eq_false_iff_not, Bool.not_eq_true', Bool.not_eq_false', Decidable.not_not, Int.not_lt, Int.not_le, Bool.and_eq_true, Bool.or_eq_true] at hb54_
          refine wl_skip 54 rfl (lk_bool rfl hb54) (by intro h; cases h) rfl ?_
          refine wl_skip 54 rfl (lk_bool rfl hb54) (by intro h; cases h) rfl ?_
          refine wl_skip 54 rfl (lk_bool rfl hb54) (by intro h; cases h) rfl ?_
          refine wl_skip 54 rfl (lk_bool rfl hb54) (by intro h; cases h) rfl ?_
          refine wl_skip 54 rfl (lk_bool rfl hb54) (by intro h; cases h) rfl ?_
          refine wl_q (q_pickT rfl hb54 rfl) rfl ?_
          refine wl_q (q_move rfl) rfl ?_
          refine wl_skip 61 rfl rfl (by intro h; cases h) rfl ?_
          refine wl_skip 61 rfl rfl (by intro h; cases h) rfl ?_
          refine wl_skip 61 rfl rfl (by intro h; cases h) rfl ?_
          refine wl_q (q_pickT rfl rfl rfl) rfl ?_
          refine wl_nil ?_
          refine wq_then ?_
          refine wc_condT _ rfl rfl ?_
          refine wc_seq ?_
          refine wc_region ?_
          refine wl_q (q_assign rfl) rfl ?_
          refine wl_nil ?_
          refine wq_then ?_
          refine wc_ret ?_
          refine wq_then_ret ?_
          refine wq_ret rfl (RVs.tmp rfl RVs.nil) (fun w_ hs_ => ?_)
          exact ⟨by unfold checkF; rw [if_neg (by rw [hA]; decide), if_pos (.inr (.inl (by simpa using hb54_)))]; rfl, Split.use (by repeat (first | exact Split.nil | (apply Split.keep; · ((repeat constructor); first | done | fail)) | (apply Split.take; · ((repeat constructor); first | done | fail)) | apply Split.drop)) hs_⟩
        · have hb54_ := hb54; try simp only [decide_eq_true_eq, decide_eq_false_iff_not, Bool.not_eq_true', Bool.not_eq_false', Decidable.not_not, Int.not_lt, Int.not_le, Bool.and_eq_true, Bool.or_eq_true] at hb54_
          refine wl_g 54 rfl (lk_bool rfl hb54) (q_fieldAddr (off := 8) (by kernel_rfl) rfl) rfl ?_
          refine wl_g 54 rfl (lk_bool rfl hb54) (q_loadC rfl (by kernel_rfl) (by ((repeat constructor); first | done | fail)) (by rfl)) rfl ?_
          refine wl_g 54 rfl (lk_bool rfl hb54) (q_fieldAddr (off := 0) (by kernel_rfl) rfl) rfl ?_
          refine wl_g 54 rfl (lk_bool rfl hb54) (q_loadC rfl (by kernel_rfl) (by ((repeat constructor); first | done | fail)) (by rfl)) rfl ?_
          refine wl_lg 54 rfl (lk_bool rfl hb54) (lev_callF (S_idset_Has x.After x.ID (by omega)) rfl rfl (by repeat (first | exact Split.nil | (apply Split.keep; · ((repeat constructor); first | done | fail)) | (apply Split.take; · ((repeat constructor); first | done | fail)) | apply Split.drop)) ?_)
          rintro v_ w_ ⟨rfl, hs_⟩
          (try simp only [List.cons_append, List.nil_append] at hs_)
          refine ⟨_, hs_, ?_⟩
          refine wl_q (q_pickF rfl hb54 rfl) rfl ?_
          refine wl_q (q_move rfl) rfl ?_
          refine wl_split 61 _ rfl (fun hb61 => ?_) (fun hb61 => ?_)
          · have hb61_ := hb61; try simp only [decide_eq_true_eq, decide_eq_false_iff_not, Bool.not_eq_true', Bool.not_eq_false', Decidable.not_not, Int.not_lt, Int.not_le, Bool.and_eq_true, Bool.or_eq_true] at hb61_
            refine wl_skip 61 rfl (lk_bool rfl hb61) (by intro h; cases h) rfl ?_
            refine wl_skip 61 rfl (lk_bool rfl hb61) (by intro h; cases h) rfl ?_
            refine wl_skip 61 rfl (lk_bool rfl hb61) (by intro h; cases h) rfl ?_
            refine wl_q (q_pickT rfl hb61 rfl) rfl ?_
            refine wl_nil ?_
            refine wq_then ?_
            refine wc_condT _ rfl rfl ?_
            refine wc_seq ?_
            refine wc_region ?_
            refine wl_q (q_assign rfl) rfl ?_
            refine wl_nil ?_
            refine wq_then ?_
            refine wc_ret ?_
            refine wq_then_ret ?_
            refine wq_ret rfl (RVs.tmp rfl RVs.nil) (fun w_ hs_ => ?_)
            exact ⟨by unfold checkF; rw [if_neg (by rw [hA]; decide), if_pos (.inr (.inr (.inl (by simpa using hb61_))))]; rfl, Split.use (by repeat (first | exact Split.nil | (apply Split.keep; · ((repeat constructor); first | done | fail)) | (apply Split.take; · ((repeat constructor); first | done | fail)) | apply Split.drop)) hs_⟩
          · have hb61_ := hb61; try simp only [decide_eq_true_eq, decide_eq_false_iff_not, Bool.not_eq_true', Bool.not_eq_false', Decidable.not_not, Int.not_lt, Int.not_le, Bool.and_eq_true, Bool.or_eq_true] at hb61_
            refine wl_g 61 rfl (lk_bool rfl hb61) (q_move rfl) rfl ?_
            refine wl_lg 61 rfl (lk_bool rfl hb61) (lev_callF (S_task_all s hsl) rfl rfl (by repeat (first | exact Split.nil | (apply Split.keep; · ((repeat constructor); first | done | fail)) | (apply Split.take; · ((repeat constructor); first | done | fail)) | apply Split.drop)) ?_)
            rintro v_ w_ ⟨rfl, hs_⟩
            (try simp only [List.cons_append, List.nil_append] at hs_)
            refine ⟨_, hs_, ?_⟩
            refine wl_g 61 rfl (lk_bool rfl hb61) (q_not rfl) rfl ?_
            refine wl_q (q_pickF rfl hb61 rfl) rfl ?_
            refine wl_nil ?_
            refine wq_then ?_
            refine wc_cond _ rfl (fun hc65 => ?_) (fun hc65 => ?_)
            · have hc65_ := hc65; try simp only [decide_eq_true_eq, decide_eq_false_iff_not, Bool.not_eq_true', Bool.not_eq_false', Decidable.not_not, Int.not_lt, Int.not_le, Bool.and_eq_true, Bool.or_eq_true] at hc65_
              refine wc_seq ?_
              refine wc_region ?_
              refine wl_q (q_assign rfl) rfl ?_
              refine wl_nil ?_
              refine wq_then ?_
              refine wc_ret ?_
              refine wq_then_ret ?_
              refine wq_ret rfl (RVs.tmp rfl RVs.nil) (fun w_ hs_ => ?_)
              exact ⟨by unfold checkF; rw [if_neg (by rw [hA]; decide), if_pos (.inr (.inr (.inr (by rw [← h2]; simpa using hc65_))))]; rfl, Split.use (by repeat (first | exact Split.nil | (apply Split.keep; · ((repeat constructor); first | done | fail)) | (apply Split.take; · ((repeat constructor); first | done | fail)) | apply Split.drop)) hs_⟩
            · have hc65_ := hc65; try simp only [decide_eq_true_eq, decide_eq_false_iff_not, Bool.not_eq_true', Bool.not_eq_false', Decidable.not_not, Int.not_lt, Int.not_le, Bool.and_eq_true, Bool.or_eq_true] at hc65_
              refine wc_skip ?_
              refine wq_then ?_
              refine wc_seq ?_
              refine wc_region ?_
              refine wl_q (q_assign rfl) rfl ?_
              refine wl_nil ?_
              refine wq_then ?_
              refine wc_ret ?_
              refine wq_ret rfl (RVs.tmp rfl RVs.nil) (fun w_ hs_ => ?_)
              exact ⟨by unfold checkF; rw [if_neg (by rw [hA]; decide), if_neg (by rw [← h2]; rintro (h | h | h | h); omega; rw [h] at hb54; cases hb54; exact hb61_ h; rw [h] at hc65; cases hc65)]; rfl, Split.use (by repeat (first | exact Split.nil | (apply Split.keep; · ((repeat constructor); first | done | fail)) | (apply Split.take; · ((repeat constructor); first | done | fail)) | apply Split.drop)) hs_⟩
end Go.Proofs.Ytlkmcdijioiddaa
