/- Contracts of functions of the program, walked step by step. Not a proof of any statement by itself. -/
import Derived.Test.YtlkmcdijioiddaaMore
import Derived.Test.YtlkmcdijioiddaaHeapM
import Derived.Test.YtlkmcdijioiddaaSmall
import Derived.Test.YtlkmcdijioiddaaProg
namespace Go.Proofs.Ytlkmcdijioiddaa
open Go.RowKit
set_option linter.unusedVariables false
set_option linter.unusedSimpArgs false
set_option maxRecDepth 100000

theorem orI_all {l : List Int} (h : ∀ x ∈ l, x = 0) : orI l = 0 := by
  induction l with
  | nil => rfl
  | cons x r ih => unfold orI; rw [if_pos (h x (List.mem_cons_self ..))]; exact ih fun y hy => h y (List.mem_cons_of_mem _ hy)
theorem orI_at : ∀ {l : List Int} {i : Nat} {x : Int}, l[i]? = some x → x ≠ 0 → (∀ j < i, l[j]? = some 0) → orI l = x
  | [], i, x, h, _, _ => by simp at h
  | a :: r, 0, x, h, hx, _ => by simp at h; subst h; unfold orI; rw [if_neg hx]
  | a :: r, i + 1, x, h, hx, hj => by
    have h0 := hj 0 (by omega)
    simp only [List.getElem?_cons_zero, Option.some.injEq] at h0
    unfold orI; rw [if_pos h0]
    exact orI_at (by simpa using h) hx fun j hlt => by have := hj (j + 1) (by omega); simpa using this
def okT (x : GThing) : Prop := inI64 x.id ∧ inI64 x.key ∧ inI64 x.seq
theorem okT_of {x : GThing} {M : MH} (h : TThing.ok M x) : okT x := h
/-- a heap in memory -/
def hpc (s : Sl GThing) (m : Nat) : List Value := [s.val, .map (some m)]
theorem hpc_eq {A : Option Addr} {c : Nat} {l l' : List GThing} {m : Nat} (h : l'.length = l.length) : hpc ⟨A, c, l'⟩ m = hpc ⟨A, c, l⟩ m := by unfold hpc; rw [Sl.val_eq h]
theorem upF_len : ∀ (i : Nat) (l : List GThing) (kv : List (Int × Int)) (x : GThing), (upF l kv i x).1.length = l.length := by
  intro i
  induction i using Nat.strongRecOn with
  | _ i ih =>
    intro l kv x
    unfold upF
    split
    · rename_i h; rw [ih _ (by omega)]; simp
    · simp
theorem downF_len : ∀ (m i : Nat) (l : List GThing) (kv : List (Int × Int)) (x : GThing), l.length - i = m → (downF l kv i x).1.length = l.length := by
  intro m
  induction m using Nat.strongRecOn with
  | _ m ih =>
    intro i l kv x hm
    unfold downF
    split
    · rename_i h; have := lesser_gt l i; rw [ih _ (by simp; omega) _ _ _ _ rfl]; simp
    · simp
theorem upF_le : ∀ (i : Nat) (l : List GThing) (kv : List (Int × Int)) (x : GThing), (upF l kv i x).2.2 ≤ i := by
  intro i
  induction i using Nat.strongRecOn with
  | _ i ih =>
    intro l kv x
    unfold upF
    split
    · rename_i h; have := ih ((i - 1) / 2) (by omega) (l.set i (gt l ((i - 1) / 2))) (aset kv (gt l ((i - 1) / 2)).id i) x; omega
    · exact Nat.le_refl _


set_option maxHeartbeats 400000 in
theorem S_cmp_Compare (a b : Int) : Fn Try.prog 174 [.int .i64 a, .int .i64 b] [] (fun v_ S_ => v_ = .int .i64 (cmp3 a b) ∧ S_ []) := by
  refine fn_intro (m := 20) (gs := [(0, .int .i64 a), (1, .int .i64 b)]) Try.func174 rfl rfl rfl rfl (fun t v h => gs_ok (by repeat (first | exact GsOk.nil | refine GsOk.cons (by rfl) ?_)) t v h) (fun F => F) (fun _ => rfl) (fun E F => ?_)
  refine wc_seq ?_
  refine wc_region ?_
  refine wl_q (q_assign rfl) rfl ?_
  refine wl_nil ?_
  refine wq_then ?_
  refine wc_seq ?_
  refine wc_region ?_
  refine wl_q (q_move rfl) rfl ?_
  refine wl_l (lev_callF (S_cmp_isNaN _) rfl rfl (by repeat (first | exact Split.nil | (apply Split.keep; · ((repeat constructor); first | done | fail)) | (apply Split.take; · ((repeat constructor); first | done | fail)) | apply Split.drop)) ?_)
  rintro v_ w_ ⟨rfl, hs_⟩
  (try simp only [List.cons_append, List.nil_append] at hs_)
  refine ⟨_, hs_, ?_⟩
  refine wl_q (q_assign rfl) rfl ?_
  refine wl_nil ?_
  refine wq_then ?_
  refine wc_seq ?_
  refine wc_region ?_
  refine wl_q (q_move rfl) rfl ?_
  refine wl_l (lev_callF (S_cmp_isNaN _) rfl rfl (by repeat (first | exact Split.nil | (apply Split.keep; · ((repeat constructor); first | done | fail)) | (apply Split.take; · ((repeat constructor); first | done | fail)) | apply Split.drop)) ?_)
  rintro v_ w_ ⟨rfl, hs_⟩
  (try simp only [List.cons_append, List.nil_append] at hs_)
  refine ⟨_, hs_, ?_⟩
  refine wl_q (q_assign rfl) rfl ?_
  refine wl_nil ?_
  refine wq_then ?_
  refine wc_seq ?_
  refine wc_seq ?_
  refine wc_region ?_
  refine wl_q (q_move rfl) rfl ?_
  refine wl_nil ?_
  refine wq_then ?_
  refine wc_condF _ rfl rfl ?_
  refine wc_skip ?_
  refine wq_then ?_
  refine wc_seq ?_
  refine wc_seq ?_
  refine wc_region ?_
  refine wl_q (q_move rfl) rfl ?_
  refine wl_nil ?_
  refine wq_then ?_
  refine wc_condF _ rfl rfl ?_
  refine wc_skip ?_
  refine wq_then ?_
  refine wc_seq ?_
  refine wc_seq ?_
  refine wc_region ?_
  refine wl_q (q_move rfl) rfl ?_
  refine wl_q (q_move rfl) rfl ?_
  refine wl_q (q_lss rfl rfl) rfl ?_
  refine wl_nil ?_
  refine wq_then ?_
  refine wc_cond _ rfl (fun hc16 => ?_) (fun hc16 => ?_)
  · have hc16_ := hc16; try simp only [decide_eq_true_eq, decide_eq_false_iff_not, Bool.not_eq_true', Bool.not_eq_false', Decidable.not_not, Int.not_lt, Int.not_le, Bool.and_eq_true, Bool.or_eq_true] at hc16_
    refine wc_seq ?_
    refine wc_region ?_
    refine wl_q (q_assign rfl) rfl ?_
    refine wl_nil ?_
    refine wq_then ?_
    refine wc_ret ?_
    refine wq_then_ret ?_
    refine wq_ret rfl (RVs.tmp rfl RVs.nil) (fun w_ hs_ => ?_)
    exact ⟨by unfold cmp3; rw [if_pos hc16_]; rfl, hs_⟩
  · have hc16_ := hc16; try simp only [decide_eq_true_eq, decide_eq_false_iff_not, Bool.not_eq_true', Bool.not_eq_false', Decidable.not_not, Int.not_lt, Int.not_le, Bool.and_eq_true, Bool.or_eq_true] at hc16_
    refine wc_skip ?_
    refine wq_then ?_
    refine wc_seq ?_
    refine wc_seq ?_
    refine wc_region ?_
    refine wl_q (q_move rfl) rfl ?_
    refine wl_q (q_move rfl) rfl ?_
    refine wl_q (q_gtr rfl rfl) rfl ?_
    refine wl_nil ?_
    refine wq_then ?_
    refine wc_cond _ rfl (fun hc19 => ?_) (fun hc19 => ?_)
    · have hc19_ := hc19; try simp only [decide_eq_true_eq, decide_eq_false_iff_not, Bool.not_eq_true', Bool.not_eq_false', Decidable.not_not, Int.not_lt, Int.not_le, Bool.and_eq_true, Bool.or_eq_true] at hc19_
      refine wc_seq ?_
      refine wc_region ?_
      refine wl_q (q_assign rfl) rfl ?_
      refine wl_nil ?_
      refine wq_then ?_
      refine wc_ret ?_
      refine wq_then_ret ?_
      refine wq_ret rfl (RVs.tmp rfl RVs.nil) (fun w_ hs_ => ?_)
      exact ⟨by unfold cmp3; rw [if_neg (by omega), if_pos hc19_]; rfl, hs_⟩
    · have hc19_ := hc19; try simp only [decide_eq_true_eq, decide_eq_false_iff_not, Bool.not_eq_true', Bool.not_eq_false', Decidable.not_not, Int.not_lt, Int.not_le, Bool.and_eq_true, Bool.or_eq_true] at hc19_
      refine wc_skip ?_
      refine wq_then ?_
      refine wc_seq ?_
      refine wc_region ?_
      refine wl_q (q_assign rfl) rfl ?_
      refine wl_nil ?_
      refine wq_then ?_
      refine wc_ret ?_
      refine wq_ret rfl (RVs.tmp rfl RVs.nil) (fun w_ hs_ => ?_)
      exact ⟨by unfold cmp3; rw [if_neg (by omega), if_neg (by omega)]; rfl, hs_⟩

set_option maxHeartbeats 400000 in
theorem S_cmp_Or (s : Sl Int) (hlen : s.xs.length ≤ 17592186044416) : Fn Try.prog 173 [s.val] [per (Rd TInt s)] (fun v_ S_ => v_ = .int .i64 (orI s.xs) ∧ S_ []) := by
  refine fn_intro (m := 18) (gs := [(0, s.val)]) Try.func173 rfl rfl rfl rfl (fun t v h => gs_ok (by repeat (first | exact GsOk.nil | refine GsOk.cons (by rfl) ?_)) t v h) (fun F => per (Rd TInt s) :: F) (fun _ => rfl) (fun E F => ?_)
  refine wc_seq ?_
  refine wc_region ?_
  refine wl_q (q_assign rfl) rfl ?_
  refine wl_nil ?_
  refine wq_then ?_
  refine wc_seq ?_
  refine wc_region ?_
  refine wl_q (q_assign rfl) rfl ?_
  refine wl_nil ?_
  refine wq_then ?_
  refine wc_seq ?_
  refine wc_seq ?_
  refine wc_region ?_
  refine wl_q (q_move rfl) rfl ?_
  refine wl_q (q_len (e := 3) (by kernel_rfl) rfl) rfl ?_
  refine wl_q (q_move rfl) rfl ?_
  refine wl_nil ?_
  refine wq_then ?_
  refine wc_block ?_
  refine wc_loop (γ := (Int)) (fun g_ => (0 ≤ g_) ∧ (g_ ≤ s.xs.length) ∧ (∀ j : Nat, (j : Int) < g_ → s.xs[j]? = some 0)) (fun g_ => [(0, s.val), (3, .int .i64 0), (6, s.val), (7, .int .i64 s.xs.length), (8, .int .i64 g_)]) (fun g_ => per (Rd TInt s) :: F) (fun g_ => ((s.xs.length : Int) - g_).toNat) (0) (⟨(show 0 ≤ (0 : Int) from (by omega)), (show (0 : Int) ≤ s.xs.length from (by omega)), (show ∀ j : Nat, (j : Int) < (0 : Int) → s.xs[j]? = some 0 from fun j h => by omega)⟩) (by repeat (first | exact Sub.nil | refine Sub.cons (by rfl) ?_)) (Ent.of_split (by repeat (first | exact Split.all | exact Split.nil | (apply Split.keep; · ((repeat constructor); first | done | fail)) | (apply Split.take; · ((repeat constructor); first | done | fail)) | apply Split.drop))) ?_
  rintro i ⟨hi1, hi2, hi3⟩
  replace hi1 : 0 ≤ i := hi1
  replace hi2 : i ≤ s.xs.length := hi2
  replace hi3 : ∀ j : Nat, (j : Int) < i → s.xs[j]? = some 0 := hi3
  refine wc_ent (gs := [(0, s.val), (3, .int .i64 0), (6, s.val), (7, .int .i64 s.xs.length), (8, .int .i64 i)]) (by repeat (first | exact Sub.nil | refine Sub.cons (by rfl) ?_)) (L' := per (Rd TInt s) :: F) (Ent.refl _) ?_
  refine wc_seq ?_
  refine wc_region ?_
  refine wl_q (q_lss rfl rfl) rfl ?_
  refine wl_nil ?_
  refine wq_then ?_
  refine wc_seq ?_
  refine wc_cond _ rfl (fun hc9 => ?_) (fun hc9 => ?_)
  · have hc9_ := hc9; try simp only [decide_eq_true_eq, decide_eq_false_iff_not, Bool.not_eq_true', Bool.not_eq_false', Decidable.not_not, Int.not_lt, Int.not_le, Bool.and_eq_true, Bool.or_eq_true] at hc9_
    refine wc_skip ?_
    refine wq_then ?_
    refine wc_seq ?_
    refine wc_block ?_
    refine wc_seq ?_
    refine wc_region ?_
    refine wl_q (by first | exact q_indexR (e := 3) (by kernel_rfl) (by kernel_rfl) rfl rfl (by ((repeat constructor); first | done | fail)) (by first | omega | (dsimp only; omega) | (simp only [Int.toNat_natCast, List.length_set, List.length_append, List.length_cons, List.length_nil] at *; omega)) (by first | omega | (dsimp only; omega) | (simp only [Int.toNat_natCast, List.length_set, List.length_append, List.length_cons, List.length_nil] at *; omega)) | exact q_indexO (e := 3) (by kernel_rfl) (by kernel_rfl) rfl rfl (by ((repeat constructor); first | done | fail)) (by first | omega | (dsimp only; omega) | (simp only [Int.toNat_natCast, List.length_set, List.length_append, List.length_cons, List.length_nil] at *; omega)) (by first | omega | (dsimp only; omega) | (simp only [Int.toNat_natCast, List.length_set, List.length_append, List.length_cons, List.length_nil] at *; omega))) rfl ?_
    refine wl_q (by first | exact q_elemR1 (T := TInt) rfl (by kernel_rfl) (by ((repeat constructor); first | done | fail)) (gi_get (by omega) (by omega)) rfl | exact q_elemO1 (T := TInt) rfl (by kernel_rfl) (by ((repeat constructor); first | done | fail)) (gi_get (by omega) (by omega)) rfl) rfl ?_
    refine wl_q (q_assign rfl) rfl ?_
    refine wl_nil ?_
    refine wq_then ?_
    refine wc_seq ?_
    refine wc_region ?_
    refine wl_q (q_move rfl) rfl ?_
    refine wl_q (q_move rfl) rfl ?_
    refine wl_q (q_neq rfl rfl) rfl ?_
    refine wl_nil ?_
    refine wq_then ?_
    refine wc_cond _ rfl (fun hc14 => ?_) (fun hc14 => ?_)
    · have hc14_ := hc14; try simp only [decide_eq_true_eq, decide_eq_false_iff_not, Bool.not_eq_true', Bool.not_eq_false', Decidable.not_not, Int.not_lt, Int.not_le, Bool.and_eq_true, Bool.or_eq_true] at hc14_
      refine wc_seq ?_
      refine wc_region ?_
      refine wl_q (q_move rfl) rfl ?_
      refine wl_q (q_assign rfl) rfl ?_
      refine wl_nil ?_
      refine wq_then ?_
      refine wc_ret ?_
      refine wq_block_ret ?_
      refine wq_then_ret ?_
      refine wq_then_ret ?_
      refine wq_block_ret ?_
      refine wq_then_ret ?_
      refine wq_ret rfl (RVs.tmp rfl RVs.nil) (fun w_ hs_ => ?_)
      exact ⟨by rw [orI_at (gi_get (l := s.xs) (i := i) (by omega) (by omega)) hc14_ (fun j hj => hi3 j (by omega))]; rfl, Split.use (by repeat (first | exact Split.nil | (apply Split.keep; · ((repeat constructor); first | done | fail)) | (apply Split.take; · ((repeat constructor); first | done | fail)) | apply Split.drop)) hs_⟩
    · have hc14_ := hc14; try simp only [decide_eq_true_eq, decide_eq_false_iff_not, Bool.not_eq_true', Bool.not_eq_false', Decidable.not_not, Int.not_lt, Int.not_le, Bool.and_eq_true, Bool.or_eq_true] at hc14_
      refine wc_skip ?_
      refine wq_block_normal ?_
      refine wq_then ?_
      refine wc_region ?_
      refine wl_q (q_add rfl rfl ⟨by omega, by omega⟩) rfl ?_
      refine wl_q (q_move rfl) rfl ?_
      refine wl_nil ?_
      exact wq_meet (i + 1) (⟨⟨(show 0 ≤ (i + 1 : Int) from (by omega)), (show (i + 1 : Int) ≤ s.xs.length from (by omega)), (show ∀ j : Nat, (j : Int) < (i + 1 : Int) → s.xs[j]? = some 0 from (fun j h => by rcases Int.lt_or_le (j : Int) i with h1 | h1; exact hi3 j h1; have h2 := gi_get (l := s.xs) (i := i) (by omega) (by omega); rw [show i.toNat = j by omega, hc14_] at h2; exact h2))⟩, (show ((s.xs.length : Int) - (i + 1 : Int)).toNat < ((s.xs.length : Int) - i).toNat from (by omega))⟩) (by repeat (first | exact Sub.nil | refine Sub.cons (by rfl) ?_)) (Ent.of_split (by repeat (first | exact Split.all | exact Split.nil | (apply Split.keep; · ((repeat constructor); first | done | fail)) | (apply Split.take; · ((repeat constructor); first | done | fail)) | apply Split.drop)))
  · have hc9_ := hc9; try simp only [decide_eq_true_eq, decide_eq_false_iff_not, Bool.not_eq_true', Bool.not_eq_false', Decidable.not_not, Int.not_lt, Int.not_le, Bool.and_eq_true, Bool.or_eq_true] at hc9_
    refine wc_exit ?_
    refine wq_then_exit ?_
    refine wq_then_exit ?_
    refine wq_block_exit ?_
    refine wq_then ?_
    refine wc_seq ?_
    refine wc_region ?_
    refine wl_q (q_move rfl) rfl ?_
    refine wl_q (q_assign rfl) rfl ?_
    refine wl_nil ?_
    refine wq_then ?_
    refine wc_ret ?_
    refine wq_ret rfl (RVs.tmp rfl RVs.nil) (fun w_ hs_ => ?_)
    exact ⟨by rw [orI_all (l := s.xs) (fun x hx => by obtain ⟨j, hj, rfl⟩ := List.mem_iff_getElem.1 hx; have := hi3 j (by omega); rw [List.getElem?_eq_getElem hj] at this; simpa using this)]; rfl, Split.use (by repeat (first | exact Split.nil | (apply Split.keep; · ((repeat constructor); first | done | fail)) | (apply Split.take; · ((repeat constructor); first | done | fail)) | apply Split.drop)) hs_⟩

theorem cmp3_in {a b c d e f z : Int} (h : z ∈ [cmp3 a b, cmp3 c d, cmp3 e f]) : inI64 z := by
  simp only [List.mem_cons, List.not_mem_nil, or_false] at h
  unfold inI64
  rcases h with rfl | rfl | rfl <;> (unfold cmp3; split <;> (try split) <;> omega)

set_option maxHeartbeats 400000 in
theorem S_heap_ahead (x y : GThing) : Fn Try.prog 171 [.agg (encThing x).toArray, .agg (encThing y).toArray] [] (fun v_ S_ => v_ = .bool (ahead x y) ∧ S_ []) := by
  refine fn_intro (m := 23) (gs := [(0, .agg (encThing x).toArray), (1, .agg (encThing y).toArray)]) Try.func171 rfl rfl rfl rfl (fun t v h => gs_ok (by repeat (first | exact GsOk.nil | refine GsOk.cons (by rfl) ?_)) t v h) (fun F => F) (fun _ => rfl) (fun E F => ?_)
  refine wc_seq ?_
  refine wc_region ?_
  refine wl_l (lev_box _ rfl rfl rfl fun b1 => ?_)
  refine wl_l (lev_box _ rfl rfl rfl fun b3 => ?_)
  refine wl_q (q_assign rfl) rfl ?_
  refine wl_nil ?_
  refine wq_then ?_
  refine wc_seq ?_
  refine wc_drawL [0, 1, 2, 3, 5, 6, 7, 8, 10, 11, 12, 13] (by kernel_rfl) ?_
  refine wb_q 0 rfl (by kernel_rfl) (fun _ _ _ h => h) (Ent.refl _) (q_fieldAddr (off := 1) (by kernel_rfl) rfl) rfl ?_
  refine wb_q 1 rfl (by kernel_rfl) (fun _ _ _ h => h) (Ent.refl _) (q_loadC rfl (by kernel_rfl) (by ((repeat constructor); first | done | fail)) (by rfl)) rfl ?_
  refine wb_q 2 rfl (by kernel_rfl) (fun _ _ _ h => h) (Ent.refl _) (q_fieldAddr (off := 1) (by kernel_rfl) rfl) rfl ?_
  refine wb_q 3 rfl (by kernel_rfl) (fun _ _ _ h => h) (Ent.refl _) (q_loadC rfl (by kernel_rfl) (by ((repeat constructor); first | done | fail)) (by rfl)) rfl ?_
  refine wb_q 5 rfl (by kernel_rfl) (fun _ _ _ h => h) (Ent.refl _) (q_fieldAddr (off := 2) (by kernel_rfl) rfl) rfl ?_
  refine wb_q 6 rfl (by kernel_rfl) (fun _ _ _ h => h) (Ent.refl _) (q_loadC rfl (by kernel_rfl) (by ((repeat constructor); first | done | fail)) (by rfl)) rfl ?_
  refine wb_q 7 rfl (by kernel_rfl) (fun _ _ _ h => h) (Ent.refl _) (q_fieldAddr (off := 2) (by kernel_rfl) rfl) rfl ?_
  refine wb_q 8 rfl (by kernel_rfl) (fun _ _ _ h => h) (Ent.refl _) (q_loadC rfl (by kernel_rfl) (by ((repeat constructor); first | done | fail)) (by rfl)) rfl ?_
  refine wb_q 10 rfl (by kernel_rfl) (fun _ _ _ h => h) (Ent.refl _) (q_fieldAddr (off := 0) (by kernel_rfl) rfl) rfl ?_
  refine wb_q 11 rfl (by kernel_rfl) (fun _ _ _ h => h) (Ent.refl _) (q_loadC rfl (by kernel_rfl) (by ((repeat constructor); first | done | fail)) (by rfl)) rfl ?_
  refine wb_q 12 rfl (by kernel_rfl) (fun _ _ _ h => h) (Ent.refl _) (q_fieldAddr (off := 0) (by kernel_rfl) rfl) rfl ?_
  refine wb_q 13 rfl (by kernel_rfl) (fun _ _ _ h => h) (Ent.refl _) (q_loadC rfl (by kernel_rfl) (by ((repeat constructor); first | done | fail)) (by rfl)) rfl ?_
  refine wb_one 4 (by kernel_rfl) rfl (lev_callF (S_cmp_Compare _ _) rfl rfl (by repeat (first | exact Split.nil | (apply Split.keep; · ((repeat constructor); first | done | fail)) | (apply Split.take; · ((repeat constructor); first | done | fail)) | apply Split.drop)) ?_)
  rintro v_ w_ ⟨rfl, hs_⟩
  (try simp only [List.cons_append, List.nil_append] at hs_)
  refine ⟨_, hs_, ?_⟩
  refine ⟨fun _ => (Ent.of_split (by repeat (first | exact Split.all | exact Split.nil | (apply Split.keep; · ((repeat constructor); first | done | fail)) | (apply Split.take; · ((repeat constructor); first | done | fail)) | apply Split.drop))), ?_⟩
  refine wb_one 9 (by kernel_rfl) rfl (lev_callF (S_cmp_Compare _ _) rfl rfl (by repeat (first | exact Split.nil | (apply Split.keep; · ((repeat constructor); first | done | fail)) | (apply Split.take; · ((repeat constructor); first | done | fail)) | apply Split.drop)) ?_)
  rintro v_ w_ ⟨rfl, hs_⟩
  (try simp only [List.cons_append, List.nil_append] at hs_)
  refine ⟨_, hs_, ?_⟩
  refine ⟨fun _ => (Ent.of_split (by repeat (first | exact Split.all | exact Split.nil | (apply Split.keep; · ((repeat constructor); first | done | fail)) | (apply Split.take; · ((repeat constructor); first | done | fail)) | apply Split.drop))), ?_⟩
  refine wb_one 14 (by kernel_rfl) rfl (lev_callF (S_cmp_Compare _ _) rfl rfl (by repeat (first | exact Split.nil | (apply Split.keep; · ((repeat constructor); first | done | fail)) | (apply Split.take; · ((repeat constructor); first | done | fail)) | apply Split.drop)) ?_)
  rintro v_ w_ ⟨rfl, hs_⟩
  (try simp only [List.cons_append, List.nil_append] at hs_)
  refine ⟨_, hs_, ?_⟩
  refine ⟨fun _ => (Ent.of_split (by repeat (first | exact Split.all | exact Split.nil | (apply Split.keep; · ((repeat constructor); first | done | fail)) | (apply Split.take; · ((repeat constructor); first | done | fail)) | apply Split.drop))), ?_⟩
  refine wb_one 15 (by kernel_rfl) rfl (lev_buildSlice (e := 3) (size := 1) (xs := [_, _, _]) (z := (.int .i64 0)) (by kernel_rfl) (by kernel_rfl) (by unfold zeroIs; kernel_rfl) rfl rfl rfl (.cons (us := [_]) rfl rfl (.cons (us := [_]) rfl rfl (.cons (us := [_]) rfl rfl .nil))) rfl fun b23 => ?_)
  refine ⟨fun _ => (Ent.of_split (by repeat (first | exact Split.all | exact Split.nil | (apply Split.keep; · ((repeat constructor); first | done | fail)) | (apply Split.take; · ((repeat constructor); first | done | fail)) | apply Split.drop))), ?_⟩
  refine wb_entL (ent_litR (T := TInt) (m := 3) (ys := [cmp3 y.key x.key, cmp3 x.seq y.seq, cmp3 x.id y.id]) (by ((repeat constructor); first | done | fail)) rfl rfl (by decide) (fun M z hz => cmp3_in hz)) ?_
  refine wb_one 16 (by kernel_rfl) rfl (lev_callF (S_cmp_Or ⟨some ⟨_, 0, none⟩, 3, [cmp3 y.key x.key, cmp3 x.seq y.seq, cmp3 x.id y.id]⟩ (by simp)) rfl rfl (by repeat (first | exact Split.nil | (apply Split.keep; · ((repeat constructor); first | done | fail)) | (apply Split.take; · ((repeat constructor); first | done | fail)) | apply Split.drop)) ?_)
  rintro v_ w_ ⟨rfl, hs_⟩
  (try simp only [List.cons_append, List.nil_append] at hs_)
  refine ⟨_, hs_, ?_⟩
  refine ⟨fun _ => (Ent.of_split (by repeat (first | exact Split.all | exact Split.nil | (apply Split.keep; · ((repeat constructor); first | done | fail)) | (apply Split.take; · ((repeat constructor); first | done | fail)) | apply Split.drop))), ?_⟩
  refine wb_one 17 (by kernel_rfl) rfl (LEv.of_q (q_lss rfl rfl) rfl ?_)
  refine ⟨fun _ => (Ent.of_split (by repeat (first | exact Split.all | exact Split.nil | (apply Split.keep; · ((repeat constructor); first | done | fail)) | (apply Split.take; · ((repeat constructor); first | done | fail)) | apply Split.drop))), ?_⟩
  refine wb_one 18 (by kernel_rfl) rfl (LEv.of_q (q_assign rfl) rfl ?_)
  refine ⟨needs_no (by kernel_rfl), ?_⟩
  refine wb_done (by kernel_rfl) ?_
  refine wq_then ?_
  refine wc_ret ?_
  refine wq_ret rfl (RVs.tmp rfl RVs.nil) (fun w_ hs_ => ?_)
  exact ⟨rfl, Split.use (by repeat (first | exact Split.nil | (apply Split.keep; · ((repeat constructor); first | done | fail)) | (apply Split.take; · ((repeat constructor); first | done | fail)) | apply Split.drop)) hs_⟩

set_option maxHeartbeats 400000 in
theorem S_heap_set (hb m : Nat) (s : Sl GThing) (kv : List (Int × Int)) (i : Nat) (x : GThing) (hi : i < s.xs.length) (hx : okT x) : Fn Try.prog 172 [.pointer (some ⟨hb, 0, none⟩), .int .i64 (i : Int), .agg (encThing x).toArray] [cb hb (hpc s m) 223, Own TThing 225 s, mpI m kv] (fun v_ S_ => v_ = .tuple #[] ∧ S_ [cb hb (hpc ⟨s.A, s.c, s.xs.set i x⟩ m) 223, Own TThing 225 ⟨s.A, s.c, s.xs.set i x⟩, mpI m (aset kv x.id i)]) := by
  refine fn_intro (m := 20) (gs := [(0, .pointer (some ⟨hb, 0, none⟩)), (1, .int .i64 (i : Int)), (2, .agg (encThing x).toArray)]) Try.func172 rfl rfl rfl rfl (fun t v h => gs_ok (by repeat (first | exact GsOk.nil | refine GsOk.cons (by rfl) ?_)) t v h) (fun F => cb hb (hpc s m) 223 :: Own TThing 225 s :: mpI m kv :: F) (fun _ => rfl) (fun E F => ?_)
  refine wc_ownF (s := s) (by ((repeat constructor); first | done | fail)) fun hcap hbig hok => ?_
  have hbig2 := big_is
  obtain ⟨M_, hok⟩ := hok
  refine wc_seq ?_
  refine wc_region ?_
  refine wl_l (lev_box _ rfl rfl rfl fun b1 => ?_)
  refine wl_nil ?_
  refine wq_then ?_
  refine wc_seq ?_
  refine wc_drawL [0, 1, 2, 3, 4, 5, 6] (by kernel_rfl) ?_
  refine wb_q 0 rfl (by kernel_rfl) (fun _ _ _ h => h) (Ent.refl _) (q_move rfl) rfl ?_
  refine wb_q 1 rfl (by kernel_rfl) (fun _ _ _ h => h) (Ent.refl _) (by first | exact q_nilCheck rfl | exact q_nilCheckF rfl) rfl ?_
  refine wb_q 2 rfl (by kernel_rfl) (fun _ _ _ h => h) (Ent.refl _) (q_fieldAddr (off := 0) (by kernel_rfl) rfl) rfl ?_
  refine wb_q 3 rfl (by kernel_rfl) (fun _ _ _ h => h) (Ent.refl _) (q_loadC rfl (by kernel_rfl) (by ((repeat constructor); first | done | fail)) (by rfl)) rfl ?_
  refine wb_q 4 rfl (by kernel_rfl) (fun _ _ _ h => h) (Ent.refl _) (q_move rfl) rfl ?_
  refine wb_q 5 rfl (by kernel_rfl) (fun _ _ _ h => h) (Ent.refl _) (q_loadCA rfl (by ((repeat constructor); first | done | fail)) (by kernel_rfl)) rfl ?_
  refine wb_q 6 rfl (by kernel_rfl) (fun _ _ _ h => h) (Ent.refl _) (by first | exact q_indexR (e := 225) (by kernel_rfl) (by kernel_rfl) rfl rfl (by ((repeat constructor); first | done | fail)) (by first | omega | (dsimp only; omega) | (simp only [Int.toNat_natCast, List.length_set, List.length_append, List.length_cons, List.length_nil] at *; omega)) (by first | omega | (dsimp only; omega) | (simp only [Int.toNat_natCast, List.length_set, List.length_append, List.length_cons, List.length_nil] at *; omega)) | exact q_indexO (e := 225) (by kernel_rfl) (by kernel_rfl) rfl rfl (by ((repeat constructor); first | done | fail)) (by first | omega | (dsimp only; omega) | (simp only [Int.toNat_natCast, List.length_set, List.length_append, List.length_cons, List.length_nil] at *; omega)) (by first | omega | (dsimp only; omega) | (simp only [Int.toNat_natCast, List.length_set, List.length_append, List.length_cons, List.length_nil] at *; omega))) rfl ?_
  refine wb_one 7 (by kernel_rfl) rfl ?_
  refine lev_storeElem (T := TThing) (x) rfl rfl rfl (by kernel_rfl) rfl (by omega) (by ((repeat constructor); first | done | fail)) (fun _ => hx) ?_
  refine ⟨needs_no (by kernel_rfl), ?_⟩
  refine wb_done (by kernel_rfl) ?_
  refine wq_then ?_
  refine wc_drawL [0, 1, 2, 3, 4, 5, 6] (by kernel_rfl) ?_
  refine wb_q 0 rfl (by kernel_rfl) (fun _ _ _ h => h) (Ent.refl _) (q_move rfl) rfl ?_
  refine wb_q 1 rfl (by kernel_rfl) (fun _ _ _ h => h) (Ent.refl _) (by first | exact q_nilCheck rfl | exact q_nilCheckF rfl) rfl ?_
  refine wb_q 2 rfl (by kernel_rfl) (fun _ _ _ h => h) (Ent.refl _) (q_fieldAddr (off := 1) (by kernel_rfl) rfl) rfl ?_
  refine wb_q 3 rfl (by kernel_rfl) (fun _ _ _ h => h) (Ent.refl _) (q_loadC rfl (by kernel_rfl) (by ((repeat constructor); first | done | fail)) (by rfl)) rfl ?_
  refine wb_q 4 rfl (by kernel_rfl) (fun _ _ _ h => h) (Ent.refl _) (q_fieldAddr (off := 0) (by kernel_rfl) rfl) rfl ?_
  refine wb_q 5 rfl (by kernel_rfl) (fun _ _ _ h => h) (Ent.refl _) (q_loadC rfl (by kernel_rfl) (by ((repeat constructor); first | done | fail)) (by rfl)) rfl ?_
  refine wb_q 6 rfl (by kernel_rfl) (fun _ _ _ h => h) (Ent.refl _) (q_move rfl) rfl ?_
  refine wb_one 7 (by kernel_rfl) rfl (lev_mapUpdateI (kt := 3) (et := 3) (by kernel_rfl) (by kernel_rfl) rfl rfl rfl rfl (by ((repeat constructor); first | done | fail)) ?_)
  refine ⟨needs_no (by kernel_rfl), ?_⟩
  refine wb_done (by kernel_rfl) ?_
  refine wq_end rfl RVs.nil (fun w_ hs_ => ?_)
  refine ⟨rfl, ?_⟩
  show sats _ _ _
  rw [show hpc ⟨s.A, s.c, s.xs.set i x⟩ m = hpc s m from hpc_eq (l := s.xs) (by simp)]
  simp only [Int.toNat_natCast] at hs_
  exact Split.use (by repeat (first | exact Split.nil | (apply Split.keep; · ((repeat constructor); first | done | fail)) | (apply Split.take; · ((repeat constructor); first | done | fail)) | apply Split.drop)) hs_

set_option maxHeartbeats 400000 in
theorem S_heap_up (hb m : Nat) (s : Sl GThing) (kv : List (Int × Int)) (i : Nat) (x : GThing) (hi : i < s.xs.length) (hx : okT x) : Fn Try.prog 167 [.pointer (some ⟨hb, 0, none⟩), .int .i64 (i : Int), .agg (encThing x).toArray] [cb hb (hpc s m) 223, Own TThing 225 s, mpI m kv] (fun v_ S_ => v_ = .int .i64 ((upF s.xs kv i x).2.2 : Int) ∧ S_ [cb hb (hpc ⟨s.A, s.c, (upF s.xs kv i x).1⟩ m) 223, Own TThing 225 ⟨s.A, s.c, (upF s.xs kv i x).1⟩, mpI m (upF s.xs kv i x).2.1]) := by
  refine fn_intro (m := 40) (gs := [(0, .pointer (some ⟨hb, 0, none⟩)), (1, .int .i64 (i : Int)), (2, .agg (encThing x).toArray)]) Try.func167 rfl rfl rfl rfl (fun t v h => gs_ok (by repeat (first | exact GsOk.nil | refine GsOk.cons (by rfl) ?_)) t v h) (fun F => cb hb (hpc s m) 223 :: Own TThing 225 s :: mpI m kv :: F) (fun _ => rfl) (fun E F => ?_)
  refine wc_seq ?_
  refine wc_region ?_
  refine wl_l (lev_box _ rfl rfl rfl fun b1 => ?_)
  refine wl_q (q_assign rfl) rfl ?_
  refine wl_nil ?_
  refine wq_then ?_
  refine wc_jumpsE 0 rfl (γ := (List GThing) × (List (Int × Int)) × (Nat)) (fun g_ => (g_.2.2 < g_.1.length) ∧ (upF g_.1 g_.2.1 g_.2.2 x = upF s.xs kv i x)) (fun g_ => [(0, .pointer (some ⟨hb, 0, none⟩)), (1, .int .i64 (g_.2.2 : Int)), (5, .pointer (some ⟨b1, 0, none⟩))]) (fun g_ => cb b1 (encThing x) 225 :: cb hb (hpc ⟨s.A, s.c, g_.1⟩ m) 223 :: Own TThing 225 ⟨s.A, s.c, g_.1⟩ :: mpI m g_.2.1 :: F) (fun g_ => g_.2.2) (fun hround => ?_) ?_
  · skip
    refine wc_seq ?_
    refine wc_label ?_
    refine wq_then ?_
    exact wc_enter hround ((s.xs, kv, i)) (⟨(show (i : Nat) < (s.xs : List GThing).length from hi), (show upF (s.xs : List GThing) (kv : List (Int × Int)) (i : Nat) x = upF s.xs kv i x from rfl)⟩) (by repeat (first | exact Sub.nil | refine Sub.cons (by rfl) ?_)) (Ent.of_split (by repeat (first | exact Split.all | exact Split.nil | (apply Split.keep; · ((repeat constructor); first | done | fail)) | (apply Split.take; · ((repeat constructor); first | done | fail)) | apply Split.drop)))
  · rintro ⟨l1, kv1, i1⟩ ⟨hl1, hl2⟩
    replace hl1 : i1 < l1.length := hl1
    replace hl2 : upF l1 kv1 i1 x = upF s.xs kv i x := hl2
    refine wc_ent (gs := [(0, .pointer (some ⟨hb, 0, none⟩)), (1, .int .i64 (i1 : Int)), (5, .pointer (some ⟨b1, 0, none⟩))]) (by repeat (first | exact Sub.nil | refine Sub.cons (by rfl) ?_)) (L' := cb b1 (encThing x) 225 :: cb hb (hpc ⟨s.A, s.c, l1⟩ m) 223 :: Own TThing 225 ⟨s.A, s.c, l1⟩ :: mpI m kv1 :: F) (Ent.refl _) ?_
    refine wc_ownF (s := ⟨s.A, s.c, l1⟩) (by ((repeat constructor); first | done | fail)) fun hcap hbig hok => ?_
    have hbig2 := big_is
    obtain ⟨M_, hok⟩ := hok
    simp only at hcap hbig hok
    have hx1 : l1[(((i1 - 1) / 2 : Nat) : Int).toNat]? = some (gt l1 ((i1 - 1) / 2)) := by rw [Int.toNat_natCast]; exact gt_get (by omega)
    have hx2 : okT (gt l1 ((i1 - 1) / 2)) := okT_of (hok _ (List.mem_of_getElem? hx1))
    refine wc_seq ?_
    refine wc_region ?_
    refine wl_q (q_move rfl) rfl ?_
    refine wl_q (q_sub rfl rfl ⟨by omega, by omega⟩) rfl ?_
    refine wl_q (q_half rfl rfl (by omega)) rfl ?_
    refine wl_q (q_assign rfl) rfl ?_
    refine wl_nil ?_
    refine wq_then ?_
    refine wc_seq ?_
    refine wc_seq ?_
    refine wc_quiet (by kernel_rfl) (by kernel_rfl) ?_
    refine wlq_q (q_move rfl) rfl ?_
    refine wlq_q (q_gtr rfl rfl) rfl ?_
    refine wlq_q (q_move rfl) rfl ?_
    refine wlq_split 13 _ rfl (fun hb13 => ?_) (fun hb13 => ?_)
    · have hb13_ := hb13; try simp only [decide_eq_true_eq, decide_eq_false_iff_not, Bool.not_eq_true', Bool.not_eq_false', Decidable.not_not, Int.not_lt, Int.not_le, Bool.and_eq_true, Bool.or_eq_true] at hb13_
      refine wlq_g 13 rfl (lk_bool rfl hb13) (q_loadCA rfl (by ((repeat constructor); first | done | fail)) (by kernel_rfl)) rfl ?_
      refine wlq_g 13 rfl (lk_bool rfl hb13) (q_move rfl) rfl ?_
      refine wlq_g 13 rfl (lk_bool rfl hb13) (by first | exact q_nilCheck rfl | exact q_nilCheckF rfl) rfl ?_
      refine wlq_g 13 rfl (lk_bool rfl hb13) (q_fieldAddr (off := 0) (by kernel_rfl) rfl) rfl ?_
      refine wlq_g 13 rfl (lk_bool rfl hb13) (q_loadC rfl (by kernel_rfl) (by ((repeat constructor); first | done | fail)) (by rfl)) rfl ?_
      refine wlq_g 13 rfl (lk_bool rfl hb13) (q_move rfl) rfl ?_
      refine wlq_g 13 rfl (lk_bool rfl hb13) (by first | exact q_indexR (e := 225) (by kernel_rfl) (by kernel_rfl) rfl rfl (by ((repeat constructor); first | done | fail)) (by first | omega | (dsimp only; omega) | (simp only [Int.toNat_natCast, List.length_set, List.length_append, List.length_cons, List.length_nil] at *; omega)) (by first | omega | (dsimp only; omega) | (simp only [Int.toNat_natCast, List.length_set, List.length_append, List.length_cons, List.length_nil] at *; omega)) | exact q_indexO (e := 225) (by kernel_rfl) (by kernel_rfl) rfl rfl (by ((repeat constructor); first | done | fail)) (by first | omega | (dsimp only; omega) | (simp only [Int.toNat_natCast, List.length_set, List.length_append, List.length_cons, List.length_nil] at *; omega)) (by first | omega | (dsimp only; omega) | (simp only [Int.toNat_natCast, List.length_set, List.length_append, List.length_cons, List.length_nil] at *; omega))) rfl ?_
      refine wlq_g 13 rfl (lk_bool rfl hb13) (by first | exact q_elemRA rfl (by kernel_rfl) (by ((repeat constructor); first | done | fail)) (by assumption) | exact q_elemOA rfl (by kernel_rfl) (by ((repeat constructor); first | done | fail)) (by assumption)) rfl ?_
      refine wlq_callG 13 rfl (lk_bool rfl hb13) (S_heap_ahead _ _) rfl rfl (by repeat (first | exact Split.nil | (apply Split.keep; · ((repeat constructor); first | done | fail)) | (apply Split.take; · ((repeat constructor); first | done | fail)) | apply Split.drop)) (Ent.of_split (by repeat (first | exact Split.all | exact Split.nil | (apply Split.keep; · ((repeat constructor); first | done | fail)) | (apply Split.take; · ((repeat constructor); first | done | fail)) | apply Split.drop))) ?_
      refine wlq_q (q_pickT rfl hb13 rfl) rfl ?_
      refine wlq_nil ?_
      refine wq_then ?_
      refine wc_cond _ rfl (fun hc23 => ?_) (fun hc23 => ?_)
      · have hc23_ := hc23; try simp only [decide_eq_true_eq, decide_eq_false_iff_not, Bool.not_eq_true', Bool.not_eq_false', Decidable.not_not, Int.not_lt, Int.not_le, Bool.and_eq_true, Bool.or_eq_true] at hc23_
        refine wc_seq ?_
        refine wc_region ?_
        refine wl_q (q_move rfl) rfl ?_
        refine wl_q (q_move rfl) rfl ?_
        refine wl_q (q_move rfl) rfl ?_
        refine wl_q (by first | exact q_nilCheck rfl | exact q_nilCheckF rfl) rfl ?_
        refine wl_q (q_fieldAddr (off := 0) (by kernel_rfl) rfl) rfl ?_
        refine wl_q (q_loadC rfl (by kernel_rfl) (by ((repeat constructor); first | done | fail)) (by rfl)) rfl ?_
        refine wl_q (q_move rfl) rfl ?_
        refine wl_q (by first | exact q_indexR (e := 225) (by kernel_rfl) (by kernel_rfl) rfl rfl (by ((repeat constructor); first | done | fail)) (by first | omega | (dsimp only; omega) | (simp only [Int.toNat_natCast, List.length_set, List.length_append, List.length_cons, List.length_nil] at *; omega)) (by first | omega | (dsimp only; omega) | (simp only [Int.toNat_natCast, List.length_set, List.length_append, List.length_cons, List.length_nil] at *; omega)) | exact q_indexO (e := 225) (by kernel_rfl) (by kernel_rfl) rfl rfl (by ((repeat constructor); first | done | fail)) (by first | omega | (dsimp only; omega) | (simp only [Int.toNat_natCast, List.length_set, List.length_append, List.length_cons, List.length_nil] at *; omega)) (by first | omega | (dsimp only; omega) | (simp only [Int.toNat_natCast, List.length_set, List.length_append, List.length_cons, List.length_nil] at *; omega))) rfl ?_
        refine wl_q (by first | exact q_elemRA rfl (by kernel_rfl) (by ((repeat constructor); first | done | fail)) (by assumption) | exact q_elemOA rfl (by kernel_rfl) (by ((repeat constructor); first | done | fail)) (by assumption)) rfl ?_
        refine wl_l (lev_callF (S_heap_set hb m ⟨s.A, s.c, l1⟩ kv1 i1 (gt l1 ((i1 - 1) / 2)) hl1 hx2) rfl rfl (by repeat (first | exact Split.nil | (apply Split.keep; · ((repeat constructor); first | done | fail)) | (apply Split.take; · ((repeat constructor); first | done | fail)) | apply Split.drop)) ?_)
        rintro v_ w_ ⟨rfl, hs21⟩
        (try simp only [List.cons_append, List.nil_append] at hs21)
        refine ⟨_, hs21, ?_⟩
        refine wl_nil ?_
        refine wq_then ?_
        refine wc_seq ?_
        refine wc_region ?_
        refine wl_q (q_move rfl) rfl ?_
        refine wl_q (q_assign rfl) rfl ?_
        refine wl_nil ?_
        refine wq_then ?_
        refine wc_goto ?_
        refine wq_then_goto ?_
        exact wq_jump_goto ((l1.set i1 (gt l1 ((i1 - 1) / 2)), aset kv1 (gt l1 ((i1 - 1) / 2)).id i1, (i1 - 1) / 2)) (⟨⟨(show ((i1 - 1) / 2 : Nat) < (l1.set i1 (gt l1 ((i1 - 1) / 2)) : List GThing).length from (by simp; omega)), (show upF (l1.set i1 (gt l1 ((i1 - 1) / 2)) : List GThing) (aset kv1 (gt l1 ((i1 - 1) / 2)).id i1 : List (Int × Int)) ((i1 - 1) / 2 : Nat) x = upF s.xs kv i x from (by rw [← hl2]; conv => rhs; rw [upF, dif_pos ⟨by omega, hc23⟩]))⟩, (show ((i1 - 1) / 2 : Nat) < i1 from (by omega))⟩) (by repeat (first | exact Sub.nil | refine Sub.cons (by rfl) ?_)) (Ent.of_split (by repeat (first | exact Split.all | exact Split.nil | (apply Split.keep; · ((repeat constructor); first | done | fail)) | (apply Split.take; · ((repeat constructor); first | done | fail)) | apply Split.drop)))
      · have hc23_ := hc23; try simp only [decide_eq_true_eq, decide_eq_false_iff_not, Bool.not_eq_true', Bool.not_eq_false', Decidable.not_not, Int.not_lt, Int.not_le, Bool.and_eq_true, Bool.or_eq_true] at hc23_
        refine wc_skip ?_
        refine wq_then ?_
        refine wc_seq ?_
        refine wc_region ?_
        refine wl_q (q_move rfl) rfl ?_
        refine wl_q (q_move rfl) rfl ?_
        refine wl_q (q_loadCA rfl (by ((repeat constructor); first | done | fail)) (by kernel_rfl)) rfl ?_
        refine wl_l (lev_callF (S_heap_set hb m ⟨s.A, s.c, l1⟩ kv1 i1 x hl1 hx) rfl rfl (by repeat (first | exact Split.nil | (apply Split.keep; · ((repeat constructor); first | done | fail)) | (apply Split.take; · ((repeat constructor); first | done | fail)) | apply Split.drop)) ?_)
        rintro v_ w_ ⟨rfl, hs24⟩
        (try simp only [List.cons_append, List.nil_append] at hs24)
        refine ⟨_, hs24, ?_⟩
        refine wl_nil ?_
        refine wq_then ?_
        refine wc_seq ?_
        refine wc_region ?_
        refine wl_q (q_move rfl) rfl ?_
        refine wl_q (q_assign rfl) rfl ?_
        refine wl_nil ?_
        refine wq_then ?_
        refine wc_ret ?_
        refine wq_jump_ret ?_
        refine wq_ret rfl (RVs.tmp rfl RVs.nil) (fun w_ hs_ => ?_)
        have e1 : upF s.xs kv i x = (l1.set i1 x, aset kv1 x.id i1, i1) := by rw [← hl2, upF, dif_neg (fun h => by rw [h.2] at hc23; cases hc23)]
        rw [e1]
        exact ⟨rfl, Split.use (by repeat (first | exact Split.nil | (apply Split.keep; · ((repeat constructor); first | done | fail)) | (apply Split.take; · ((repeat constructor); first | done | fail)) | apply Split.drop)) hs_⟩
    · have hb13_ := hb13; try simp only [decide_eq_true_eq, decide_eq_false_iff_not, Bool.not_eq_true', Bool.not_eq_false', Decidable.not_not, Int.not_lt, Int.not_le, Bool.and_eq_true, Bool.or_eq_true] at hb13_
      refine wlq_skip 13 rfl (lk_bool rfl hb13) (by intro h; cases h) rfl ?_
      refine wlq_skip 13 rfl (lk_bool rfl hb13) (by intro h; cases h) rfl ?_
      refine wlq_skip 13 rfl (lk_bool rfl hb13) (by intro h; cases h) rfl ?_
      refine wlq_skip 13 rfl (lk_bool rfl hb13) (by intro h; cases h) rfl ?_
      refine wlq_skip 13 rfl (lk_bool rfl hb13) (by intro h; cases h) rfl ?_
      refine wlq_skip 13 rfl (lk_bool rfl hb13) (by intro h; cases h) rfl ?_
      refine wlq_skip 13 rfl (lk_bool rfl hb13) (by intro h; cases h) rfl ?_
      refine wlq_skip 13 rfl (lk_bool rfl hb13) (by intro h; cases h) rfl ?_
      refine wlq_skip 13 rfl (lk_bool rfl hb13) (by intro h; cases h) rfl ?_
      refine wlq_q (q_pickF rfl hb13 rfl) rfl ?_
      refine wlq_nil ?_
      refine wq_then ?_
      refine wc_condF _ rfl rfl ?_
      refine wc_skip ?_
      refine wq_then ?_
      refine wc_seq ?_
      refine wc_region ?_
      refine wl_q (q_move rfl) rfl ?_
      refine wl_q (q_move rfl) rfl ?_
      refine wl_q (q_loadCA rfl (by ((repeat constructor); first | done | fail)) (by kernel_rfl)) rfl ?_
      refine wl_l (lev_callF (S_heap_set hb m ⟨s.A, s.c, l1⟩ kv1 i1 x hl1 hx) rfl rfl (by repeat (first | exact Split.nil | (apply Split.keep; · ((repeat constructor); first | done | fail)) | (apply Split.take; · ((repeat constructor); first | done | fail)) | apply Split.drop)) ?_)
      rintro v_ w_ ⟨rfl, hs28⟩
      (try simp only [List.cons_append, List.nil_append] at hs28)
      refine ⟨_, hs28, ?_⟩
      refine wl_nil ?_
      refine wq_then ?_
      refine wc_seq ?_
      refine wc_region ?_
      refine wl_q (q_move rfl) rfl ?_
      refine wl_q (q_assign rfl) rfl ?_
      refine wl_nil ?_
      refine wq_then ?_
      refine wc_ret ?_
      refine wq_jump_ret ?_
      refine wq_ret rfl (RVs.tmp rfl RVs.nil) (fun w_ hs_ => ?_)
      have e1 : upF s.xs kv i x = (l1.set i1 x, aset kv1 x.id i1, i1) := by rw [← hl2, upF, dif_neg (fun h => by omega)]
      rw [e1]
      exact ⟨rfl, Split.use (by repeat (first | exact Split.nil | (apply Split.keep; · ((repeat constructor); first | done | fail)) | (apply Split.take; · ((repeat constructor); first | done | fail)) | apply Split.drop)) hs_⟩

set_option maxHeartbeats 400000 in
theorem S_heap_down (hb m : Nat) (s : Sl GThing) (kv : List (Int × Int)) (i : Nat) (x : GThing) (hi : i < s.xs.length) (hx : okT x) : Fn Try.prog 168 [.pointer (some ⟨hb, 0, none⟩), .int .i64 (i : Int), .agg (encThing x).toArray] [cb hb (hpc s m) 223, Own TThing 225 s, mpI m kv] (fun v_ S_ => v_ = .tuple #[] ∧ S_ [cb hb (hpc ⟨s.A, s.c, (downF s.xs kv i x).1⟩ m) 223, Own TThing 225 ⟨s.A, s.c, (downF s.xs kv i x).1⟩, mpI m (downF s.xs kv i x).2]) := by
  refine fn_intro (m := 71) (gs := [(0, .pointer (some ⟨hb, 0, none⟩)), (1, .int .i64 (i : Int)), (2, .agg (encThing x).toArray)]) Try.func168 rfl rfl rfl rfl (fun t v h => gs_ok (by repeat (first | exact GsOk.nil | refine GsOk.cons (by rfl) ?_)) t v h) (fun F => cb hb (hpc s m) 223 :: Own TThing 225 s :: mpI m kv :: F) (fun _ => rfl) (fun E F => ?_)
  refine wc_seq ?_
  refine wc_region ?_
  refine wl_l (lev_box _ rfl rfl rfl fun b1 => ?_)
  refine wl_nil ?_
  refine wq_then ?_
  refine wc_jumpsE 0 rfl (γ := (List GThing) × (List (Int × Int)) × (Nat)) (fun g_ => (g_.2.2 < g_.1.length) ∧ (downF g_.1 g_.2.1 g_.2.2 x = downF s.xs kv i x)) (fun g_ => [(0, .pointer (some ⟨hb, 0, none⟩)), (1, .int .i64 (g_.2.2 : Int)), (5, .pointer (some ⟨b1, 0, none⟩))]) (fun g_ => cb b1 (encThing x) 225 :: cb hb (hpc ⟨s.A, s.c, g_.1⟩ m) 223 :: Own TThing 225 ⟨s.A, s.c, g_.1⟩ :: mpI m g_.2.1 :: F) (fun g_ => g_.1.length - g_.2.2) (fun hround => ?_) ?_
  · skip
    refine wc_seq ?_
    refine wc_label ?_
    refine wq_then ?_
    exact wc_enter hround ((s.xs, kv, i)) (⟨(show (i : Nat) < (s.xs : List GThing).length from hi), (show downF (s.xs : List GThing) (kv : List (Int × Int)) (i : Nat) x = downF s.xs kv i x from rfl)⟩) (by repeat (first | exact Sub.nil | refine Sub.cons (by rfl) ?_)) (Ent.of_split (by repeat (first | exact Split.all | exact Split.nil | (apply Split.keep; · ((repeat constructor); first | done | fail)) | (apply Split.take; · ((repeat constructor); first | done | fail)) | apply Split.drop)))
  · rintro ⟨l1, kv1, i1⟩ ⟨hl1, hl2⟩
    replace hl1 : i1 < l1.length := hl1
    replace hl2 : downF l1 kv1 i1 x = downF s.xs kv i x := hl2
    refine wc_ent (gs := [(0, .pointer (some ⟨hb, 0, none⟩)), (1, .int .i64 (i1 : Int)), (5, .pointer (some ⟨b1, 0, none⟩))]) (by repeat (first | exact Sub.nil | refine Sub.cons (by rfl) ?_)) (L' := cb b1 (encThing x) 225 :: cb hb (hpc ⟨s.A, s.c, l1⟩ m) 223 :: Own TThing 225 ⟨s.A, s.c, l1⟩ :: mpI m kv1 :: F) (Ent.refl _) ?_
    refine wc_ownF (s := ⟨s.A, s.c, l1⟩) (by ((repeat constructor); first | done | fail)) fun hcap hbig hok => ?_
    have hbig2 := big_is
    obtain ⟨M_, hok⟩ := hok
    simp only at hcap hbig hok
    have hlg := lesser_gt l1 i1
    refine wc_seq ?_
    refine wc_region ?_
    refine wl_q (q_move rfl) rfl ?_
    refine wl_q (q_mul rfl rfl ⟨by omega, by omega⟩) rfl ?_
    refine wl_q (q_add rfl rfl ⟨by omega, by omega⟩) rfl ?_
    refine wl_q (q_assign rfl) rfl ?_
    refine wl_nil ?_
    refine wq_then ?_
    refine wc_cut (γ := (Int)) (fun g_ => (g_ = (lesser l1 i1 : Int))) (fun g_ => [(0, .pointer (some ⟨hb, 0, none⟩)), (1, .int .i64 (i1 : Int)), (5, .pointer (some ⟨b1, 0, none⟩)), (6, .int .i64 g_)]) (fun g_ => cb b1 (encThing x) 225 :: cb hb (hpc ⟨s.A, s.c, l1⟩ m) 223 :: Own TThing 225 ⟨s.A, s.c, l1⟩ :: mpI m kv1 :: F) ?_ ?_
    ·
      refine wc_seq ?_
      refine wc_quiet (by kernel_rfl) (by kernel_rfl) ?_
      refine wlq_q (q_move rfl) rfl ?_
      refine wlq_q (q_add rfl rfl ⟨by omega, by omega⟩) rfl ?_
      refine wlq_q (q_move rfl) rfl ?_
      refine wlq_q (by first | exact q_nilCheck rfl | exact q_nilCheckF rfl) rfl ?_
      refine wlq_q (q_fieldAddr (off := 0) (by kernel_rfl) rfl) rfl ?_
      refine wlq_q (q_loadC rfl (by kernel_rfl) (by ((repeat constructor); first | done | fail)) (by rfl)) rfl ?_
      refine wlq_q (q_len (e := 225) (by kernel_rfl) rfl) rfl ?_
      refine wlq_q (q_lss rfl rfl) rfl ?_
      refine wlq_q (q_move rfl) rfl ?_
      refine wlq_split 18 _ rfl (fun hb18 => ?_) (fun hb18 => ?_)
      · have hb18_ := hb18; try simp only [decide_eq_true_eq, decide_eq_false_iff_not, Bool.not_eq_true', Bool.not_eq_false', Decidable.not_not, Int.not_lt, Int.not_le, Bool.and_eq_true, Bool.or_eq_true] at hb18_
        have hx1 : l1[(2 * (i1 : Int) + 1 + 1).toNat]? = some (gt l1 (2 * i1 + 2)) := by rw [show (2 * (i1 : Int) + 1 + 1).toNat = 2 * i1 + 2 by (first | omega | (dsimp only; omega) | (simp only [Int.toNat_natCast, List.length_set, List.length_append, List.length_cons, List.length_nil] at *; omega))]; exact gt_get (by omega)
        have hx2 : l1[(2 * (i1 : Int) + 1).toNat]? = some (gt l1 (2 * i1 + 1)) := by rw [show (2 * (i1 : Int) + 1).toNat = 2 * i1 + 1 by (first | omega | (dsimp only; omega) | (simp only [Int.toNat_natCast, List.length_set, List.length_append, List.length_cons, List.length_nil] at *; omega))]; exact gt_get (by omega)
        refine wlq_g 18 rfl (lk_bool rfl hb18) (q_move rfl) rfl ?_
        refine wlq_g 18 rfl (lk_bool rfl hb18) (by first | exact q_nilCheck rfl | exact q_nilCheckF rfl) rfl ?_
        refine wlq_g 18 rfl (lk_bool rfl hb18) (q_fieldAddr (off := 0) (by kernel_rfl) rfl) rfl ?_
        refine wlq_g 18 rfl (lk_bool rfl hb18) (q_loadC rfl (by kernel_rfl) (by ((repeat constructor); first | done | fail)) (by rfl)) rfl ?_
        refine wlq_g 18 rfl (lk_bool rfl hb18) (q_move rfl) rfl ?_
        refine wlq_g 18 rfl (lk_bool rfl hb18) (q_add rfl rfl ⟨by omega, by omega⟩) rfl ?_
        refine wlq_g 18 rfl (lk_bool rfl hb18) (by first | exact q_indexR (e := 225) (by kernel_rfl) (by kernel_rfl) rfl rfl (by ((repeat constructor); first | done | fail)) (by first | omega | (dsimp only; omega) | (simp only [Int.toNat_natCast, List.length_set, List.length_append, List.length_cons, List.length_nil] at *; omega)) (by first | omega | (dsimp only; omega) | (simp only [Int.toNat_natCast, List.length_set, List.length_append, List.length_cons, List.length_nil] at *; omega)) | exact q_indexO (e := 225) (by kernel_rfl) (by kernel_rfl) rfl rfl (by ((repeat constructor); first | done | fail)) (by first | omega | (dsimp only; omega) | (simp only [Int.toNat_natCast, List.length_set, List.length_append, List.length_cons, List.length_nil] at *; omega)) (by first | omega | (dsimp only; omega) | (simp only [Int.toNat_natCast, List.length_set, List.length_append, List.length_cons, List.length_nil] at *; omega))) rfl ?_
        refine wlq_g 18 rfl (lk_bool rfl hb18) (by first | exact q_elemRA rfl (by kernel_rfl) (by ((repeat constructor); first | done | fail)) (by assumption) | exact q_elemOA rfl (by kernel_rfl) (by ((repeat constructor); first | done | fail)) (by assumption)) rfl ?_
        refine wlq_g 18 rfl (lk_bool rfl hb18) (q_move rfl) rfl ?_
        refine wlq_g 18 rfl (lk_bool rfl hb18) (by first | exact q_nilCheck rfl | exact q_nilCheckF rfl) rfl ?_
        refine wlq_g 18 rfl (lk_bool rfl hb18) (q_fieldAddr (off := 0) (by kernel_rfl) rfl) rfl ?_
        refine wlq_g 18 rfl (lk_bool rfl hb18) (q_loadC rfl (by kernel_rfl) (by ((repeat constructor); first | done | fail)) (by rfl)) rfl ?_
        refine wlq_g 18 rfl (lk_bool rfl hb18) (q_move rfl) rfl ?_
        refine wlq_g 18 rfl (lk_bool rfl hb18) (by first | exact q_indexR (e := 225) (by kernel_rfl) (by kernel_rfl) rfl rfl (by ((repeat constructor); first | done | fail)) (by first | omega | (dsimp only; omega) | (simp only [Int.toNat_natCast, List.length_set, List.length_append, List.length_cons, List.length_nil] at *; omega)) (by first | omega | (dsimp only; omega) | (simp only [Int.toNat_natCast, List.length_set, List.length_append, List.length_cons, List.length_nil] at *; omega)) | exact q_indexO (e := 225) (by kernel_rfl) (by kernel_rfl) rfl rfl (by ((repeat constructor); first | done | fail)) (by first | omega | (dsimp only; omega) | (simp only [Int.toNat_natCast, List.length_set, List.length_append, List.length_cons, List.length_nil] at *; omega)) (by first | omega | (dsimp only; omega) | (simp only [Int.toNat_natCast, List.length_set, List.length_append, List.length_cons, List.length_nil] at *; omega))) rfl ?_
        refine wlq_g 18 rfl (lk_bool rfl hb18) (by first | exact q_elemRA rfl (by kernel_rfl) (by ((repeat constructor); first | done | fail)) (by assumption) | exact q_elemOA rfl (by kernel_rfl) (by ((repeat constructor); first | done | fail)) (by assumption)) rfl ?_
        refine wlq_callG 18 rfl (lk_bool rfl hb18) (S_heap_ahead _ _) rfl rfl (by repeat (first | exact Split.nil | (apply Split.keep; · ((repeat constructor); first | done | fail)) | (apply Split.take; · ((repeat constructor); first | done | fail)) | apply Split.drop)) (Ent.of_split (by repeat (first | exact Split.all | exact Split.nil | (apply Split.keep; · ((repeat constructor); first | done | fail)) | (apply Split.take; · ((repeat constructor); first | done | fail)) | apply Split.drop))) ?_
        refine wlq_q (q_pickT rfl hb18 rfl) rfl ?_
        refine wlq_nil ?_
        refine wq_then ?_
        refine wc_cond _ rfl (fun hc35 => ?_) (fun hc35 => ?_)
        · have hc35_ := hc35; try simp only [decide_eq_true_eq, decide_eq_false_iff_not, Bool.not_eq_true', Bool.not_eq_false', Decidable.not_not, Int.not_lt, Int.not_le, Bool.and_eq_true, Bool.or_eq_true] at hc35_
          refine wc_region ?_
          refine wl_q (q_move rfl) rfl ?_
          refine wl_q (q_add rfl rfl ⟨by omega, by omega⟩) rfl ?_
          refine wl_q (q_assign rfl) rfl ?_
          refine wl_nil ?_
          exact wq_meet (2 * (i1 : Int) + 1 + 1) ((show (2 * (i1 : Int) + 1 + 1 : Int) = (lesser l1 i1 : Int) from (by unfold lesser; rw [if_pos ⟨by omega, hc35⟩] <;> omega))) (by repeat (first | exact Sub.nil | refine Sub.cons (by rfl) ?_)) (Ent.of_split (by repeat (first | exact Split.all | exact Split.nil | (apply Split.keep; · ((repeat constructor); first | done | fail)) | (apply Split.take; · ((repeat constructor); first | done | fail)) | apply Split.drop)))
        · have hc35_ := hc35; try simp only [decide_eq_true_eq, decide_eq_false_iff_not, Bool.not_eq_true', Bool.not_eq_false', Decidable.not_not, Int.not_lt, Int.not_le, Bool.and_eq_true, Bool.or_eq_true] at hc35_
          refine wc_skip ?_
          exact wq_meet (2 * (i1 : Int) + 1) ((show (2 * (i1 : Int) + 1 : Int) = (lesser l1 i1 : Int) from (by unfold lesser; rw [if_neg (fun h => by rw [h.2] at hc35; cases hc35)] <;> omega))) (by repeat (first | exact Sub.nil | refine Sub.cons (by rfl) ?_)) (Ent.of_split (by repeat (first | exact Split.all | exact Split.nil | (apply Split.keep; · ((repeat constructor); first | done | fail)) | (apply Split.take; · ((repeat constructor); first | done | fail)) | apply Split.drop)))
      · have hb18_ := hb18; try simp only [decide_eq_true_eq, decide_eq_false_iff_not, Bool.not_eq_true', Bool.not_eq_false', Decidable.not_not, Int.not_lt, Int.not_le, Bool.and_eq_true, Bool.or_eq_true] at hb18_
        refine wlq_skip 18 rfl (lk_bool rfl hb18) (by intro h; cases h) rfl ?_
        refine wlq_skip 18 rfl (lk_bool rfl hb18) (by intro h; cases h) rfl ?_
        refine wlq_skip 18 rfl (lk_bool rfl hb18) (by intro h; cases h) rfl ?_
        refine wlq_skip 18 rfl (lk_bool rfl hb18) (by intro h; cases h) rfl ?_
        refine wlq_skip 18 rfl (lk_bool rfl hb18) (by intro h; cases h) rfl ?_
        refine wlq_skip 18 rfl (lk_bool rfl hb18) (by intro h; cases h) rfl ?_
        refine wlq_skip 18 rfl (lk_bool rfl hb18) (by intro h; cases h) rfl ?_
        refine wlq_skip 18 rfl (lk_bool rfl hb18) (by intro h; cases h) rfl ?_
        refine wlq_skip 18 rfl (lk_bool rfl hb18) (by intro h; cases h) rfl ?_
        refine wlq_skip 18 rfl (lk_bool rfl hb18) (by intro h; cases h) rfl ?_
        refine wlq_skip 18 rfl (lk_bool rfl hb18) (by intro h; cases h) rfl ?_
        refine wlq_skip 18 rfl (lk_bool rfl hb18) (by intro h; cases h) rfl ?_
        refine wlq_skip 18 rfl (lk_bool rfl hb18) (by intro h; cases h) rfl ?_
        refine wlq_skip 18 rfl (lk_bool rfl hb18) (by intro h; cases h) rfl ?_
        refine wlq_skip 18 rfl (lk_bool rfl hb18) (by intro h; cases h) rfl ?_
        refine wlq_skip 18 rfl (lk_bool rfl hb18) (by intro h; cases h) rfl ?_
        refine wlq_q (q_pickF rfl hb18 rfl) rfl ?_
        refine wlq_nil ?_
        refine wq_then ?_
        refine wc_condF _ rfl rfl ?_
        refine wc_skip ?_
        exact wq_meet (2 * (i1 : Int) + 1) ((show (2 * (i1 : Int) + 1 : Int) = (lesser l1 i1 : Int) from (by unfold lesser; rw [if_neg (fun h => by omega)] <;> omega))) (by repeat (first | exact Sub.nil | refine Sub.cons (by rfl) ?_)) (Ent.of_split (by repeat (first | exact Split.all | exact Split.nil | (apply Split.keep; · ((repeat constructor); first | done | fail)) | (apply Split.take; · ((repeat constructor); first | done | fail)) | apply Split.drop)))
    · rintro k hk
      replace hk : k = (lesser l1 i1 : Int) := hk
      refine wc_ent (gs := [(0, .pointer (some ⟨hb, 0, none⟩)), (1, .int .i64 (i1 : Int)), (5, .pointer (some ⟨b1, 0, none⟩)), (6, .int .i64 k)]) (by repeat (first | exact Sub.nil | refine Sub.cons (by rfl) ?_)) (L' := cb b1 (encThing x) 225 :: cb hb (hpc ⟨s.A, s.c, l1⟩ m) 223 :: Own TThing 225 ⟨s.A, s.c, l1⟩ :: mpI m kv1 :: F) (Ent.refl _) ?_
      subst hk
      refine wc_seq ?_
      refine wc_seq ?_
      refine wc_quiet (by kernel_rfl) (by kernel_rfl) ?_
      refine wlq_q (q_move rfl) rfl ?_
      refine wlq_q (q_move rfl) rfl ?_
      refine wlq_q (by first | exact q_nilCheck rfl | exact q_nilCheckF rfl) rfl ?_
      refine wlq_q (q_fieldAddr (off := 0) (by kernel_rfl) rfl) rfl ?_
      refine wlq_q (q_loadC rfl (by kernel_rfl) (by ((repeat constructor); first | done | fail)) (by rfl)) rfl ?_
      refine wlq_q (q_len (e := 225) (by kernel_rfl) rfl) rfl ?_
      refine wlq_q (q_lss rfl rfl) rfl ?_
      refine wlq_q (q_move rfl) rfl ?_
      refine wlq_split 45 _ rfl (fun hb45 => ?_) (fun hb45 => ?_)
      · have hb45_ := hb45; try simp only [decide_eq_true_eq, decide_eq_false_iff_not, Bool.not_eq_true', Bool.not_eq_false', Decidable.not_not, Int.not_lt, Int.not_le, Bool.and_eq_true, Bool.or_eq_true] at hb45_
        have hx3 : l1[((lesser l1 i1 : Nat) : Int).toNat]? = some (gt l1 (lesser l1 i1)) := by rw [show ((lesser l1 i1 : Nat) : Int).toNat = lesser l1 i1 by (first | omega | (dsimp only; omega) | (simp only [Int.toNat_natCast, List.length_set, List.length_append, List.length_cons, List.length_nil] at *; omega))]; exact gt_get (by omega)
        have hx4 : okT (gt l1 (lesser l1 i1)) := okT_of (hok _ (List.mem_of_getElem? hx3))
        refine wlq_g 45 rfl (lk_bool rfl hb45) (q_move rfl) rfl ?_
        refine wlq_g 45 rfl (lk_bool rfl hb45) (by first | exact q_nilCheck rfl | exact q_nilCheckF rfl) rfl ?_
        refine wlq_g 45 rfl (lk_bool rfl hb45) (q_fieldAddr (off := 0) (by kernel_rfl) rfl) rfl ?_
        refine wlq_g 45 rfl (lk_bool rfl hb45) (q_loadC rfl (by kernel_rfl) (by ((repeat constructor); first | done | fail)) (by rfl)) rfl ?_
        refine wlq_g 45 rfl (lk_bool rfl hb45) (q_move rfl) rfl ?_
        refine wlq_g 45 rfl (lk_bool rfl hb45) (by first | exact q_indexR (e := 225) (by kernel_rfl) (by kernel_rfl) rfl rfl (by ((repeat constructor); first | done | fail)) (by first | omega | (dsimp only; omega) | (simp only [Int.toNat_natCast, List.length_set, List.length_append, List.length_cons, List.length_nil] at *; omega)) (by first | omega | (dsimp only; omega) | (simp only [Int.toNat_natCast, List.length_set, List.length_append, List.length_cons, List.length_nil] at *; omega)) | exact q_indexO (e := 225) (by kernel_rfl) (by kernel_rfl) rfl rfl (by ((repeat constructor); first | done | fail)) (by first | omega | (dsimp only; omega) | (simp only [Int.toNat_natCast, List.length_set, List.length_append, List.length_cons, List.length_nil] at *; omega)) (by first | omega | (dsimp only; omega) | (simp only [Int.toNat_natCast, List.length_set, List.length_append, List.length_cons, List.length_nil] at *; omega))) rfl ?_
        refine wlq_g 45 rfl (lk_bool rfl hb45) (by first | exact q_elemRA rfl (by kernel_rfl) (by ((repeat constructor); first | done | fail)) (by assumption) | exact q_elemOA rfl (by kernel_rfl) (by ((repeat constructor); first | done | fail)) (by assumption)) rfl ?_
        refine wlq_g 45 rfl (lk_bool rfl hb45) (q_loadCA rfl (by ((repeat constructor); first | done | fail)) (by kernel_rfl)) rfl ?_
        refine wlq_callG 45 rfl (lk_bool rfl hb45) (S_heap_ahead _ _) rfl rfl (by repeat (first | exact Split.nil | (apply Split.keep; · ((repeat constructor); first | done | fail)) | (apply Split.take; · ((repeat constructor); first | done | fail)) | apply Split.drop)) (Ent.of_split (by repeat (first | exact Split.all | exact Split.nil | (apply Split.keep; · ((repeat constructor); first | done | fail)) | (apply Split.take; · ((repeat constructor); first | done | fail)) | apply Split.drop))) ?_
        refine wlq_q (q_pickT rfl hb45 rfl) rfl ?_
        refine wlq_nil ?_
        refine wq_then ?_
        refine wc_cond _ rfl (fun hc55 => ?_) (fun hc55 => ?_)
        · have hc55_ := hc55; try simp only [decide_eq_true_eq, decide_eq_false_iff_not, Bool.not_eq_true', Bool.not_eq_false', Decidable.not_not, Int.not_lt, Int.not_le, Bool.and_eq_true, Bool.or_eq_true] at hc55_
          refine wc_seq ?_
          refine wc_region ?_
          refine wl_q (q_move rfl) rfl ?_
          refine wl_q (q_move rfl) rfl ?_
          refine wl_q (q_move rfl) rfl ?_
          refine wl_q (by first | exact q_nilCheck rfl | exact q_nilCheckF rfl) rfl ?_
          refine wl_q (q_fieldAddr (off := 0) (by kernel_rfl) rfl) rfl ?_
          refine wl_q (q_loadC rfl (by kernel_rfl) (by ((repeat constructor); first | done | fail)) (by rfl)) rfl ?_
          refine wl_q (q_move rfl) rfl ?_
          refine wl_q (by first | exact q_indexR (e := 225) (by kernel_rfl) (by kernel_rfl) rfl rfl (by ((repeat constructor); first | done | fail)) (by first | omega | (dsimp only; omega) | (simp only [Int.toNat_natCast, List.length_set, List.length_append, List.length_cons, List.length_nil] at *; omega)) (by first | omega | (dsimp only; omega) | (simp only [Int.toNat_natCast, List.length_set, List.length_append, List.length_cons, List.length_nil] at *; omega)) | exact q_indexO (e := 225) (by kernel_rfl) (by kernel_rfl) rfl rfl (by ((repeat constructor); first | done | fail)) (by first | omega | (dsimp only; omega) | (simp only [Int.toNat_natCast, List.length_set, List.length_append, List.length_cons, List.length_nil] at *; omega)) (by first | omega | (dsimp only; omega) | (simp only [Int.toNat_natCast, List.length_set, List.length_append, List.length_cons, List.length_nil] at *; omega))) rfl ?_
          refine wl_q (by first | exact q_elemRA rfl (by kernel_rfl) (by ((repeat constructor); first | done | fail)) (by assumption) | exact q_elemOA rfl (by kernel_rfl) (by ((repeat constructor); first | done | fail)) (by assumption)) rfl ?_
          refine wl_l (lev_callF (S_heap_set hb m ⟨s.A, s.c, l1⟩ kv1 i1 (gt l1 (lesser l1 i1)) hl1 hx4) rfl rfl (by repeat (first | exact Split.nil | (apply Split.keep; · ((repeat constructor); first | done | fail)) | (apply Split.take; · ((repeat constructor); first | done | fail)) | apply Split.drop)) ?_)
          rintro v_ w_ ⟨rfl, hs48⟩
          (try simp only [List.cons_append, List.nil_append] at hs48)
          refine ⟨_, hs48, ?_⟩
          refine wl_nil ?_
          refine wq_then ?_
          refine wc_seq ?_
          refine wc_region ?_
          refine wl_q (q_move rfl) rfl ?_
          refine wl_q (q_assign rfl) rfl ?_
          refine wl_nil ?_
          refine wq_then ?_
          refine wc_goto ?_
          refine wq_then_goto ?_
          exact wq_jump_goto ((l1.set i1 (gt l1 (lesser l1 i1)), aset kv1 (gt l1 (lesser l1 i1)).id i1, lesser l1 i1)) (⟨⟨(show (lesser l1 i1 : Nat) < (l1.set i1 (gt l1 (lesser l1 i1)) : List GThing).length from (by simp; omega)), (show downF (l1.set i1 (gt l1 (lesser l1 i1)) : List GThing) (aset kv1 (gt l1 (lesser l1 i1)).id i1 : List (Int × Int)) (lesser l1 i1 : Nat) x = downF s.xs kv i x from (by rw [← hl2]; conv => rhs; rw [downF, dif_pos ⟨by omega, hc55⟩]))⟩, (show (l1.set i1 (gt l1 (lesser l1 i1)) : List GThing).length - (lesser l1 i1 : Nat) < l1.length - i1 from (by simp; omega))⟩) (by repeat (first | exact Sub.nil | refine Sub.cons (by rfl) ?_)) (Ent.of_split (by repeat (first | exact Split.all | exact Split.nil | (apply Split.keep; · ((repeat constructor); first | done | fail)) | (apply Split.take; · ((repeat constructor); first | done | fail)) | apply Split.drop)))
        · have hc55_ := hc55; try simp only [decide_eq_true_eq, decide_eq_false_iff_not, Bool.not_eq_true', Bool.not_eq_false', Decidable.not_not, Int.not_lt, Int.not_le, Bool.and_eq_true, Bool.or_eq_true] at hc55_
          refine wc_skip ?_
          refine wq_then ?_
          refine wc_region ?_
          refine wl_q (q_move rfl) rfl ?_
          refine wl_q (q_move rfl) rfl ?_
          refine wl_q (q_loadCA rfl (by ((repeat constructor); first | done | fail)) (by kernel_rfl)) rfl ?_
          refine wl_l (lev_callF (S_heap_set hb m ⟨s.A, s.c, l1⟩ kv1 i1 x hl1 hx) rfl rfl (by repeat (first | exact Split.nil | (apply Split.keep; · ((repeat constructor); first | done | fail)) | (apply Split.take; · ((repeat constructor); first | done | fail)) | apply Split.drop)) ?_)
          rintro v_ w_ ⟨rfl, hs52⟩
          (try simp only [List.cons_append, List.nil_append] at hs52)
          refine ⟨_, hs52, ?_⟩
          refine wl_nil ?_
          refine wq_jump_normal ?_
          refine wq_end rfl RVs.nil (fun w_ hs_ => ?_)
          have e1 : downF s.xs kv i x = (l1.set i1 x, aset kv1 x.id i1) := by rw [← hl2, downF, dif_neg (fun h => by rw [h.2] at hc55; cases hc55)]
          rw [e1]
          exact ⟨rfl, Split.use (by repeat (first | exact Split.nil | (apply Split.keep; · ((repeat constructor); first | done | fail)) | (apply Split.take; · ((repeat constructor); first | done | fail)) | apply Split.drop)) hs_⟩
      · have hb45_ := hb45; try simp only [decide_eq_true_eq, decide_eq_false_iff_not, Bool.not_eq_true', Bool.not_eq_false', Decidable.not_not, Int.not_lt, Int.not_le, Bool.and_eq_true, Bool.or_eq_true] at hb45_
        refine wlq_skip 45 rfl (lk_bool rfl hb45) (by intro h; cases h) rfl ?_
        refine wlq_skip 45 rfl (lk_bool rfl hb45) (by intro h; cases h) rfl ?_
        refine wlq_skip 45 rfl (lk_bool rfl hb45) (by intro h; cases h) rfl ?_
        refine wlq_skip 45 rfl (lk_bool rfl hb45) (by intro h; cases h) rfl ?_
        refine wlq_skip 45 rfl (lk_bool rfl hb45) (by intro h; cases h) rfl ?_
        refine wlq_skip 45 rfl (lk_bool rfl hb45) (by intro h; cases h) rfl ?_
        refine wlq_skip 45 rfl (lk_bool rfl hb45) (by intro h; cases h) rfl ?_
        refine wlq_skip 45 rfl (lk_bool rfl hb45) (by intro h; cases h) rfl ?_
        refine wlq_skip 45 rfl (lk_bool rfl hb45) (by intro h; cases h) rfl ?_
        refine wlq_q (q_pickF rfl hb45 rfl) rfl ?_
        refine wlq_nil ?_
        refine wq_then ?_
        refine wc_condF _ rfl rfl ?_
        refine wc_skip ?_
        refine wq_then ?_
        refine wc_region ?_
        refine wl_q (q_move rfl) rfl ?_
        refine wl_q (q_move rfl) rfl ?_
        refine wl_q (q_loadCA rfl (by ((repeat constructor); first | done | fail)) (by kernel_rfl)) rfl ?_
        refine wl_l (lev_callF (S_heap_set hb m ⟨s.A, s.c, l1⟩ kv1 i1 x hl1 hx) rfl rfl (by repeat (first | exact Split.nil | (apply Split.keep; · ((repeat constructor); first | done | fail)) | (apply Split.take; · ((repeat constructor); first | done | fail)) | apply Split.drop)) ?_)
        rintro v_ w_ ⟨rfl, hs56⟩
        (try simp only [List.cons_append, List.nil_append] at hs56)
        refine ⟨_, hs56, ?_⟩
        refine wl_nil ?_
        refine wq_jump_normal ?_
        refine wq_end rfl RVs.nil (fun w_ hs_ => ?_)
        have e1 : downF s.xs kv i x = (l1.set i1 x, aset kv1 x.id i1) := by rw [← hl2, downF, dif_neg (fun h => by omega)]
        rw [e1]
        exact ⟨rfl, Split.use (by repeat (first | exact Split.nil | (apply Split.keep; · ((repeat constructor); first | done | fail)) | (apply Split.take; · ((repeat constructor); first | done | fail)) | apply Split.drop)) hs_⟩

set_option maxHeartbeats 400000 in
theorem S_heap_fix (hb m : Nat) (s : Sl GThing) (kv : List (Int × Int)) (i : Nat) (x : GThing) (hi : i < s.xs.length) (hx : okT x) : Fn Try.prog 156 [.pointer (some ⟨hb, 0, none⟩), .int .i64 (i : Int), .agg (encThing x).toArray] [cb hb (hpc s m) 223, Own TThing 225 s, mpI m kv] (fun v_ S_ => v_ = .tuple #[] ∧ S_ [cb hb (hpc ⟨s.A, s.c, (fixF s.xs kv i x).1⟩ m) 223, Own TThing 225 ⟨s.A, s.c, (fixF s.xs kv i x).1⟩, mpI m (fixF s.xs kv i x).2]) := by
  refine fn_intro (m := 16) (gs := [(0, .pointer (some ⟨hb, 0, none⟩)), (1, .int .i64 (i : Int)), (2, .agg (encThing x).toArray)]) Try.func156 rfl rfl rfl rfl (fun t v h => gs_ok (by repeat (first | exact GsOk.nil | refine GsOk.cons (by rfl) ?_)) t v h) (fun F => cb hb (hpc s m) 223 :: Own TThing 225 s :: mpI m kv :: F) (fun _ => rfl) (fun E F => ?_)
  refine wc_seq ?_
  refine wc_region ?_
  refine wl_l (lev_box _ rfl rfl rfl fun b1 => ?_)
  refine wl_nil ?_
  refine wq_then ?_
  refine wc_seq ?_
  refine wc_region ?_
  refine wl_q (q_move rfl) rfl ?_
  refine wl_q (q_move rfl) rfl ?_
  refine wl_q (q_loadCA rfl (by ((repeat constructor); first | done | fail)) (by kernel_rfl)) rfl ?_
  refine wl_l (lev_callF (S_heap_up hb m s kv i x hi hx) rfl rfl (by repeat (first | exact Split.nil | (apply Split.keep; · ((repeat constructor); first | done | fail)) | (apply Split.take; · ((repeat constructor); first | done | fail)) | apply Split.drop)) ?_)
  rintro v_ w_ ⟨rfl, hs6⟩
  (try simp only [List.cons_append, List.nil_append] at hs6)
  refine ⟨_, hs6, ?_⟩
  refine wl_q (q_move rfl) rfl ?_
  refine wl_q (q_eql rfl rfl) rfl ?_
  refine wl_nil ?_
  refine wq_then ?_
  refine wc_cond _ rfl (fun hc11 => ?_) (fun hc11 => ?_)
  · have hc11_ := hc11; try simp only [decide_eq_true_eq, decide_eq_false_iff_not, Bool.not_eq_true', Bool.not_eq_false', Decidable.not_not, Int.not_lt, Int.not_le, Bool.and_eq_true, Bool.or_eq_true] at hc11_
    refine wc_region ?_
    refine wl_q (q_move rfl) rfl ?_
    refine wl_q (q_move rfl) rfl ?_
    refine wl_q (q_loadCA rfl (by ((repeat constructor); first | done | fail)) (by kernel_rfl)) rfl ?_
    refine wl_l (lev_callF (S_heap_down hb m ⟨s.A, s.c, (upF s.xs kv i x).1⟩ (upF s.xs kv i x).2.1 i x (by dsimp only; rw [upF_len]; exact hi) hx) rfl rfl (by repeat (first | exact Split.nil | (apply Split.keep; · ((repeat constructor); first | done | fail)) | (apply Split.take; · ((repeat constructor); first | done | fail)) | apply Split.drop)) ?_)
    rintro v_ w_ ⟨rfl, hs10⟩
    (try simp only [List.cons_append, List.nil_append] at hs10)
    refine ⟨_, hs10, ?_⟩
    refine wl_nil ?_
    refine wq_end rfl RVs.nil (fun w_ hs_ => ?_)
    unfold fixF
    rw [if_pos (by omega)]
    exact ⟨rfl, Split.use (by repeat (first | exact Split.nil | (apply Split.keep; · ((repeat constructor); first | done | fail)) | (apply Split.take; · ((repeat constructor); first | done | fail)) | apply Split.drop)) hs_⟩
  · have hc11_ := hc11; try simp only [decide_eq_true_eq, decide_eq_false_iff_not, Bool.not_eq_true', Bool.not_eq_false', Decidable.not_not, Int.not_lt, Int.not_le, Bool.and_eq_true, Bool.or_eq_true] at hc11_
    refine wc_skip ?_
    refine wq_end rfl RVs.nil (fun w_ hs_ => ?_)
    unfold fixF
    rw [if_neg (by omega)]
    exact ⟨rfl, Split.use (by repeat (first | exact Split.nil | (apply Split.keep; · ((repeat constructor); first | done | fail)) | (apply Split.take; · ((repeat constructor); first | done | fail)) | apply Split.drop)) hs_⟩

set_option maxHeartbeats 400000 in
theorem S_heap_Len (hb m : Nat) (s : Sl GThing) (kv : List (Int × Int)) : Fn Try.prog 169 [.pointer (some ⟨hb, 0, none⟩)] [cb hb (hpc s m) 223, Own TThing 225 s, mpI m kv] (fun v_ S_ => v_ = .int .i64 (s.xs.length : Int) ∧ S_ [cb hb (hpc s m) 223, Own TThing 225 s, mpI m kv]) := by
  refine fn_intro (m := 10) (gs := [(0, .pointer (some ⟨hb, 0, none⟩))]) Try.func169 rfl rfl rfl rfl (fun t v h => gs_ok (by repeat (first | exact GsOk.nil | refine GsOk.cons (by rfl) ?_)) t v h) (fun F => cb hb (hpc s m) 223 :: Own TThing 225 s :: mpI m kv :: F) (fun _ => rfl) (fun E F => ?_)
  refine wc_seq ?_
  refine wc_region ?_
  refine wl_q (q_assign rfl) rfl ?_
  refine wl_nil ?_
  refine wq_then ?_
  refine wc_seq ?_
  refine wc_seq ?_
  refine wc_region ?_
  refine wl_q (q_move rfl) rfl ?_
  refine wl_q (q_eqlPtrNil (e := 223) (by kernel_rfl) rfl rfl) rfl ?_
  refine wl_nil ?_
  refine wq_then ?_
  refine wc_cond _ rfl (fun hc4 => ?_) (fun hc4 => ?_)
  · first | cases hc4 | (exfalso; simp at hc4)
  · have hc4_ := hc4; try simp only [decide_eq_true_eq, decide_eq_false_iff_not, Bool.not_eq_true', Bool.not_eq_false', Decidable.not_not, Int.not_lt, Int.not_le, Bool.and_eq_true, Bool.or_eq_true] at hc4_
    refine wc_skip ?_
    refine wq_then ?_
    refine wc_seq ?_
    refine wc_region ?_
    refine wl_q (q_move rfl) rfl ?_
    refine wl_q (by first | exact q_nilCheck rfl | exact q_nilCheckF rfl) rfl ?_
    refine wl_q (q_fieldAddr (off := 0) (by kernel_rfl) rfl) rfl ?_
    refine wl_q (q_loadC rfl (by kernel_rfl) (by ((repeat constructor); first | done | fail)) (by rfl)) rfl ?_
    refine wl_q (q_len (e := 225) (by kernel_rfl) rfl) rfl ?_
    refine wl_q (q_assign rfl) rfl ?_
    refine wl_nil ?_
    refine wq_then ?_
    refine wc_ret ?_
    refine wq_ret rfl (RVs.tmp rfl RVs.nil) (fun w_ hs_ => ?_)
    exact ⟨rfl, Split.use (by repeat (first | exact Split.nil | (apply Split.keep; · ((repeat constructor); first | done | fail)) | (apply Split.take; · ((repeat constructor); first | done | fail)) | apply Split.drop)) hs_⟩

def headId : List GThing → Int
  | [] => 0
  | x :: _ => x.id
theorem head_get {l : List GThing} (h : l ≠ []) : l[(0 : Int).toNat]? = some (gt l 0) ∧ (gt l 0).id = headId l ∧ l.isEmpty = false := by
  cases l with
  | nil => exact absurd rfl h
  | cons x r => exact ⟨rfl, rfl, rfl⟩

set_option maxHeartbeats 400000 in
theorem S_heap_First (hb m : Nat) (s : Sl GThing) (kv : List (Int × Int)) : Fn Try.prog 157 [.pointer (some ⟨hb, 0, none⟩)] [cb hb (hpc s m) 223, Own TThing 225 s, mpI m kv] (fun v_ S_ => v_ = .tuple [.int .i64 (headId s.xs), .bool (!s.xs.isEmpty)].toArray ∧ S_ [cb hb (hpc s m) 223, Own TThing 225 s, mpI m kv]) := by
  refine fn_intro (m := 14) (gs := [(0, .pointer (some ⟨hb, 0, none⟩))]) Try.func157 rfl rfl rfl rfl (fun t v h => gs_ok (by repeat (first | exact GsOk.nil | refine GsOk.cons (by rfl) ?_)) t v h) (fun F => cb hb (hpc s m) 223 :: Own TThing 225 s :: mpI m kv :: F) (fun _ => rfl) (fun E F => ?_)
  refine wc_seq ?_
  refine wc_region ?_
  refine wl_q (q_assign rfl) rfl ?_
  refine wl_q (q_assign rfl) rfl ?_
  refine wl_nil ?_
  refine wq_then ?_
  refine wc_seq ?_
  refine wc_seq ?_
  refine wc_region ?_
  refine wl_q (q_move rfl) rfl ?_
  refine wl_l (lev_callF (S_heap_Len hb m s kv) rfl rfl (by repeat (first | exact Split.nil | (apply Split.keep; · ((repeat constructor); first | done | fail)) | (apply Split.take; · ((repeat constructor); first | done | fail)) | apply Split.drop)) ?_)
  rintro v_ w_ ⟨rfl, hs2⟩
  (try simp only [List.cons_append, List.nil_append] at hs2)
  refine ⟨_, hs2, ?_⟩
  refine wl_q (q_eql rfl rfl) rfl ?_
  refine wl_nil ?_
  refine wq_then ?_
  refine wc_cond _ rfl (fun hc6 => ?_) (fun hc6 => ?_)
  · have hc6_ := hc6; try simp only [decide_eq_true_eq, decide_eq_false_iff_not, Bool.not_eq_true', Bool.not_eq_false', Decidable.not_not, Int.not_lt, Int.not_le, Bool.and_eq_true, Bool.or_eq_true] at hc6_
    have he : s.xs = [] := List.eq_nil_of_length_eq_zero (by omega)
    refine wc_seq ?_
    refine wc_region ?_
    refine wl_q (q_assign rfl) rfl ?_
    refine wl_q (q_assign rfl) rfl ?_
    refine wl_nil ?_
    refine wq_then ?_
    refine wc_ret ?_
    refine wq_then_ret ?_
    refine wq_ret rfl (RVs.tmp rfl (RVs.tmp rfl RVs.nil)) (fun w_ hs_ => ?_)
    exact ⟨by rw [he]; rfl, Split.use (by repeat (first | exact Split.nil | (apply Split.keep; · ((repeat constructor); first | done | fail)) | (apply Split.take; · ((repeat constructor); first | done | fail)) | apply Split.drop)) hs_⟩
  · have hc6_ := hc6; try simp only [decide_eq_true_eq, decide_eq_false_iff_not, Bool.not_eq_true', Bool.not_eq_false', Decidable.not_not, Int.not_lt, Int.not_le, Bool.and_eq_true, Bool.or_eq_true] at hc6_
    have hne : s.xs ≠ [] := fun e => hc6_ (by rw [e]; rfl)
    obtain ⟨hx1, hx2, hx3⟩ := head_get hne
    have hp : 0 < s.xs.length := List.length_pos_iff.2 hne
    refine wc_skip ?_
    refine wq_then ?_
    refine wc_seq ?_
    refine wc_region ?_
    refine wl_q (q_move rfl) rfl ?_
    refine wl_q (by first | exact q_nilCheck rfl | exact q_nilCheckF rfl) rfl ?_
    refine wl_q (q_fieldAddr (off := 0) (by kernel_rfl) rfl) rfl ?_
    refine wl_q (q_loadC rfl (by kernel_rfl) (by ((repeat constructor); first | done | fail)) (by rfl)) rfl ?_
    refine wl_q (by first | exact q_indexR (e := 225) (by kernel_rfl) (by kernel_rfl) rfl rfl (by ((repeat constructor); first | done | fail)) (by first | omega | (dsimp only; omega) | (simp only [Int.toNat_natCast, List.length_set, List.length_append, List.length_cons, List.length_nil] at *; omega)) (by first | omega | (dsimp only; omega) | (simp only [Int.toNat_natCast, List.length_set, List.length_append, List.length_cons, List.length_nil] at *; omega)) | exact q_indexO (e := 225) (by kernel_rfl) (by kernel_rfl) rfl rfl (by ((repeat constructor); first | done | fail)) (by first | omega | (dsimp only; omega) | (simp only [Int.toNat_natCast, List.length_set, List.length_append, List.length_cons, List.length_nil] at *; omega)) (by first | omega | (dsimp only; omega) | (simp only [Int.toNat_natCast, List.length_set, List.length_append, List.length_cons, List.length_nil] at *; omega))) rfl ?_
    refine wl_q (q_fieldAddr (off := 0) (by kernel_rfl) rfl) rfl ?_
    refine wl_q (by first | exact q_elemR rfl (by kernel_rfl) (by ((repeat constructor); first | done | fail)) (by assumption) (by rfl) | exact q_elemO rfl (by kernel_rfl) (by ((repeat constructor); first | done | fail)) (by assumption) (by rfl)) rfl ?_
    refine wl_q (q_assign rfl) rfl ?_
    refine wl_q (q_assign rfl) rfl ?_
    refine wl_nil ?_
    refine wq_then ?_
    refine wc_ret ?_
    refine wq_ret rfl (RVs.tmp rfl (RVs.tmp rfl RVs.nil)) (fun w_ hs_ => ?_)
    exact ⟨by rw [hx3, ← hx2]; rfl, Split.use (by repeat (first | exact Split.nil | (apply Split.keep; · ((repeat constructor); first | done | fail)) | (apply Split.take; · ((repeat constructor); first | done | fail)) | apply Split.drop)) hs_⟩

/-- the map tells places of the list -/
def hpOk (l : List GThing) (kv : List (Int × Int)) : Prop := ∀ j i, aget kv j = some i → 0 ≤ i ∧ i < l.length ∧ (gt l i.toNat).id = j
def putF (l : List GThing) (kv : List (Int × Int)) (x : GThing) : List GThing × List (Int × Int) := match aget kv x.id with
  | none => fixF (l ++ [x]) kv l.length x
  | some i => fixF l kv i.toNat x
theorem putF_none {l : List GThing} {kv : List (Int × Int)} {x : GThing} (h : aget kv x.id = none) : putF l kv x = fixF (l ++ [x]) kv l.length x := by unfold putF; rw [h]
theorem putF_some {l : List GThing} {kv : List (Int × Int)} {x : GThing} {i : Int} (h : aget kv x.id = some i) : putF l kv x = fixF l kv i.toNat x := by unfold putF; rw [h]

set_option maxHeartbeats 400000 in
theorem S_heap_Put (hb m : Nat) (s : Sl GThing) (kv : List (Int × Int)) (id key seq : Int) (hx : okT ⟨id, key, seq⟩) (hb2 : s.xs.length < 1099511627776) (hkv : hpOk s.xs kv) : Fn Try.prog 135 [.pointer (some ⟨hb, 0, none⟩), .int .i64 id, .int .i64 key, .int .i64 seq] [cb hb (hpc s m) 223, Own TThing 225 s, mpI m kv] (fun v_ S_ => ∃ s' : Sl GThing, v_ = .bool (!(aget kv id).isSome) ∧ s'.xs = (putF s.xs kv ⟨id, key, seq⟩).1 ∧ S_ [cb hb (hpc s' m) 223, Own TThing 225 s', mpI m (putF s.xs kv ⟨id, key, seq⟩).2]) := by
  refine fn_intro (m := 50) (gs := [(0, .pointer (some ⟨hb, 0, none⟩)), (1, .int .i64 id), (2, .int .i64 key), (3, .int .i64 seq)]) Try.func135 rfl rfl rfl rfl (fun t v h => gs_ok (by repeat (first | exact GsOk.nil | refine GsOk.cons (by rfl) ?_)) t v h) (fun F => cb hb (hpc s m) 223 :: Own TThing 225 s :: mpI m kv :: F) (fun _ => rfl) (fun E F => ?_)
  refine wc_ownF (s := s) (by ((repeat constructor); first | done | fail)) fun hcap hbig hok => ?_
  have hbig2 := big_is
  obtain ⟨M_, hok⟩ := hok
  refine wc_seq ?_
  refine wc_region ?_
  refine wl_q (q_assign rfl) rfl ?_
  refine wl_nil ?_
  refine wq_then ?_
  refine wc_seq ?_
  refine wc_seq ?_
  refine wc_region ?_
  refine wl_q (q_move rfl) rfl ?_
  refine wl_q (q_eqlPtrNil (e := 223) (by kernel_rfl) rfl rfl) rfl ?_
  refine wl_nil ?_
  refine wq_then ?_
  refine wc_cond _ rfl (fun hc13 => ?_) (fun hc13 => ?_)
  · first | cases hc13 | (exfalso; simp at hc13)
  · have hc13_ := hc13; try simp only [decide_eq_true_eq, decide_eq_false_iff_not, Bool.not_eq_true', Bool.not_eq_false', Decidable.not_not, Int.not_lt, Int.not_le, Bool.and_eq_true, Bool.or_eq_true] at hc13_
    refine wc_skip ?_
    refine wq_then ?_
    refine wc_seq ?_
    refine wc_region ?_
    refine wl_q (q_move rfl) rfl ?_
    refine wl_q (q_move rfl) rfl ?_
    refine wl_q (q_move rfl) rfl ?_
    refine wl_q (q_build (zs := [(.int .i64 0), (.int .i64 0), (.int .i64 0)]) (z := .agg #[(.int .i64 0), (.int .i64 0), (.int .i64 0)]) (l := [_, _, _]) [(0, 1), (1, 1), (2, 1)] (by kernel_rfl) (by unfold zeroIs; kernel_rfl) rfl rfl (.cons rfl (us := [_]) rfl rfl rfl (.cons rfl (us := [_]) rfl rfl rfl (.cons rfl (us := [_]) rfl rfl rfl .nil)))) rfl ?_
    refine wl_l (lev_alloc [(.int .i64 0), (.int .i64 0), (.int .i64 0)] (.agg #[(.int .i64 0), (.int .i64 0), (.int .i64 0)]) (by kernel_rfl) rfl rfl fun b1 => ?_)
    refine wl_l ?_
    first | refine lev_store1 rfl rfl rfl (by kernel_rfl) rfl rfl (by ((repeat constructor); first | done | fail)) (by rfl) ?_ | refine lev_storeA rfl rfl (by ((repeat constructor); first | done | fail)) (by rfl) (by kernel_rfl) (by first | exact TThing.one _ | exact TSpec.one _ | exact TTask.one _ | exact TArc.one _ | exact TBounds.one _ | exact fun u hu => List.all_eq_true.1 (rfl : List.all _ (·.oneCell') = true) u hu) rfl ?_
    refine wl_nil ?_
    refine wq_then ?_
    refine wc_seq ?_
    refine wc_region ?_
    refine wl_q (q_move rfl) rfl ?_
    refine wl_q (by first | exact q_nilCheck rfl | exact q_nilCheckF rfl) rfl ?_
    refine wl_q (q_fieldAddr (off := 1) (by kernel_rfl) rfl) rfl ?_
    refine wl_q (q_loadC rfl (by kernel_rfl) (by ((repeat constructor); first | done | fail)) (by rfl)) rfl ?_
    refine wl_q (q_move rfl) rfl ?_
    refine wl_q (q_lookupOkI (kt := 3) (et := 3) (by kernel_rfl) (by kernel_rfl) (by unfold zeroIs; kernel_rfl) rfl rfl (by ((repeat constructor); first | done | fail))) rfl ?_
    refine wl_q (q_move rfl) rfl ?_
    refine wl_q (q_extract rfl rfl) rfl ?_
    refine wl_q (q_extract rfl rfl) rfl ?_
    refine wl_q (q_assign rfl) rfl ?_
    refine wl_q (q_assign rfl) rfl ?_
    refine wl_nil ?_
    refine wq_then ?_
    refine wc_cut (γ := (Sl GThing) × (Int)) (fun g_ => (0 ≤ g_.2) ∧ (g_.2 < g_.1.xs.length) ∧ (putF s.xs kv ⟨id, key, seq⟩ = fixF g_.1.xs kv g_.2.toNat ⟨id, key, seq⟩)) (fun g_ => [(0, .pointer (some ⟨hb, 0, none⟩)), (9, .pointer (some ⟨b1, 0, none⟩)), (10, .int .i64 g_.2), (11, .bool (aget kv id).isSome)]) (fun g_ => cb b1 (encThing ⟨id, key, seq⟩) 225 :: cb hb (hpc g_.1 m) 223 :: Own TThing 225 g_.1 :: mpI m kv :: F) ?_ ?_
    ·
      refine wc_seq ?_
      refine wc_region ?_
      refine wl_q (q_move rfl) rfl ?_
      refine wl_q (q_not rfl) rfl ?_
      refine wl_nil ?_
      refine wq_then ?_
      refine wc_cond _ rfl (fun hc28 => ?_) (fun hc28 => ?_)
      · have hc28_ := hc28; try simp only [decide_eq_true_eq, decide_eq_false_iff_not, Bool.not_eq_true', Bool.not_eq_false', Decidable.not_not, Int.not_lt, Int.not_le, Bool.and_eq_true, Bool.or_eq_true] at hc28_
        have hn : aget kv id = none := by simpa using hc28_
        refine wc_seq ?_
        refine wc_region ?_
        refine wl_q (q_move rfl) rfl ?_
        refine wl_q (by first | exact q_nilCheck rfl | exact q_nilCheckF rfl) rfl ?_
        refine wl_q (q_fieldAddr (off := 0) (by kernel_rfl) rfl) rfl ?_
        refine wl_q (q_loadC rfl (by kernel_rfl) (by ((repeat constructor); first | done | fail)) (by rfl)) rfl ?_
        refine wl_q (q_len (e := 225) (by kernel_rfl) rfl) rfl ?_
        refine wl_q (q_assign rfl) rfl ?_
        refine wl_nil ?_
        refine wq_then ?_
        refine wc_drawB [cb hb (hpc s m) 223, cb b1 (encThing ⟨id, key, seq⟩) 225] [0, 1, 2, 3, 4, 5] (by kernel_rfl) ?_
        refine wb_q 0 rfl (by kernel_rfl) (fun _ _ _ h => h) (Ent.of_split (by repeat (first | exact Split.all | exact Split.nil | (apply Split.keep; · ((repeat constructor); first | done | fail)) | (apply Split.take; · ((repeat constructor); first | done | fail)) | apply Split.drop))) (q_move rfl) rfl ?_
        refine wb_q 1 rfl (by kernel_rfl) (fun _ _ _ h => h) (Ent.of_split (by repeat (first | exact Split.all | exact Split.nil | (apply Split.keep; · ((repeat constructor); first | done | fail)) | (apply Split.take; · ((repeat constructor); first | done | fail)) | apply Split.drop))) (q_move rfl) rfl ?_
        refine wb_q 2 rfl (by kernel_rfl) (fun _ _ _ h => h) (Ent.of_split (by repeat (first | exact Split.all | exact Split.nil | (apply Split.keep; · ((repeat constructor); first | done | fail)) | (apply Split.take; · ((repeat constructor); first | done | fail)) | apply Split.drop))) (by first | exact q_nilCheck rfl | exact q_nilCheckF rfl) rfl ?_
        refine wb_q 3 rfl (by kernel_rfl) (fun _ _ _ h => h) (Ent.of_split (by repeat (first | exact Split.all | exact Split.nil | (apply Split.keep; · ((repeat constructor); first | done | fail)) | (apply Split.take; · ((repeat constructor); first | done | fail)) | apply Split.drop))) (q_fieldAddr (off := 0) (by kernel_rfl) rfl) rfl ?_
        refine wb_q 4 rfl (by kernel_rfl) (fun _ _ _ h => h) (Ent.of_split (by repeat (first | exact Split.all | exact Split.nil | (apply Split.keep; · ((repeat constructor); first | done | fail)) | (apply Split.take; · ((repeat constructor); first | done | fail)) | apply Split.drop))) (q_loadC rfl (by kernel_rfl) (by ((repeat constructor); first | done | fail)) (by rfl)) rfl ?_
        refine wb_q 5 rfl (by kernel_rfl) (fun _ _ _ h => h) (Ent.of_split (by repeat (first | exact Split.all | exact Split.nil | (apply Split.keep; · ((repeat constructor); first | done | fail)) | (apply Split.take; · ((repeat constructor); first | done | fail)) | apply Split.drop))) (q_loadCA rfl (by ((repeat constructor); first | done | fail)) (by kernel_rfl)) rfl ?_
        refine wb_one 6 (by kernel_rfl) rfl (lev_buildSlice1 (e := 225) (us := [_, _, _]) (z := .agg #[(.int .i64 0), (.int .i64 0), (.int .i64 0)]) (by kernel_rfl) (by kernel_rfl) (by unfold zeroIs; kernel_rfl) rfl rfl rfl rfl rfl fun b25 => ?_)
        refine ⟨fun _ => (Ent.of_split (by repeat (first | exact Split.all | exact Split.nil | (apply Split.keep; · ((repeat constructor); first | done | fail)) | (apply Split.take; · ((repeat constructor); first | done | fail)) | apply Split.drop))), ?_⟩
        refine wb_one 7 (by kernel_rfl) rfl (lev_append1 (T := TThing) (e := 225) (z := .agg #[(.int .i64 0), (.int .i64 0), (.int .i64 0)]) ((⟨id, key, seq⟩ : GThing)) (by kernel_rfl) (by unfold zeroIs; kernel_rfl) (by kernel_rfl) rfl rfl 24 (by kernel_rfl) rfl rfl rfl (by ((repeat constructor); first | done | fail)) (by ((repeat constructor); first | done | fail)) rfl (.pure fun _ => hx) (⟨by simp only [big_is]; omega, by omega, by decide⟩) fun s1 hs1 => ?_)
        refine ⟨fun _ => (Ent.of_split (by repeat (first | exact Split.all | exact Split.nil | (apply Split.keep; · ((repeat constructor); first | done | fail)) | (apply Split.take; · ((repeat constructor); first | done | fail)) | apply Split.drop))), ?_⟩
        refine wb_one 8 (by kernel_rfl) rfl (LEv.of_q (by first | exact q_nilCheck rfl | exact q_nilCheckF rfl) rfl ?_)
        refine ⟨needs_no (by kernel_rfl), ?_⟩
        refine wb_one 9 (by kernel_rfl) rfl (LEv.of_q (q_fieldAddr (off := 0) (by kernel_rfl) rfl) rfl ?_)
        refine ⟨needs_no (by kernel_rfl), ?_⟩
        refine wb_one 10 (by kernel_rfl) rfl ?_
        first | refine lev_store1 rfl rfl rfl (by kernel_rfl) rfl rfl (by ((repeat constructor); first | done | fail)) (by rfl) ?_ | refine lev_storeA rfl rfl (by ((repeat constructor); first | done | fail)) (by rfl) (by kernel_rfl) (by first | exact TThing.one _ | exact TSpec.one _ | exact TTask.one _ | exact TArc.one _ | exact TBounds.one _ | exact fun u hu => List.all_eq_true.1 (rfl : List.all _ (·.oneCell') = true) u hu) rfl ?_
        refine ⟨needs_no (by kernel_rfl), ?_⟩
        refine wb_done (by kernel_rfl) ?_
        exact wq_meet ((s1, (s.xs.length : Int))) (⟨(show 0 ≤ ((s.xs.length : Int) : Int) from (by omega)), (show ((s.xs.length : Int) : Int) < (s1 : Sl GThing).xs.length from (by rw [hs1]; simp; omega)), (show putF s.xs kv ⟨id, key, seq⟩ = fixF (s1 : Sl GThing).xs kv ((s.xs.length : Int) : Int).toNat ⟨id, key, seq⟩ from (by rw [putF_none hn, hs1, Int.toNat_natCast]))⟩) (by repeat (first | exact Sub.nil | refine Sub.cons (by rfl) ?_)) (Ent.of_split (by repeat (first | exact Split.all | exact Split.nil | (apply Split.keep; · ((repeat constructor); first | done | fail)) | (apply Split.take; · ((repeat constructor); first | done | fail)) | apply Split.drop)))
      · have hc28_ := hc28; try simp only [decide_eq_true_eq, decide_eq_false_iff_not, Bool.not_eq_true', Bool.not_eq_false', Decidable.not_not, Int.not_lt, Int.not_le, Bool.and_eq_true, Bool.or_eq_true] at hc28_
        obtain ⟨i0, hi0⟩ := Option.isSome_iff_exists.1 hc28_
        obtain ⟨hk1, hk2, hk3⟩ := hkv id i0 hi0
        have hgd : (aget kv id).getD 0 = i0 := by rw [hi0]; rfl
        refine wc_skip ?_
        exact wq_meet ((s, (aget kv id).getD 0)) (⟨(show 0 ≤ ((aget kv id).getD 0 : Int) from (by omega)), (show ((aget kv id).getD 0 : Int) < (s : Sl GThing).xs.length from (by omega)), (show putF s.xs kv ⟨id, key, seq⟩ = fixF (s : Sl GThing).xs kv ((aget kv id).getD 0 : Int).toNat ⟨id, key, seq⟩ from (by rw [putF_some hi0, hgd]))⟩) (by repeat (first | exact Sub.nil | refine Sub.cons (by rfl) ?_)) (Ent.of_split (by repeat (first | exact Split.all | exact Split.nil | (apply Split.keep; · ((repeat constructor); first | done | fail)) | (apply Split.take; · ((repeat constructor); first | done | fail)) | apply Split.drop)))
    · rintro ⟨s2, i⟩ ⟨hi1, hi2, hi3⟩
      replace hi1 : 0 ≤ i := hi1
      replace hi2 : i < s2.xs.length := hi2
      replace hi3 : putF s.xs kv ⟨id, key, seq⟩ = fixF s2.xs kv i.toNat ⟨id, key, seq⟩ := hi3
      refine wc_ent (gs := [(0, .pointer (some ⟨hb, 0, none⟩)), (9, .pointer (some ⟨b1, 0, none⟩)), (10, .int .i64 i), (11, .bool (aget kv id).isSome)]) (by repeat (first | exact Sub.nil | refine Sub.cons (by rfl) ?_)) (L' := cb b1 (encThing ⟨id, key, seq⟩) 225 :: cb hb (hpc s2 m) 223 :: Own TThing 225 s2 :: mpI m kv :: F) (Ent.refl _) ?_
      obtain ⟨i1, rfl⟩ := Int.eq_ofNat_of_zero_le hi1
      simp only [Int.toNat_natCast] at hi3
      refine wc_seq ?_
      refine wc_region ?_
      refine wl_q (q_move rfl) rfl ?_
      refine wl_q (q_move rfl) rfl ?_
      refine wl_q (q_loadCA rfl (by ((repeat constructor); first | done | fail)) (by kernel_rfl)) rfl ?_
      refine wl_l (lev_callF (S_heap_fix hb m s2 kv i1 ⟨id, key, seq⟩ (by omega) hx) rfl rfl (by repeat (first | exact Split.nil | (apply Split.keep; · ((repeat constructor); first | done | fail)) | (apply Split.take; · ((repeat constructor); first | done | fail)) | apply Split.drop)) ?_)
      rintro v_ w_ ⟨rfl, hs35⟩
      (try simp only [List.cons_append, List.nil_append] at hs35)
      refine ⟨_, hs35, ?_⟩
      refine wl_nil ?_
      refine wq_then ?_
      refine wc_seq ?_
      refine wc_region ?_
      refine wl_q (q_move rfl) rfl ?_
      refine wl_q (q_not rfl) rfl ?_
      refine wl_q (q_assign rfl) rfl ?_
      refine wl_nil ?_
      refine wq_then ?_
      refine wc_ret ?_
      refine wq_ret rfl (RVs.tmp rfl RVs.nil) (fun w_ hs_ => ?_)
      rw [hi3]
      exact ⟨_, rfl, rfl, Split.use (by repeat (first | exact Split.nil | (apply Split.keep; · ((repeat constructor); first | done | fail)) | (apply Split.take; · ((repeat constructor); first | done | fail)) | apply Split.drop)) hs_⟩

def dropF (l : List GThing) (kv : List (Int × Int)) (id : Int) : List GThing × List (Int × Int) := match aget kv id with
  | none => (l, kv)
  | some i => if (gt l (l.length - 1)).id = id then (l.take (l.length - 1), adel kv id) else fixF (l.take (l.length - 1)) (adel kv id) i.toNat (gt l (l.length - 1))
theorem dropF_none {l : List GThing} {kv : List (Int × Int)} {id : Int} (h : aget kv id = none) : dropF l kv id = (l, kv) := by unfold dropF; rw [h]
theorem dropF_last {l : List GThing} {kv : List (Int × Int)} {id i : Int} (h : aget kv id = some i) (e : (gt l (l.length - 1)).id = id) : dropF l kv id = (l.take (l.length - 1), adel kv id) := by unfold dropF; rw [h]; simp only; rw [if_pos e]
theorem dropF_fix {l : List GThing} {kv : List (Int × Int)} {id : Int} {i : Nat} (h : aget kv id = some (i : Int)) (e : ¬ (gt l (l.length - 1)).id = id) : dropF l kv id = fixF (l.take (l.length - 1)) (adel kv id) i (gt l (l.length - 1)) := by unfold dropF; rw [h]; simp only; rw [if_neg e, Int.toNat_natCast]

set_option maxHeartbeats 400000 in
theorem S_heap_Drop (hb m : Nat) (s : Sl GThing) (kv : List (Int × Int)) (id : Int) (hkv : hpOk s.xs kv) : Fn Try.prog 158 [.pointer (some ⟨hb, 0, none⟩), .int .i64 id] [cb hb (hpc s m) 223, Own TThing 225 s, mpI m kv] (fun v_ S_ => v_ = .bool (aget kv id).isSome ∧ S_ [cb hb (hpc ⟨s.A, s.c, (dropF s.xs kv id).1⟩ m) 223, Own TThing 225 ⟨s.A, s.c, (dropF s.xs kv id).1⟩, mpI m (dropF s.xs kv id).2]) := by
  refine fn_intro (m := 60) (gs := [(0, .pointer (some ⟨hb, 0, none⟩)), (1, .int .i64 id)]) Try.func158 rfl rfl rfl rfl (fun t v h => gs_ok (by repeat (first | exact GsOk.nil | refine GsOk.cons (by rfl) ?_)) t v h) (fun F => cb hb (hpc s m) 223 :: Own TThing 225 s :: mpI m kv :: F) (fun _ => rfl) (fun E F => ?_)
  refine wc_ownF (s := s) (by ((repeat constructor); first | done | fail)) fun hcap hbig hok => ?_
  have hbig2 := big_is
  obtain ⟨M_, hok⟩ := hok
  refine wc_seq ?_
  refine wc_region ?_
  refine wl_q (q_assign rfl) rfl ?_
  refine wl_nil ?_
  refine wq_then ?_
  refine wc_seq ?_
  refine wc_seq ?_
  refine wc_region ?_
  refine wl_q (q_move rfl) rfl ?_
  refine wl_q (q_eqlPtrNil (e := 223) (by kernel_rfl) rfl rfl) rfl ?_
  refine wl_nil ?_
  refine wq_then ?_
  refine wc_cond _ rfl (fun hc9 => ?_) (fun hc9 => ?_)
  · first | cases hc9 | (exfalso; simp at hc9)
  · have hc9_ := hc9; try simp only [decide_eq_true_eq, decide_eq_false_iff_not, Bool.not_eq_true', Bool.not_eq_false', Decidable.not_not, Int.not_lt, Int.not_le, Bool.and_eq_true, Bool.or_eq_true] at hc9_
    refine wc_skip ?_
    refine wq_then ?_
    refine wc_seq ?_
    refine wc_region ?_
    refine wl_q (q_move rfl) rfl ?_
    refine wl_q (by first | exact q_nilCheck rfl | exact q_nilCheckF rfl) rfl ?_
    refine wl_q (q_fieldAddr (off := 1) (by kernel_rfl) rfl) rfl ?_
    refine wl_q (q_loadC rfl (by kernel_rfl) (by ((repeat constructor); first | done | fail)) (by rfl)) rfl ?_
    refine wl_q (q_move rfl) rfl ?_
    refine wl_q (q_lookupOkI (kt := 3) (et := 3) (by kernel_rfl) (by kernel_rfl) (by unfold zeroIs; kernel_rfl) rfl rfl (by ((repeat constructor); first | done | fail))) rfl ?_
    refine wl_q (q_move rfl) rfl ?_
    refine wl_q (q_extract rfl rfl) rfl ?_
    refine wl_q (q_extract rfl rfl) rfl ?_
    refine wl_q (q_assign rfl) rfl ?_
    refine wl_q (q_assign rfl) rfl ?_
    refine wl_nil ?_
    refine wq_then ?_
    refine wc_seq ?_
    refine wc_seq ?_
    refine wc_region ?_
    refine wl_q (q_move rfl) rfl ?_
    refine wl_q (q_not rfl) rfl ?_
    refine wl_nil ?_
    refine wq_then ?_
    refine wc_cond _ rfl (fun hc20 => ?_) (fun hc20 => ?_)
    · have hc20_ := hc20; try simp only [decide_eq_true_eq, decide_eq_false_iff_not, Bool.not_eq_true', Bool.not_eq_false', Decidable.not_not, Int.not_lt, Int.not_le, Bool.and_eq_true, Bool.or_eq_true] at hc20_
      have hn : aget kv id = none := by simpa using hc20_
      refine wc_seq ?_
      refine wc_region ?_
      refine wl_q (q_assign rfl) rfl ?_
      refine wl_nil ?_
      refine wq_then ?_
      refine wc_ret ?_
      refine wq_then_ret ?_
      refine wq_ret rfl (RVs.tmp rfl RVs.nil) (fun w_ hs_ => ?_)
      rw [dropF_none hn, hn]
      exact ⟨rfl, Split.use (by repeat (first | exact Split.nil | (apply Split.keep; · ((repeat constructor); first | done | fail)) | (apply Split.take; · ((repeat constructor); first | done | fail)) | apply Split.drop)) hs_⟩
    · have hc20_ := hc20; try simp only [decide_eq_true_eq, decide_eq_false_iff_not, Bool.not_eq_true', Bool.not_eq_false', Decidable.not_not, Int.not_lt, Int.not_le, Bool.and_eq_true, Bool.or_eq_true] at hc20_
      obtain ⟨i0, hi0⟩ := Option.isSome_iff_exists.1 hc20_
      obtain ⟨hk1, hk2, hk3⟩ := hkv id i0 hi0
      have hgd : (aget kv id).getD 0 = i0 := by rw [hi0]; rfl
      obtain ⟨i1, rfl⟩ := Int.eq_ofNat_of_zero_le hk1
      refine wc_re 5 (.int .i64 (i1 : Int)) (by show some (Value.int .i64 ((aget kv id).getD 0)) = _; rw [hgd]) ?_
      have hx1 : s.xs[((s.xs.length : Int) - 1).toNat]? = some (gt s.xs (s.xs.length - 1)) := by rw [show ((s.xs.length : Int) - 1).toNat = s.xs.length - 1 by omega]; exact gt_get (by omega)
      have hx2 : okT (gt s.xs (s.xs.length - 1)) := okT_of (hok _ (List.mem_of_getElem? hx1))
      refine wc_skip ?_
      refine wq_then ?_
      refine wc_seq ?_
      refine wc_region ?_
      refine wl_q (q_move rfl) rfl ?_
      refine wl_q (by first | exact q_nilCheck rfl | exact q_nilCheckF rfl) rfl ?_
      refine wl_q (q_fieldAddr (off := 1) (by kernel_rfl) rfl) rfl ?_
      refine wl_q (q_loadC rfl (by kernel_rfl) (by ((repeat constructor); first | done | fail)) (by rfl)) rfl ?_
      refine wl_q (q_move rfl) rfl ?_
      refine wl_l (lev_deleteI (kt := 3) (et := 3) rfl (by kernel_rfl) (by kernel_rfl) rfl rfl rfl (by ((repeat constructor); first | done | fail)) ?_)
      refine wl_nil ?_
      refine wq_then ?_
      refine wc_seq ?_
      refine wc_drawL [0, 1, 2, 3, 4, 5, 6, 7, 8, 9, 10, 11] (by kernel_rfl) ?_
      refine wb_q 0 rfl (by kernel_rfl) (fun _ _ _ h => h) (Ent.refl _) (q_move rfl) rfl ?_
      refine wb_q 1 rfl (by kernel_rfl) (fun _ _ _ h => h) (Ent.refl _) (by first | exact q_nilCheck rfl | exact q_nilCheckF rfl) rfl ?_
      refine wb_q 2 rfl (by kernel_rfl) (fun _ _ _ h => h) (Ent.refl _) (q_fieldAddr (off := 0) (by kernel_rfl) rfl) rfl ?_
      refine wb_q 3 rfl (by kernel_rfl) (fun _ _ _ h => h) (Ent.refl _) (q_loadC rfl (by kernel_rfl) (by ((repeat constructor); first | done | fail)) (by rfl)) rfl ?_
      refine wb_q 4 rfl (by kernel_rfl) (fun _ _ _ h => h) (Ent.refl _) (q_move rfl) rfl ?_
      refine wb_q 5 rfl (by kernel_rfl) (fun _ _ _ h => h) (Ent.refl _) (by first | exact q_nilCheck rfl | exact q_nilCheckF rfl) rfl ?_
      refine wb_q 6 rfl (by kernel_rfl) (fun _ _ _ h => h) (Ent.refl _) (q_fieldAddr (off := 0) (by kernel_rfl) rfl) rfl ?_
      refine wb_q 7 rfl (by kernel_rfl) (fun _ _ _ h => h) (Ent.refl _) (q_loadC rfl (by kernel_rfl) (by ((repeat constructor); first | done | fail)) (by rfl)) rfl ?_
      refine wb_q 8 rfl (by kernel_rfl) (fun _ _ _ h => h) (Ent.refl _) (q_len (e := 225) (by kernel_rfl) rfl) rfl ?_
      refine wb_q 9 rfl (by kernel_rfl) (fun _ _ _ h => h) (Ent.refl _) (q_sub rfl rfl ⟨by omega, by omega⟩) rfl ?_
      refine wb_q 10 rfl (by kernel_rfl) (fun _ _ _ h => h) (Ent.refl _) (by first | exact q_indexR (e := 225) (by kernel_rfl) (by kernel_rfl) rfl rfl (by ((repeat constructor); first | done | fail)) (by first | omega | (dsimp only; omega) | (simp only [Int.toNat_natCast, List.length_set, List.length_append, List.length_cons, List.length_nil] at *; omega)) (by first | omega | (dsimp only; omega) | (simp only [Int.toNat_natCast, List.length_set, List.length_append, List.length_cons, List.length_nil] at *; omega)) | exact q_indexO (e := 225) (by kernel_rfl) (by kernel_rfl) rfl rfl (by ((repeat constructor); first | done | fail)) (by first | omega | (dsimp only; omega) | (simp only [Int.toNat_natCast, List.length_set, List.length_append, List.length_cons, List.length_nil] at *; omega)) (by first | omega | (dsimp only; omega) | (simp only [Int.toNat_natCast, List.length_set, List.length_append, List.length_cons, List.length_nil] at *; omega))) rfl ?_
      refine wb_q 11 rfl (by kernel_rfl) (fun _ _ _ h => h) (Ent.refl _) (by first | exact q_elemRA rfl (by kernel_rfl) (by ((repeat constructor); first | done | fail)) (by assumption) | exact q_elemOA rfl (by kernel_rfl) (by ((repeat constructor); first | done | fail)) (by assumption)) rfl ?_
      refine wb_one 12 (by kernel_rfl) rfl (lev_alloc [(.int .i64 0), (.int .i64 0), (.int .i64 0)] (.agg #[(.int .i64 0), (.int .i64 0), (.int .i64 0)]) (by kernel_rfl) rfl rfl fun b1 => ?_)
      refine ⟨fun _ => (Ent.of_split (by repeat (first | exact Split.all | exact Split.nil | (apply Split.keep; · ((repeat constructor); first | done | fail)) | (apply Split.take; · ((repeat constructor); first | done | fail)) | apply Split.drop))), ?_⟩
      refine wb_one 13 (by kernel_rfl) rfl ?_
      first | refine lev_store1 rfl rfl rfl (by kernel_rfl) rfl rfl (by ((repeat constructor); first | done | fail)) (by rfl) ?_ | refine lev_storeA rfl rfl (by ((repeat constructor); first | done | fail)) (by rfl) (by kernel_rfl) (by first | exact TThing.one _ | exact TSpec.one _ | exact TTask.one _ | exact TArc.one _ | exact TBounds.one _ | exact fun u hu => List.all_eq_true.1 (rfl : List.all _ (·.oneCell') = true) u hu) rfl ?_
      refine ⟨needs_no (by kernel_rfl), ?_⟩
      refine wb_done (by kernel_rfl) ?_
      refine wq_then ?_
      refine wc_seq ?_
      refine wc_drawB [cb hb (hpc s m) 223, Own TThing 225 s] [0, 1, 2, 3, 4, 5, 6, 7, 8, 9, 10, 11] (by kernel_rfl) ?_
      refine wb_q 0 rfl (by kernel_rfl) (fun _ _ _ h => h) (Ent.of_split (by repeat (first | exact Split.all | exact Split.nil | (apply Split.keep; · ((repeat constructor); first | done | fail)) | (apply Split.take; · ((repeat constructor); first | done | fail)) | apply Split.drop))) (q_move rfl) rfl ?_
      refine wb_q 1 rfl (by kernel_rfl) (fun _ _ _ h => h) (Ent.of_split (by repeat (first | exact Split.all | exact Split.nil | (apply Split.keep; · ((repeat constructor); first | done | fail)) | (apply Split.take; · ((repeat constructor); first | done | fail)) | apply Split.drop))) (q_move rfl) rfl ?_
      refine wb_q 2 rfl (by kernel_rfl) (fun _ _ _ h => h) (Ent.of_split (by repeat (first | exact Split.all | exact Split.nil | (apply Split.keep; · ((repeat constructor); first | done | fail)) | (apply Split.take; · ((repeat constructor); first | done | fail)) | apply Split.drop))) (by first | exact q_nilCheck rfl | exact q_nilCheckF rfl) rfl ?_
      refine wb_q 3 rfl (by kernel_rfl) (fun _ _ _ h => h) (Ent.of_split (by repeat (first | exact Split.all | exact Split.nil | (apply Split.keep; · ((repeat constructor); first | done | fail)) | (apply Split.take; · ((repeat constructor); first | done | fail)) | apply Split.drop))) (q_fieldAddr (off := 0) (by kernel_rfl) rfl) rfl ?_
      refine wb_q 4 rfl (by kernel_rfl) (fun _ _ _ h => h) (Ent.of_split (by repeat (first | exact Split.all | exact Split.nil | (apply Split.keep; · ((repeat constructor); first | done | fail)) | (apply Split.take; · ((repeat constructor); first | done | fail)) | apply Split.drop))) (q_loadC rfl (by kernel_rfl) (by ((repeat constructor); first | done | fail)) (by rfl)) rfl ?_
      refine wb_q 5 rfl (by kernel_rfl) (fun _ _ _ h => h) (Ent.of_split (by repeat (first | exact Split.all | exact Split.nil | (apply Split.keep; · ((repeat constructor); first | done | fail)) | (apply Split.take; · ((repeat constructor); first | done | fail)) | apply Split.drop))) (q_move rfl) rfl ?_
      refine wb_q 6 rfl (by kernel_rfl) (fun _ _ _ h => h) (Ent.of_split (by repeat (first | exact Split.all | exact Split.nil | (apply Split.keep; · ((repeat constructor); first | done | fail)) | (apply Split.take; · ((repeat constructor); first | done | fail)) | apply Split.drop))) (by first | exact q_nilCheck rfl | exact q_nilCheckF rfl) rfl ?_
      refine wb_q 7 rfl (by kernel_rfl) (fun _ _ _ h => h) (Ent.of_split (by repeat (first | exact Split.all | exact Split.nil | (apply Split.keep; · ((repeat constructor); first | done | fail)) | (apply Split.take; · ((repeat constructor); first | done | fail)) | apply Split.drop))) (q_fieldAddr (off := 0) (by kernel_rfl) rfl) rfl ?_
      refine wb_q 8 rfl (by kernel_rfl) (fun _ _ _ h => h) (Ent.of_split (by repeat (first | exact Split.all | exact Split.nil | (apply Split.keep; · ((repeat constructor); first | done | fail)) | (apply Split.take; · ((repeat constructor); first | done | fail)) | apply Split.drop))) (q_loadC rfl (by kernel_rfl) (by ((repeat constructor); first | done | fail)) (by rfl)) rfl ?_
      refine wb_q 9 rfl (by kernel_rfl) (fun _ _ _ h => h) (Ent.of_split (by repeat (first | exact Split.all | exact Split.nil | (apply Split.keep; · ((repeat constructor); first | done | fail)) | (apply Split.take; · ((repeat constructor); first | done | fail)) | apply Split.drop))) (q_len (e := 225) (by kernel_rfl) rfl) rfl ?_
      refine wb_q 10 rfl (by kernel_rfl) (fun _ _ _ h => h) (Ent.of_split (by repeat (first | exact Split.all | exact Split.nil | (apply Split.keep; · ((repeat constructor); first | done | fail)) | (apply Split.take; · ((repeat constructor); first | done | fail)) | apply Split.drop))) (q_sub rfl rfl ⟨by omega, by omega⟩) rfl ?_
      refine wb_q 11 rfl (by kernel_rfl) (fun _ _ _ h => h) (Ent.of_split (by repeat (first | exact Split.all | exact Split.nil | (apply Split.keep; · ((repeat constructor); first | done | fail)) | (apply Split.take; · ((repeat constructor); first | done | fail)) | apply Split.drop))) (by first | exact q_cutH (e := 225) (by kernel_rfl) (by kernel_rfl) rfl rfl (by ((repeat constructor); first | done | fail)) (by first | omega | (dsimp only; omega) | (simp only [Int.toNat_natCast, List.length_set, List.length_append, List.length_cons, List.length_nil] at *; omega)) (by first | omega | (dsimp only; omega) | (simp only [Int.toNat_natCast, List.length_set, List.length_append, List.length_cons, List.length_nil] at *; omega)) | exact q_cutHO (e := 225) (by kernel_rfl) (by kernel_rfl) rfl rfl (by ((repeat constructor); first | done | fail)) (by first | omega | (dsimp only; omega) | (simp only [Int.toNat_natCast, List.length_set, List.length_append, List.length_cons, List.length_nil] at *; omega)) (by first | omega | (dsimp only; omega) | (simp only [Int.toNat_natCast, List.length_set, List.length_append, List.length_cons, List.length_nil] at *; omega))) rfl ?_
      refine wb_one 12 (by kernel_rfl) rfl (LEv.of_q (by first | exact q_nilCheck rfl | exact q_nilCheckF rfl) rfl ?_)
      refine ⟨needs_no (by kernel_rfl), ?_⟩
      refine wb_one 13 (by kernel_rfl) rfl (LEv.of_q (q_fieldAddr (off := 0) (by kernel_rfl) rfl) rfl ?_)
      refine ⟨needs_no (by kernel_rfl), ?_⟩
      refine wb_one 14 (by kernel_rfl) rfl ?_
      first | refine lev_store1 rfl rfl rfl (by kernel_rfl) rfl rfl (by ((repeat constructor); first | done | fail)) (by rfl) ?_ | refine lev_storeA rfl rfl (by ((repeat constructor); first | done | fail)) (by rfl) (by kernel_rfl) (by first | exact TThing.one _ | exact TSpec.one _ | exact TTask.one _ | exact TArc.one _ | exact TBounds.one _ | exact fun u hu => List.all_eq_true.1 (rfl : List.all _ (·.oneCell') = true) u hu) rfl ?_
      refine ⟨needs_no (by kernel_rfl), ?_⟩
      refine wb_entL (upd_ent (A := Own TThing 225 s) (A' := Own TThing 225 ⟨s.A, s.c, s.xs.take ((s.xs.length : Int) - 1).toNat⟩) (by ((repeat constructor); first | done | fail)) (fun w R h => own_take h _)) ?_
      refine wb_done (by kernel_rfl) ?_
      refine wq_then ?_
      refine wc_seq ?_
      refine wc_seq ?_
      refine wc_region ?_
      refine wl_q (q_fieldAddr (off := 0) (by kernel_rfl) rfl) rfl ?_
      refine wl_q (q_loadC rfl (by kernel_rfl) (by ((repeat constructor); first | done | fail)) (by rfl)) rfl ?_
      refine wl_q (q_move rfl) rfl ?_
      refine wl_q (q_neq rfl rfl) rfl ?_
      refine wl_nil ?_
      refine wq_then ?_
      refine wc_cond _ rfl (fun hc55 => ?_) (fun hc55 => ?_)
      · have hc55_ := hc55; try simp only [decide_eq_true_eq, decide_eq_false_iff_not, Bool.not_eq_true', Bool.not_eq_false', Decidable.not_not, Int.not_lt, Int.not_le, Bool.and_eq_true, Bool.or_eq_true] at hc55_
        have hlt : i1 < s.xs.length - 1 := by
          rcases Nat.lt_or_ge i1 (s.xs.length - 1) with h | h
          · exact h
          · exfalso; apply hc55_; rw [← hk3, Int.toNat_natCast, show i1 = s.xs.length - 1 by omega]
        refine wc_region ?_
        refine wl_q (q_move rfl) rfl ?_
        refine wl_q (q_move rfl) rfl ?_
        refine wl_q (q_loadCA rfl (by ((repeat constructor); first | done | fail)) (by kernel_rfl)) rfl ?_
        refine wl_l (lev_callF (S_heap_fix hb m ⟨s.A, s.c, s.xs.take ((s.xs.length : Int) - 1).toNat⟩ (adel kv id) i1 (gt s.xs (s.xs.length - 1)) (by simp; omega) hx2) rfl rfl (by repeat (first | exact Split.nil | (apply Split.keep; · ((repeat constructor); first | done | fail)) | (apply Split.take; · ((repeat constructor); first | done | fail)) | apply Split.drop)) ?_)
        rintro v_ w_ ⟨rfl, hs44⟩
        (try simp only [List.cons_append, List.nil_append] at hs44)
        refine ⟨_, hs44, ?_⟩
        refine wl_nil ?_
        refine wq_then ?_
        refine wc_seq ?_
        refine wc_region ?_
        refine wl_q (q_assign rfl) rfl ?_
        refine wl_nil ?_
        refine wq_then ?_
        refine wc_ret ?_
        refine wq_ret rfl (RVs.tmp rfl RVs.nil) (fun w_ hs_ => ?_)
        rw [dropF_fix hi0 hc55_, hi0]
        rw [show s.xs.length - 1 = ((s.xs.length : Int) - 1).toNat by omega] at hs_ ⊢
        exact ⟨rfl, Split.use (by repeat (first | exact Split.nil | (apply Split.keep; · ((repeat constructor); first | done | fail)) | (apply Split.take; · ((repeat constructor); first | done | fail)) | apply Split.drop)) hs_⟩
      · have hc55_ := hc55; try simp only [decide_eq_true_eq, decide_eq_false_iff_not, Bool.not_eq_true', Bool.not_eq_false', Decidable.not_not, Int.not_lt, Int.not_le, Bool.and_eq_true, Bool.or_eq_true] at hc55_
        refine wc_skip ?_
        refine wq_then ?_
        refine wc_seq ?_
        refine wc_region ?_
        refine wl_q (q_assign rfl) rfl ?_
        refine wl_nil ?_
        refine wq_then ?_
        refine wc_ret ?_
        refine wq_ret rfl (RVs.tmp rfl RVs.nil) (fun w_ hs_ => ?_)
        rw [dropF_last hi0 hc55_, hi0]
        rw [show s.xs.length - 1 = ((s.xs.length : Int) - 1).toNat by omega]
        exact ⟨rfl, Split.use (by repeat (first | exact Split.nil | (apply Split.keep; · ((repeat constructor); first | done | fail)) | (apply Split.take; · ((repeat constructor); first | done | fail)) | apply Split.drop)) hs_⟩

def popF (l : List GThing) (kv : List (Int × Int)) : List GThing × List (Int × Int) := if l.isEmpty then (l, kv) else dropF l kv (headId l)

set_option maxHeartbeats 400000 in
theorem S_heap_Pop (hb m : Nat) (s : Sl GThing) (kv : List (Int × Int)) (hkv : hpOk s.xs kv) : Fn Try.prog 136 [.pointer (some ⟨hb, 0, none⟩)] [cb hb (hpc s m) 223, Own TThing 225 s, mpI m kv] (fun v_ S_ => v_ = .tuple [.int .i64 (headId s.xs), .bool (!s.xs.isEmpty)].toArray ∧ S_ [cb hb (hpc ⟨s.A, s.c, (popF s.xs kv).1⟩ m) 223, Own TThing 225 ⟨s.A, s.c, (popF s.xs kv).1⟩, mpI m (popF s.xs kv).2]) := by
  refine fn_intro (m := 17) (gs := [(0, .pointer (some ⟨hb, 0, none⟩))]) Try.func136 rfl rfl rfl rfl (fun t v h => gs_ok (by repeat (first | exact GsOk.nil | refine GsOk.cons (by rfl) ?_)) t v h) (fun F => cb hb (hpc s m) 223 :: Own TThing 225 s :: mpI m kv :: F) (fun _ => rfl) (fun E F => ?_)
  refine wc_seq ?_
  refine wc_region ?_
  refine wl_q (q_assign rfl) rfl ?_
  refine wl_q (q_assign rfl) rfl ?_
  refine wl_nil ?_
  refine wq_then ?_
  refine wc_seq ?_
  refine wc_region ?_
  refine wl_q (q_move rfl) rfl ?_
  refine wl_l (lev_callF (S_heap_First hb m s kv) rfl rfl (by repeat (first | exact Split.nil | (apply Split.keep; · ((repeat constructor); first | done | fail)) | (apply Split.take; · ((repeat constructor); first | done | fail)) | apply Split.drop)) ?_)
  rintro v_ w_ ⟨rfl, hs2⟩
  (try simp only [List.cons_append, List.nil_append] at hs2)
  refine ⟨_, hs2, ?_⟩
  refine wl_q (q_move rfl) rfl ?_
  refine wl_q (q_extract rfl rfl) rfl ?_
  refine wl_q (q_extract rfl rfl) rfl ?_
  refine wl_q (q_assign rfl) rfl ?_
  refine wl_q (q_assign rfl) rfl ?_
  refine wl_nil ?_
  refine wq_then ?_
  refine wc_seq ?_
  refine wc_seq ?_
  refine wc_region ?_
  refine wl_q (q_move rfl) rfl ?_
  refine wl_nil ?_
  refine wq_then ?_
  refine wc_cond _ rfl (fun hc11 => ?_) (fun hc11 => ?_)
  · have hc11_ := hc11; try simp only [decide_eq_true_eq, decide_eq_false_iff_not, Bool.not_eq_true', Bool.not_eq_false', Decidable.not_not, Int.not_lt, Int.not_le, Bool.and_eq_true, Bool.or_eq_true] at hc11_
    refine wc_region ?_
    refine wl_q (q_move rfl) rfl ?_
    refine wl_q (q_move rfl) rfl ?_
    refine wl_l (lev_callF (S_heap_Drop hb m s kv (headId s.xs) hkv) rfl rfl (by repeat (first | exact Split.nil | (apply Split.keep; · ((repeat constructor); first | done | fail)) | (apply Split.take; · ((repeat constructor); first | done | fail)) | apply Split.drop)) ?_)
    rintro v_ w_ ⟨rfl, hs6⟩
    (try simp only [List.cons_append, List.nil_append] at hs6)
    refine ⟨_, hs6, ?_⟩
    refine wl_nil ?_
    refine wq_then ?_
    refine wc_seq ?_
    refine wc_region ?_
    refine wl_q (q_move rfl) rfl ?_
    refine wl_q (q_move rfl) rfl ?_
    refine wl_q (q_assign rfl) rfl ?_
    refine wl_q (q_assign rfl) rfl ?_
    refine wl_nil ?_
    refine wq_then ?_
    refine wc_ret ?_
    refine wq_ret rfl (RVs.tmp rfl (RVs.tmp rfl RVs.nil)) (fun w_ hs_ => ?_)
    unfold popF
    rw [if_neg (by rw [← Bool.not_eq_true, ← Bool.not_eq_false'] at *; simpa using hc11_)]
    exact ⟨rfl, Split.use (by repeat (first | exact Split.nil | (apply Split.keep; · ((repeat constructor); first | done | fail)) | (apply Split.take; · ((repeat constructor); first | done | fail)) | apply Split.drop)) hs_⟩
  · have hc11_ := hc11; try simp only [decide_eq_true_eq, decide_eq_false_iff_not, Bool.not_eq_true', Bool.not_eq_false', Decidable.not_not, Int.not_lt, Int.not_le, Bool.and_eq_true, Bool.or_eq_true] at hc11_
    refine wc_skip ?_
    refine wq_then ?_
    refine wc_seq ?_
    refine wc_region ?_
    refine wl_q (q_move rfl) rfl ?_
    refine wl_q (q_move rfl) rfl ?_
    refine wl_q (q_assign rfl) rfl ?_
    refine wl_q (q_assign rfl) rfl ?_
    refine wl_nil ?_
    refine wq_then ?_
    refine wc_ret ?_
    refine wq_ret rfl (RVs.tmp rfl (RVs.tmp rfl RVs.nil)) (fun w_ hs_ => ?_)
    unfold popF
    rw [if_pos (by simpa using hc11_)]
    exact ⟨rfl, Split.use (by repeat (first | exact Split.nil | (apply Split.keep; · ((repeat constructor); first | done | fail)) | (apply Split.take; · ((repeat constructor); first | done | fail)) | apply Split.drop)) hs_⟩

set_option maxHeartbeats 400000 in
theorem S_heap_New  : Fn Try.prog 134 [] [] (fun v_ S_ => ∃ hb m, v_ = .pointer (some ⟨hb, 0, none⟩) ∧ S_ [cb hb (hpc Sl.nil m) 223, Own TThing 225 Sl.nil, mpI m []]) := by
  refine fn_intro (m := 4) (gs := []) Try.func134 rfl rfl rfl rfl (fun t v h => gs_ok (by repeat (first | exact GsOk.nil | refine GsOk.cons (by rfl) ?_)) t v h) (fun F => F) (fun _ => rfl) (fun E F => ?_)
  refine wc_seq ?_
  refine wc_region ?_
  refine wl_q (q_assign rfl) rfl ?_
  refine wl_nil ?_
  refine wq_then ?_
  refine wc_seq ?_
  refine wc_region ?_
  refine wl_l (lev_makeMapI rfl fun m => ?_)
  refine wl_q (q_build (zs := [(.slice none 0 0), (.map none)]) (z := .agg #[(.slice none 0 0), (.map none)]) (l := [_, _]) [(0, 1), (1, 1)] (by kernel_rfl) (by unfold zeroIs; kernel_rfl) rfl rfl (.cons rfl (us := [_]) rfl rfl rfl .nil)) rfl ?_
  refine wl_l (lev_box _ rfl rfl rfl fun hb => ?_)
  refine wl_q (q_assign rfl) rfl ?_
  refine wl_nil ?_
  refine wq_then ?_
  refine wc_ret ?_
  refine wq_ret rfl (RVs.tmp rfl RVs.nil) (fun w_ hs_ => ?_)
  have hs2 := sats.own_nil hs_ TThing 225
  exact ⟨hb, m, rfl, Split.use (by repeat (first | exact Split.nil | (apply Split.take; · ((repeat constructor); first | done | fail)) | apply Split.drop)) hs2⟩
end Go.Proofs.Ytlkmcdijioiddaa
