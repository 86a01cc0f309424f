/- Contracts of functions of the program, walked step by step. Not a proof of any statement by itself. -/
import Derived.Test.YtlkmcdijioiddaaSlW
import Derived.Test.YtlkmcdijioiddaaCompact
import Derived.Test.YtlkmcdijioiddaaHeapA
import Derived.Test.YtlkmcdijioiddaaGraphT
import Derived.Test.YtlkmcdijioiddaaProg
namespace Go.Proofs.Ytlkmcdijioiddaa
open Go.RowKit
set_option linter.unusedVariables false
set_option linter.unusedSimpArgs false
set_option maxRecDepth 100000

theorem rising_gi {l : List Int} (h : rising l) : ∀ i j : Int, 0 ≤ i → i ≤ j → j < l.length → gi l i ≤ gi l j := by
  intro i j h0 h1 h2
  by_cases e : i = j
  · subst e; exact Int.le_refl _
  · have hi := gi_get (l := l) (i := i) h0 (by omega)
    have hj := gi_get (l := l) (i := j) (by omega) h2
    rw [List.getElem?_eq_getElem (by omega)] at hi hj
    simp only [Option.some.injEq] at hi hj
    have := List.pairwise_iff_getElem.1 h i.toNat j.toNat (by omega) (by omega) (by omega)
    rw [hi, hj] at this; omega
def webc (nodes : Sl Int) (r1 r2 : Nat) : List Value := [nodes.val, .map (some r1), .map (some r2)]


set_option maxHeartbeats 400000 in
theorem S_graph_has (wb r1 r2 : Nat) (nodes : Sl Int) (n : Int) (hlen : nodes.xs.length ≤ 17592186044416) (hr : rising nodes.xs) : Fn Try.prog 133 [.pointer (some ⟨wb, 0, none⟩), .int .i64 n] [cb wb (webc nodes r1 r2) 186, per (Rd TInt nodes)] (fun v_ S_ => v_ = .bool (decide (n ∈ nodes.xs)) ∧ S_ [cb wb (webc nodes r1 r2) 186]) := by
  refine fn_intro (m := 17) (gs := [(0, .pointer (some ⟨wb, 0, none⟩)), (1, .int .i64 n)]) Try.func133 rfl rfl rfl rfl (fun t v h => gs_ok (by repeat (first | exact GsOk.nil | refine GsOk.cons (by rfl) ?_)) t v h) (fun F => cb wb (webc nodes r1 r2) 186 :: per (Rd TInt nodes) :: F) (fun _ => rfl) (fun E F => ?_)
  refine wc_seq ?_
  refine wc_region ?_
  refine wl_q (q_assign rfl) rfl ?_
  refine wl_nil ?_
  refine wq_then ?_
  refine wc_seq ?_
  refine wc_region ?_
  refine wl_q (q_move rfl) rfl ?_
  refine wl_q (by first | exact q_nilCheck rfl | exact q_nilCheckF rfl) rfl ?_
  refine wl_q (q_fieldAddr (off := 0) (by kernel_rfl) rfl) rfl ?_
  refine wl_q (q_loadC rfl (by kernel_rfl) (by ((repeat constructor); first | done | fail)) (by rfl)) rfl ?_
  refine wl_q (q_move rfl) rfl ?_
  refine wl_l (lev_callF (S_slices_BinarySearch _ _ hlen (rising_gi hr)) rfl rfl (by repeat (first | exact Split.nil | (apply Split.keep; · ((repeat constructor); first | done | fail)) | (apply Split.take; · ((repeat constructor); first | done | fail)) | apply Split.drop)) ?_)
  rintro v_ w_ ⟨i6, rfl, hi6, hs6⟩
  (try simp only [List.cons_append, List.nil_append] at hs6)
  refine ⟨_, hs6, ?_⟩
  refine wl_q (q_move rfl) rfl ?_
  refine wl_q (q_extract rfl rfl) rfl ?_
  refine wl_q (q_extract rfl rfl) rfl ?_
  refine wl_q (q_assign rfl) rfl ?_
  refine wl_q (q_assign rfl) rfl ?_
  refine wl_nil ?_
  refine wq_then ?_
  refine wc_seq ?_
  refine wc_region ?_
  refine wl_q (q_move rfl) rfl ?_
  refine wl_q (q_assign rfl) rfl ?_
  refine wl_nil ?_
  refine wq_then ?_
  refine wc_ret ?_
  refine wq_ret rfl (RVs.tmp rfl RVs.nil) (fun w_ hs_ => ?_)
  exact ⟨rfl, Split.use (by repeat (first | exact Split.nil | (apply Split.keep; · ((repeat constructor); first | done | fail)) | (apply Split.take; · ((repeat constructor); first | done | fail)) | apply Split.drop)) hs_⟩

set_option maxHeartbeats 400000 in
theorem S_graph_of (ids : Sl Int) (arcs : Sl GArc) (hi : ids.xs.length < 1099511627776) (ha : arcs.xs.length < 1099511627776) : Fn Try.prog 112 [ids.val, arcs.val] [per (Rd TInt ids), per (Rd TArc arcs)] (fun v_ S_ => ∃ wb r1 r2 nodes tl fr, v_ = .pointer (some ⟨wb, 0, none⟩) ∧ (nodes.xs = setOf ids.xs ∧ (∀ n, (sget tl n).xs = tosA (goodA nodes.xs arcs.xs) n) ∧ (∀ n, (aget fr n).getD 0 = (indeg (goodA nodes.xs arcs.xs) [] n : Int))) ∧ S_ [cb wb (webc nodes r1 r2) 186, per (Rd TInt nodes), mpS r1 tl, per (rdS tl), mpI r2 fr]) := by
  refine fn_intro (m := 70) (gs := [(0, ids.val), (1, arcs.val)]) Try.func112 rfl rfl rfl rfl (fun t v h => gs_ok (by repeat (first | exact GsOk.nil | refine GsOk.cons (by rfl) ?_)) t v h) (fun F => per (Rd TInt ids) :: per (Rd TArc arcs) :: F) (fun _ => rfl) (fun E F => ?_)
  refine wc_rdF (s := arcs) (by ((repeat constructor); first | done | fail)) fun hcap2 hbig3 hok => ?_
  have hbig2 := big_is
  obtain ⟨M_, hok⟩ := hok
  refine wc_seq ?_
  refine wc_region ?_
  refine wl_q (q_assign rfl) rfl ?_
  refine wl_nil ?_
  refine wq_then ?_
  refine wc_seq ?_
  refine wc_region ?_
  refine wl_q (q_move rfl) rfl ?_
  refine wl_l (lev_callF (S_slices_Clone ids hi) rfl rfl (by repeat (first | exact Split.nil | (apply Split.keep; · ((repeat constructor); first | done | fail)) | (apply Split.take; · ((repeat constructor); first | done | fail)) | apply Split.drop)) ?_)
  rintro v_ w_ ⟨s1, rfl, hx1, hs2⟩
  (try simp only [List.cons_append, List.nil_append] at hs2)
  refine ⟨_, hs2, ?_⟩
  refine wl_l (lev_makeMapS rfl fun r1 => ?_)
  refine wl_l (lev_makeMapI rfl fun r2 => ?_)
  refine wl_q (q_build (zs := [(.slice none 0 0), (.map none), (.map none)]) (z := .agg #[(.slice none 0 0), (.map none), (.map none)]) (l := [_, _, _]) [(0, 1), (1, 1), (2, 1)] (by kernel_rfl) (by unfold zeroIs; kernel_rfl) rfl rfl (.cons rfl (us := [_]) rfl rfl rfl (.cons rfl (us := [_]) rfl rfl rfl (.cons rfl (us := [_]) rfl rfl rfl .nil)))) rfl ?_
  refine wl_l (lev_box _ rfl rfl rfl fun wb => ?_)
  refine wl_q (q_assign rfl) rfl ?_
  refine wl_nil ?_
  refine wq_then ?_
  refine wc_seq ?_
  refine wc_region ?_
  refine wl_q (q_move rfl) rfl ?_
  refine wl_q (by first | exact q_nilCheck rfl | exact q_nilCheckF rfl) rfl ?_
  refine wl_q (q_fieldAddr (off := 0) (by kernel_rfl) rfl) rfl ?_
  refine wl_q (q_loadC rfl (by kernel_rfl) (by ((repeat constructor); first | done | fail)) (by rfl)) rfl ?_
  refine wl_l (lev_callF (S_slices_Sort s1 3) rfl rfl (by repeat (first | exact Split.nil | (apply Split.keep; · ((repeat constructor); first | done | fail)) | (apply Split.take; · ((repeat constructor); first | done | fail)) | apply Split.drop)) ?_)
  rintro v_ w_ ⟨rfl, hs14⟩
  (try simp only [List.cons_append, List.nil_append] at hs14)
  refine ⟨_, hs14, ?_⟩
  refine wl_nil ?_
  refine wq_then ?_
  refine wc_seq ?_
  refine wc_region ?_
  refine wl_q (q_move rfl) rfl ?_
  refine wl_q (q_move rfl) rfl ?_
  refine wl_q (by first | exact q_nilCheck rfl | exact q_nilCheckF rfl) rfl ?_
  refine wl_q (q_fieldAddr (off := 0) (by kernel_rfl) rfl) rfl ?_
  refine wl_q (q_loadC (v := Sl.val ⟨s1.A, s1.c, msort s1.xs⟩) rfl (by kernel_rfl) (by ((repeat constructor); first | done | fail)) (by show some s1.val = some _; rw [Sl.val_eq (msort_length s1.xs)])) rfl ?_
  refine wl_l (lev_callF (S_slices_Compact ⟨s1.A, s1.c, msort s1.xs⟩ 3) rfl rfl (by repeat (first | exact Split.nil | (apply Split.keep; · ((repeat constructor); first | done | fail)) | (apply Split.take; · ((repeat constructor); first | done | fail)) | apply Split.drop)) ?_)
  rintro v_ w_ ⟨rfl, hs19⟩
  (try simp only [List.cons_append, List.nil_append] at hs19)
  refine ⟨_, hs19, ?_⟩
  refine wl_q (by first | exact q_nilCheck rfl | exact q_nilCheckF rfl) rfl ?_
  refine wl_q (q_fieldAddr (off := 0) (by kernel_rfl) rfl) rfl ?_
  refine wl_l ?_
  first | refine lev_store1 rfl rfl rfl (by kernel_rfl) rfl rfl (by ((repeat constructor); first | done | fail)) (by rfl) ?_ | refine lev_storeA rfl rfl (by ((repeat constructor); first | done | fail)) (by rfl) (by kernel_rfl) (by first | exact TThing.one _ | exact TSpec.one _ | exact TTask.one _ | exact TArc.one _ | exact TBounds.one _ | exact fun u hu => List.all_eq_true.1 (rfl : List.all _ (·.oneCell') = true) u hu) rfl ?_
  refine wl_nil ?_
  refine wq_then ?_
  refine wc_seq ?_
  refine wc_seq ?_
  refine wc_entL (ent_rd (s := ⟨s1.A, s1.c, Lib.compact (msort s1.xs)⟩) (by ((repeat constructor); first | done | fail))) ?_
  generalize hnd : (⟨s1.A, s1.c, Lib.compact (msort s1.xs)⟩ : Sl Int) = nodes
  have hnx : nodes.xs = setOf ids.xs := by rw [← hnd, ← hx1]; rfl
  have hnl : nodes.xs.length ≤ 17592186044416 := by rw [hnx]; have := setOf_length ids.xs; omega
  have hnr : rising nodes.xs := by rw [hnx]; exact setOf_rising _
  refine wc_entL (fun w hs => (sats.true_put hs : sats E w (owns 3 [] :: _))) ?_
  refine wc_region ?_
  refine wl_q (q_move rfl) rfl ?_
  refine wl_q (q_len (e := 138) (by kernel_rfl) rfl) rfl ?_
  refine wl_q (q_move rfl) rfl ?_
  refine wl_nil ?_
  refine wq_then ?_
  refine wc_block ?_
  refine wc_loop (γ := (Int) × (List (Int × Sl Int)) × (List (Int × Int))) (fun g_ => (0 ≤ g_.1) ∧ (g_.1 ≤ arcs.xs.length) ∧ (∀ n, (sget g_.2.1 n).xs = tosA (goodA nodes.xs (arcs.xs.take g_.1.toNat)) n) ∧ (∀ n, (aget g_.2.2 n).getD 0 = (indeg (goodA nodes.xs (arcs.xs.take g_.1.toNat)) [] n : Int))) (fun g_ => [(5, .pointer (some ⟨wb, 0, none⟩)), (27, arcs.val), (28, .int .i64 arcs.xs.length), (29, .int .i64 g_.1)]) (fun g_ => cb wb (webc nodes r1 r2) 186 :: per (Rd TInt nodes) :: mpS r1 g_.2.1 :: owns 3 g_.2.1 :: mpI r2 g_.2.2 :: per (Rd TArc arcs) :: F) (fun g_ => ((arcs.xs.length : Int) - g_.1).toNat) ((0, [], [])) (⟨(show 0 ≤ (0 : Int) from (by omega)), (show (0 : Int) ≤ arcs.xs.length from (by omega)), (show ∀ n, (sget ([] : List (Int × Sl Int)) n).xs = tosA (goodA nodes.xs (arcs.xs.take (0 : Int).toNat)) n from fun n => rfl), (show ∀ n, (aget ([] : List (Int × Int)) n).getD 0 = (indeg (goodA nodes.xs (arcs.xs.take (0 : Int).toNat)) [] n : Int) from fun n => rfl)⟩) (by repeat (first | exact Sub.nil | refine Sub.cons (by rfl) ?_)) (Ent.of_split (by repeat (first | exact Split.all | exact Split.nil | (apply Split.keep; · ((repeat constructor); first | done | fail)) | (apply Split.take; · ((repeat constructor); first | done | fail)) | apply Split.drop))) ?_
  rintro ⟨i, tl, fr⟩ ⟨h0, h1, h2, h3⟩
  replace h0 : 0 ≤ i := h0
  replace h1 : i ≤ arcs.xs.length := h1
  replace h2 : ∀ n, (sget tl n).xs = tosA (goodA nodes.xs (arcs.xs.take i.toNat)) n := h2
  replace h3 : ∀ n, (aget fr n).getD 0 = (indeg (goodA nodes.xs (arcs.xs.take i.toNat)) [] n : Int) := h3
  refine wc_ent (gs := [(5, .pointer (some ⟨wb, 0, none⟩)), (27, arcs.val), (28, .int .i64 arcs.xs.length), (29, .int .i64 i)]) (by repeat (first | exact Sub.nil | refine Sub.cons (by rfl) ?_)) (L' := cb wb (webc nodes r1 r2) 186 :: per (Rd TInt nodes) :: mpS r1 tl :: owns 3 tl :: mpI r2 fr :: per (Rd TArc arcs) :: F) (Ent.refl _) ?_
  refine wc_seq ?_
  refine wc_region ?_
  refine wl_q (q_lss rfl rfl) rfl ?_
  refine wl_nil ?_
  refine wq_then ?_
  refine wc_seq ?_
  refine wc_cond _ rfl (fun hc30 => ?_) (fun hc30 => ?_)
  · have hc30_ := hc30; try simp only [decide_eq_true_eq, decide_eq_false_iff_not, Bool.not_eq_true', Bool.not_eq_false', Decidable.not_not, Int.not_lt, Int.not_le, Bool.and_eq_true, Bool.or_eq_true] at hc30_
    obtain ⟨x, hx⟩ : ∃ x, arcs.xs[i.toNat]? = some x := ⟨_, List.getElem?_eq_getElem (by omega)⟩
    have e1 : arcs.xs.take (i + 1).toNat = arcs.xs.take i.toNat ++ [x] := by rw [show (i + 1).toNat = i.toNat + 1 by omega]; exact take_succ' hx
    have hxo : TArc.ok M_ x := hok _ (List.mem_of_getElem? hx)
    have hgl := goodA_len nodes.xs (arcs.xs.take i.toNat)
    have htl : (arcs.xs.take i.toNat).length = i.toNat := by simp; omega
    refine wc_skip ?_
    refine wq_then ?_
    refine wc_seq ?_
    refine wc_block ?_
    refine wc_seq ?_
    refine wc_region ?_
    refine wl_q (by first | exact q_indexR (e := 138) (by kernel_rfl) (by kernel_rfl) rfl rfl (by ((repeat constructor); first | done | fail)) (by first | omega | (dsimp only; omega) | (simp only [Int.toNat_natCast, List.length_set, List.length_append, List.length_cons, List.length_nil] at *; omega)) (by first | omega | (dsimp only; omega) | (simp only [Int.toNat_natCast, List.length_set, List.length_append, List.length_cons, List.length_nil] at *; omega)) | exact q_indexO (e := 138) (by kernel_rfl) (by kernel_rfl) rfl rfl (by ((repeat constructor); first | done | fail)) (by first | omega | (dsimp only; omega) | (simp only [Int.toNat_natCast, List.length_set, List.length_append, List.length_cons, List.length_nil] at *; omega)) (by first | omega | (dsimp only; omega) | (simp only [Int.toNat_natCast, List.length_set, List.length_append, List.length_cons, List.length_nil] at *; omega))) rfl ?_
    refine wl_q (by first | exact q_elemRA rfl (by kernel_rfl) (by ((repeat constructor); first | done | fail)) (by assumption) | exact q_elemOA rfl (by kernel_rfl) (by ((repeat constructor); first | done | fail)) (by assumption)) rfl ?_
    refine wl_l (lev_alloc [(.int .i64 0), (.int .i64 0)] (.agg #[(.int .i64 0), (.int .i64 0)]) (by kernel_rfl) rfl rfl fun ab => ?_)
    refine wl_l ?_
    first | refine lev_store1 rfl rfl rfl (by kernel_rfl) rfl rfl (by ((repeat constructor); first | done | fail)) (by rfl) ?_ | refine lev_storeA rfl rfl (by ((repeat constructor); first | done | fail)) (by rfl) (by kernel_rfl) (by first | exact TThing.one _ | exact TSpec.one _ | exact TTask.one _ | exact TArc.one _ | exact TBounds.one _ | exact fun u hu => List.all_eq_true.1 (rfl : List.all _ (·.oneCell') = true) u hu) rfl ?_
    refine wl_nil ?_
    refine wq_then ?_
    refine wc_seq ?_
    refine wc_region ?_
    refine wl_q (q_move rfl) rfl ?_
    refine wl_q (q_fieldAddr (off := 0) (by kernel_rfl) rfl) rfl ?_
    refine wl_q (q_loadC rfl (by kernel_rfl) (by ((repeat constructor); first | done | fail)) (by rfl)) rfl ?_
    refine wl_l (lev_callF (S_graph_has wb r1 r2 nodes x.From hnl hnr) rfl rfl (by repeat (first | exact Split.nil | (apply Split.keep; · ((repeat constructor); first | done | fail)) | (apply Split.take; · ((repeat constructor); first | done | fail)) | apply Split.drop)) ?_)
    rintro v_ w_ ⟨rfl, hs35⟩
    (try simp only [List.cons_append, List.nil_append] at hs35)
    refine ⟨_, hs35, ?_⟩
    refine wl_q (q_move rfl) rfl ?_
    refine wl_split 37 _ rfl (fun hb37 => ?_) (fun hb37 => ?_)
    · have hb37_ := hb37; try simp only [decide_eq_true_eq, decide_eq_false_iff_not, Bool.not_eq_true', Bool.not_eq_false', Decidable.not_not, Int.not_lt, Int.not_le, Bool.and_eq_true, Bool.or_eq_true] at hb37_
      refine wl_g 37 rfl (lk_bool rfl hb37) (q_move rfl) rfl ?_
      refine wl_g 37 rfl (lk_bool rfl hb37) (q_fieldAddr (off := 1) (by kernel_rfl) rfl) rfl ?_
      refine wl_g 37 rfl (lk_bool rfl hb37) (q_loadC rfl (by kernel_rfl) (by ((repeat constructor); first | done | fail)) (by rfl)) rfl ?_
      refine wl_lg 37 rfl (lk_bool rfl hb37) (lev_callF (S_graph_has wb r1 r2 nodes x.To hnl hnr) rfl rfl (by repeat (first | exact Split.nil | (apply Split.keep; · ((repeat constructor); first | done | fail)) | (apply Split.take; · ((repeat constructor); first | done | fail)) | apply Split.drop)) ?_)
      rintro v_ w_ ⟨rfl, hs39⟩
      (try simp only [List.cons_append, List.nil_append] at hs39)
      refine ⟨_, hs39, ?_⟩
      refine wl_q (q_pickT rfl hb37 rfl) rfl ?_
      refine wl_nil ?_
      refine wq_then ?_
      refine wc_cond _ rfl (fun hc42 => ?_) (fun hc42 => ?_)
      · have hc42_ := hc42; try simp only [decide_eq_true_eq, decide_eq_false_iff_not, Bool.not_eq_true', Bool.not_eq_false', Decidable.not_not, Int.not_lt, Int.not_le, Bool.and_eq_true, Bool.or_eq_true] at hc42_
        have hgood : x.From ∈ nodes.xs ∧ x.To ∈ nodes.xs := ⟨hb37_, hc42_⟩
        have hq1 := tosA_len (goodA nodes.xs (arcs.xs.take i.toNat)) x.From
        have hq2 := indeg_len (goodA nodes.xs (arcs.xs.take i.toNat)) [] x.To
        have hq3 := h3 x.To
        have hq4 := h2 x.From
        have hq5 : (sget tl x.From).xs.length = (tosA (goodA nodes.xs (arcs.xs.take i.toNat)) x.From).length := by rw [hq4]
        refine wc_seq ?_
        refine wc_drawB [cb wb (webc nodes r1 r2) 186, cb ab (encArc x) 138, mpS r1 tl] [0, 1, 2, 3, 4, 5, 6, 7, 8, 9, 10, 11, 12, 13, 14] (by kernel_rfl) ?_
        refine wb_q 0 rfl (by kernel_rfl) (fun _ _ _ h => h) (Ent.of_split (by repeat (first | exact Split.all | exact Split.nil | (apply Split.keep; · ((repeat constructor); first | done | fail)) | (apply Split.take; · ((repeat constructor); first | done | fail)) | apply Split.drop))) (q_move rfl) rfl ?_
        refine wb_q 1 rfl (by kernel_rfl) (fun _ _ _ h => h) (Ent.of_split (by repeat (first | exact Split.all | exact Split.nil | (apply Split.keep; · ((repeat constructor); first | done | fail)) | (apply Split.take; · ((repeat constructor); first | done | fail)) | apply Split.drop))) (by first | exact q_nilCheck rfl | exact q_nilCheckF rfl) rfl ?_
        refine wb_q 2 rfl (by kernel_rfl) (fun _ _ _ h => h) (Ent.of_split (by repeat (first | exact Split.all | exact Split.nil | (apply Split.keep; · ((repeat constructor); first | done | fail)) | (apply Split.take; · ((repeat constructor); first | done | fail)) | apply Split.drop))) (q_fieldAddr (off := 1) (by kernel_rfl) rfl) rfl ?_
        refine wb_q 3 rfl (by kernel_rfl) (fun _ _ _ h => h) (Ent.of_split (by repeat (first | exact Split.all | exact Split.nil | (apply Split.keep; · ((repeat constructor); first | done | fail)) | (apply Split.take; · ((repeat constructor); first | done | fail)) | apply Split.drop))) (q_loadC rfl (by kernel_rfl) (by ((repeat constructor); first | done | fail)) (by rfl)) rfl ?_
        refine wb_q 4 rfl (by kernel_rfl) (fun _ _ _ h => h) (Ent.of_split (by repeat (first | exact Split.all | exact Split.nil | (apply Split.keep; · ((repeat constructor); first | done | fail)) | (apply Split.take; · ((repeat constructor); first | done | fail)) | apply Split.drop))) (q_fieldAddr (off := 0) (by kernel_rfl) rfl) rfl ?_
        refine wb_q 5 rfl (by kernel_rfl) (fun _ _ _ h => h) (Ent.of_split (by repeat (first | exact Split.all | exact Split.nil | (apply Split.keep; · ((repeat constructor); first | done | fail)) | (apply Split.take; · ((repeat constructor); first | done | fail)) | apply Split.drop))) (q_loadC rfl (by kernel_rfl) (by ((repeat constructor); first | done | fail)) (by rfl)) rfl ?_
        refine wb_q 6 rfl (by kernel_rfl) (fun _ _ _ h => h) (Ent.of_split (by repeat (first | exact Split.all | exact Split.nil | (apply Split.keep; · ((repeat constructor); first | done | fail)) | (apply Split.take; · ((repeat constructor); first | done | fail)) | apply Split.drop))) (q_move rfl) rfl ?_
        refine wb_q 7 rfl (by kernel_rfl) (fun _ _ _ h => h) (Ent.of_split (by repeat (first | exact Split.all | exact Split.nil | (apply Split.keep; · ((repeat constructor); first | done | fail)) | (apply Split.take; · ((repeat constructor); first | done | fail)) | apply Split.drop))) (by first | exact q_nilCheck rfl | exact q_nilCheckF rfl) rfl ?_
        refine wb_q 8 rfl (by kernel_rfl) (fun _ _ _ h => h) (Ent.of_split (by repeat (first | exact Split.all | exact Split.nil | (apply Split.keep; · ((repeat constructor); first | done | fail)) | (apply Split.take; · ((repeat constructor); first | done | fail)) | apply Split.drop))) (q_fieldAddr (off := 1) (by kernel_rfl) rfl) rfl ?_
        refine wb_q 9 rfl (by kernel_rfl) (fun _ _ _ h => h) (Ent.of_split (by repeat (first | exact Split.all | exact Split.nil | (apply Split.keep; · ((repeat constructor); first | done | fail)) | (apply Split.take; · ((repeat constructor); first | done | fail)) | apply Split.drop))) (q_loadC rfl (by kernel_rfl) (by ((repeat constructor); first | done | fail)) (by rfl)) rfl ?_
        refine wb_q 10 rfl (by kernel_rfl) (fun _ _ _ h => h) (Ent.of_split (by repeat (first | exact Split.all | exact Split.nil | (apply Split.keep; · ((repeat constructor); first | done | fail)) | (apply Split.take; · ((repeat constructor); first | done | fail)) | apply Split.drop))) (q_fieldAddr (off := 0) (by kernel_rfl) rfl) rfl ?_
        refine wb_q 11 rfl (by kernel_rfl) (fun _ _ _ h => h) (Ent.of_split (by repeat (first | exact Split.all | exact Split.nil | (apply Split.keep; · ((repeat constructor); first | done | fail)) | (apply Split.take; · ((repeat constructor); first | done | fail)) | apply Split.drop))) (q_loadC rfl (by kernel_rfl) (by ((repeat constructor); first | done | fail)) (by rfl)) rfl ?_
        refine wb_q 12 rfl (by kernel_rfl) (fun _ _ _ h => h) (Ent.of_split (by repeat (first | exact Split.all | exact Split.nil | (apply Split.keep; · ((repeat constructor); first | done | fail)) | (apply Split.take; · ((repeat constructor); first | done | fail)) | apply Split.drop))) (q_lookupS (kt := 3) (et := 27) (by kernel_rfl) (by kernel_rfl) (by unfold zeroIs; kernel_rfl) rfl rfl (by ((repeat constructor); first | done | fail))) rfl ?_
        refine wb_q 13 rfl (by kernel_rfl) (fun _ _ _ h => h) (Ent.of_split (by repeat (first | exact Split.all | exact Split.nil | (apply Split.keep; · ((repeat constructor); first | done | fail)) | (apply Split.take; · ((repeat constructor); first | done | fail)) | apply Split.drop))) (q_fieldAddr (off := 1) (by kernel_rfl) rfl) rfl ?_
        refine wb_q 14 rfl (by kernel_rfl) (fun _ _ _ h => h) (Ent.of_split (by repeat (first | exact Split.all | exact Split.nil | (apply Split.keep; · ((repeat constructor); first | done | fail)) | (apply Split.take; · ((repeat constructor); first | done | fail)) | apply Split.drop))) (q_loadC rfl (by kernel_rfl) (by ((repeat constructor); first | done | fail)) (by rfl)) rfl ?_
        refine wb_one 15 (by kernel_rfl) rfl (lev_buildSlice1 (e := 3) (us := [_]) (z := (.int .i64 0)) (by kernel_rfl) (by kernel_rfl) (by unfold zeroIs; kernel_rfl) rfl rfl rfl rfl rfl fun b54 => ?_)
        refine ⟨fun _ => (Ent.of_split (by repeat (first | exact Split.all | exact Split.nil | (apply Split.keep; · ((repeat constructor); first | done | fail)) | (apply Split.take; · ((repeat constructor); first | done | fail)) | apply Split.drop))), ?_⟩
        refine wb_entL (ent_ownsO x.From (by ((repeat constructor); first | done | fail))) ?_
        refine wb_one 16 (by kernel_rfl) rfl (lev_append1 (T := TInt) (e := 3) (z := (.int .i64 0)) (x.To) (by kernel_rfl) (by unfold zeroIs; kernel_rfl) (by kernel_rfl) rfl rfl 8 (by kernel_rfl) rfl rfl rfl (by ((repeat constructor); first | done | fail)) (by ((repeat constructor); first | done | fail)) rfl (.pure fun _ => hxo.2) (⟨by simp only [big_is]; omega, by omega, by decide⟩) fun s2 hs2 => ?_)
        refine ⟨fun _ => (Ent.of_split (by repeat (first | exact Split.all | exact Split.nil | (apply Split.keep; · ((repeat constructor); first | done | fail)) | (apply Split.take; · ((repeat constructor); first | done | fail)) | apply Split.drop))), ?_⟩
        refine wb_one 17 (by kernel_rfl) rfl (lev_mapUpdateS (kt := 3) (et := 27) (by kernel_rfl) (by kernel_rfl) rfl rfl rfl rfl (by ((repeat constructor); first | done | fail)) ?_)
        refine ⟨needs_no (by kernel_rfl), ?_⟩
        refine wb_entL (ent_ownsC x.From s2 (by ((repeat constructor); first | done | fail)) (by ((repeat constructor); first | done | fail))) ?_
        refine wb_done (by kernel_rfl) ?_
        refine wq_then ?_
        refine wc_drawL [0, 1, 2, 3, 4, 5, 6, 7] (by kernel_rfl) ?_
        refine wb_q 0 rfl (by kernel_rfl) (fun _ _ _ h => h) (Ent.refl _) (q_move rfl) rfl ?_
        refine wb_q 1 rfl (by kernel_rfl) (fun _ _ _ h => h) (Ent.refl _) (by first | exact q_nilCheck rfl | exact q_nilCheckF rfl) rfl ?_
        refine wb_q 2 rfl (by kernel_rfl) (fun _ _ _ h => h) (Ent.refl _) (q_fieldAddr (off := 2) (by kernel_rfl) rfl) rfl ?_
        refine wb_q 3 rfl (by kernel_rfl) (fun _ _ _ h => h) (Ent.refl _) (q_loadC rfl (by kernel_rfl) (by ((repeat constructor); first | done | fail)) (by rfl)) rfl ?_
        refine wb_q 4 rfl (by kernel_rfl) (fun _ _ _ h => h) (Ent.refl _) (q_fieldAddr (off := 1) (by kernel_rfl) rfl) rfl ?_
        refine wb_q 5 rfl (by kernel_rfl) (fun _ _ _ h => h) (Ent.refl _) (q_loadC rfl (by kernel_rfl) (by ((repeat constructor); first | done | fail)) (by rfl)) rfl ?_
        refine wb_q 6 rfl (by kernel_rfl) (fun _ _ _ h => h) (Ent.refl _) (q_lookupI (kt := 3) (et := 3) (by kernel_rfl) (by kernel_rfl) (by unfold zeroIs; kernel_rfl) rfl rfl (by ((repeat constructor); first | done | fail))) rfl ?_
        refine wb_q 7 rfl (by kernel_rfl) (fun _ _ _ h => h) (Ent.refl _) (q_add rfl rfl ⟨by omega, by omega⟩) rfl ?_
        refine wb_one 8 (by kernel_rfl) rfl (lev_mapUpdateI (kt := 3) (et := 3) (by kernel_rfl) (by kernel_rfl) rfl rfl rfl rfl (by ((repeat constructor); first | done | fail)) ?_)
        refine ⟨needs_no (by kernel_rfl), ?_⟩
        refine wb_done (by kernel_rfl) ?_
        refine wq_block_normal ?_
        refine wq_then ?_
        refine wc_region ?_
        refine wl_q (q_add rfl rfl ⟨by omega, by omega⟩) rfl ?_
        refine wl_q (q_move rfl) rfl ?_
        refine wl_nil ?_
        have hT : ∀ n, (sget (aset tl x.From s2) n).xs = tosA (goodA nodes.xs (arcs.xs.take (i + 1).toNat)) n := by
          intro n
          rw [e1, goodA_yes hgood, tosA_add, sget_aset]
          by_cases e : n = x.From
          · rw [if_pos e, if_pos e, hs2, h2, e]
          · rw [if_neg e, if_neg e]; exact h2 n
        have hF : ∀ n, (aget (aset fr x.To ((aget fr x.To).getD 0 + 1)) n).getD 0 = (indeg (goodA nodes.xs (arcs.xs.take (i + 1).toNat)) [] n : Int) := by
          intro n
          rw [e1, goodA_yes hgood, indeg_add, aget_aset]
          by_cases e : n = x.To
          · rw [if_pos e, if_pos e, Option.getD_some, h3 x.To, e]; omega
          · rw [if_neg e, if_neg e]; exact h3 n
        exact wq_meet ((i + 1, aset tl x.From s2, aset fr x.To ((aget fr x.To).getD 0 + 1))) (⟨⟨(show 0 ≤ (i + 1 : Int) from (by omega)), (show (i + 1 : Int) ≤ arcs.xs.length from (by omega)), (show ∀ n, (sget (aset tl x.From s2 : List (Int × Sl Int)) n).xs = tosA (goodA nodes.xs (arcs.xs.take (i + 1 : Int).toNat)) n from hT), (show ∀ n, (aget (aset fr x.To ((aget fr x.To).getD 0 + 1) : List (Int × Int)) n).getD 0 = (indeg (goodA nodes.xs (arcs.xs.take (i + 1 : Int).toNat)) [] n : Int) from hF)⟩, (show ((arcs.xs.length : Int) - (i + 1 : Int)).toNat < ((arcs.xs.length : Int) - i).toNat from (by omega))⟩) (by repeat (first | exact Sub.nil | refine Sub.cons (by rfl) ?_)) (Ent.of_split (by repeat (first | exact Split.all | exact Split.nil | (apply Split.keep; · ((repeat constructor); first | done | fail)) | (apply Split.take; · ((repeat constructor); first | done | fail)) | apply Split.drop)))
      · have hc42_ := hc42; try simp only [decide_eq_true_eq, decide_eq_false_iff_not, Bool.not_eq_true', Bool.not_eq_false', Decidable.not_not, Int.not_lt, Int.not_le, Bool.and_eq_true, Bool.or_eq_true] at hc42_
        refine wc_skip ?_
        refine wq_block_normal ?_
        refine wq_then ?_
        refine wc_region ?_
        refine wl_q (q_add rfl rfl ⟨by omega, by omega⟩) rfl ?_
        refine wl_q (q_move rfl) rfl ?_
        refine wl_nil ?_
        have hbad : ¬ (x.From ∈ nodes.xs ∧ x.To ∈ nodes.xs) := fun h => hc42_ h.2
        exact wq_meet ((i + 1, tl, fr)) (⟨⟨(show 0 ≤ (i + 1 : Int) from (by omega)), (show (i + 1 : Int) ≤ arcs.xs.length from (by omega)), (show ∀ n, (sget (tl : List (Int × Sl Int)) n).xs = tosA (goodA nodes.xs (arcs.xs.take (i + 1 : Int).toNat)) n from (fun n => by rw [e1, goodA_no hbad]; exact h2 n)), (show ∀ n, (aget (fr : List (Int × Int)) n).getD 0 = (indeg (goodA nodes.xs (arcs.xs.take (i + 1 : Int).toNat)) [] n : Int) from (fun n => by rw [e1, goodA_no hbad]; exact h3 n))⟩, (show ((arcs.xs.length : Int) - (i + 1 : Int)).toNat < ((arcs.xs.length : Int) - i).toNat from (by omega))⟩) (by repeat (first | exact Sub.nil | refine Sub.cons (by rfl) ?_)) (Ent.of_split (by repeat (first | exact Split.all | exact Split.nil | (apply Split.keep; · ((repeat constructor); first | done | fail)) | (apply Split.take; · ((repeat constructor); first | done | fail)) | apply Split.drop)))
    · have hb37_ := hb37; try simp only [decide_eq_true_eq, decide_eq_false_iff_not, Bool.not_eq_true', Bool.not_eq_false', Decidable.not_not, Int.not_lt, Int.not_le, Bool.and_eq_true, Bool.or_eq_true] at hb37_
      refine wl_skip 37 rfl (lk_bool rfl hb37) (by intro h; cases h) rfl ?_
      refine wl_skip 37 rfl (lk_bool rfl hb37) (by intro h; cases h) rfl ?_
      refine wl_skip 37 rfl (lk_bool rfl hb37) (by intro h; cases h) rfl ?_
      refine wl_skip 37 rfl (lk_bool rfl hb37) (by intro h; cases h) rfl ?_
      refine wl_q (q_pickF rfl hb37 rfl) rfl ?_
      refine wl_nil ?_
      refine wq_then ?_
      refine wc_condF _ rfl rfl ?_
      refine wc_skip ?_
      refine wq_block_normal ?_
      refine wq_then ?_
      refine wc_region ?_
      refine wl_q (q_add rfl rfl ⟨by omega, by omega⟩) rfl ?_
      refine wl_q (q_move rfl) rfl ?_
      refine wl_nil ?_
      have hbad : ¬ (x.From ∈ nodes.xs ∧ x.To ∈ nodes.xs) := fun h => hb37_ h.1
      exact wq_meet ((i + 1, tl, fr)) (⟨⟨(show 0 ≤ (i + 1 : Int) from (by omega)), (show (i + 1 : Int) ≤ arcs.xs.length from (by omega)), (show ∀ n, (sget (tl : List (Int × Sl Int)) n).xs = tosA (goodA nodes.xs (arcs.xs.take (i + 1 : Int).toNat)) n from (fun n => by rw [e1, goodA_no hbad]; exact h2 n)), (show ∀ n, (aget (fr : List (Int × Int)) n).getD 0 = (indeg (goodA nodes.xs (arcs.xs.take (i + 1 : Int).toNat)) [] n : Int) from (fun n => by rw [e1, goodA_no hbad]; exact h3 n))⟩, (show ((arcs.xs.length : Int) - (i + 1 : Int)).toNat < ((arcs.xs.length : Int) - i).toNat from (by omega))⟩) (by repeat (first | exact Sub.nil | refine Sub.cons (by rfl) ?_)) (Ent.of_split (by repeat (first | exact Split.all | exact Split.nil | (apply Split.keep; · ((repeat constructor); first | done | fail)) | (apply Split.take; · ((repeat constructor); first | done | fail)) | apply Split.drop)))
  · have hc30_ := hc30; try simp only [decide_eq_true_eq, decide_eq_false_iff_not, Bool.not_eq_true', Bool.not_eq_false', Decidable.not_not, Int.not_lt, Int.not_le, Bool.and_eq_true, Bool.or_eq_true] at hc30_
    have he : i = arcs.xs.length := by omega
    have e0 : arcs.xs.take i.toNat = arcs.xs := by rw [he]; simp
    rw [e0] at h2 h3
    refine wc_exit ?_
    refine wq_then_exit ?_
    refine wq_then_exit ?_
    refine wq_block_exit ?_
    refine wq_then ?_
    refine wc_seq ?_
    refine wc_region ?_
    refine wl_q (q_move rfl) rfl ?_
    refine wl_q (q_assign rfl) rfl ?_
    refine wl_nil ?_
    refine wq_then ?_
    refine wc_ret ?_
    refine wq_ret rfl (RVs.tmp rfl RVs.nil) (fun w_ hs_ => ?_)
    replace hs_ := ent_ownsR (e := 3) (l := tl) (by ((repeat constructor); first | done | fail)) w_ hs_
    exact ⟨wb, r1, r2, nodes, tl, fr, rfl, ⟨hnx, h2, h3⟩, Split.use (by repeat (first | exact Split.nil | (apply Split.keep; · ((repeat constructor); first | done | fail)) | (apply Split.take; · ((repeat constructor); first | done | fail)) | apply Split.drop)) hs_⟩

theorem take_not_mem {l : List Int} (h : rising l) {i : Nat} {x : Int} (hx : l[i]? = some x) : x ∉ l.take i := fun hm => by
  obtain ⟨j, hj, e⟩ := List.mem_iff_getElem.1 hm
  simp only [List.length_take] at hj
  rw [List.getElem_take] at e
  have hi : i < l.length := by
    rcases Nat.lt_or_ge i l.length with h | h
    · exact h
    · rw [List.getElem?_eq_none h] at hx; cases hx
  rw [List.getElem?_eq_getElem hi] at hx
  simp only [Option.some.injEq] at hx
  have := List.pairwise_iff_getElem.1 h j i (by omega) hi (by omega)
  omega
theorem inZ : inI64 0 := ⟨by omega, by omega⟩

set_option maxHeartbeats 1000000 in
theorem S_graph_order (wb r1 r2 : Nat) (nodes : Sl Int) (tl : List (Int × Sl Int)) (fr : List (Int × Int)) (g : List GArc) (f : FuncId) (cap : List Value) (J : List Int → HP) (hnl : nodes.xs.length < 1099511627776) (hgl : g.length < 1099511627776) (hr : rising nodes.xs) (hg : ∀ a ∈ g, a.To ∈ nodes.xs) (hto : ∀ n, (sget tl n).xs = tosA g n) (hfr : ∀ n, (aget fr n).getD 0 = (indeg g [] n : Int)) (hsee : ∀ out n lv, inI64 n → out.length < nodes.xs.length → Fn Try.prog f ([.int .i64 n, .int .i64 lv] ++ cap) [J out] (fun v S => v = .tuple #[] ∧ S [J (out ++ [n])])) : Fn Try.prog 113 [.pointer (some ⟨wb, 0, none⟩), .func (.func f) #[] cap.toArray] [cb wb (webc nodes r1 r2) 186, per (Rd TInt nodes), mpS r1 tl, per (rdS tl), mpI r2 fr, J []] (fun v_ S_ => ∃ fr', v_ = .tuple #[] ∧ (∀ n, (aget fr' n).getD 0 = (indeg g (topo nodes.xs g) n : Int)) ∧ S_ [cb wb (webc nodes r1 r2) 186, per (Rd TInt nodes), mpS r1 tl, per (rdS tl), mpI r2 fr', J (topo nodes.xs g)]) := by
  refine fn_intro (m := 88) (gs := [(0, .pointer (some ⟨wb, 0, none⟩)), (1, .func (.func f) #[] cap.toArray)]) Try.func113 rfl rfl rfl rfl (fun t v h => gs_ok (by repeat (first | exact GsOk.nil | refine GsOk.cons (by rfl) ?_)) t v h) (fun F => cb wb (webc nodes r1 r2) 186 :: per (Rd TInt nodes) :: mpS r1 tl :: per (rdS tl) :: mpI r2 fr :: J [] :: F) (fun _ => rfl) (fun E F => ?_)
  refine wc_rdF (s := nodes) (by ((repeat constructor); first | done | fail)) fun hcap2 hbig3 hok => ?_
  have hbig2 := big_is
  obtain ⟨M_, hok⟩ := hok
  refine wc_jumpsE 0 rfl (γ := (Nat) × (Nat) × (Nat) × (List Int) × (Sl GThing) × (List (Int × Int)) × (List (Int × Int)) × (List (Int × Int))) (fun g_ => (ordI nodes.xs g g_.2.2.2.1 [] g_.2.2.2.2.1.xs g_.2.2.2.2.2.1 g_.2.2.2.2.2.2.1)) (fun g_ => [(0, .pointer (some ⟨wb, 0, none⟩)), (1, .func (.func f) #[] cap.toArray), (4, .pointer (some ⟨g_.1, 0, none⟩)), (5, .map (some g_.2.2.1))]) (fun g_ => cb wb (webc nodes r1 r2) 186 :: per (Rd TInt nodes) :: mpS r1 tl :: per (rdS tl) :: mpI r2 g_.2.2.2.2.2.2.1 :: cb g_.1 (hpc g_.2.2.2.2.1 g_.2.1) 223 :: Own TThing 225 g_.2.2.2.2.1 :: mpI g_.2.1 g_.2.2.2.2.2.1 :: mpI g_.2.2.1 g_.2.2.2.2.2.2.2 :: J g_.2.2.2.1 :: F) (fun g_ => nodes.xs.length - g_.2.2.2.1.length) (fun hround => ?_) ?_
  · skip
    refine wc_seq ?_
    refine wc_region ?_
    refine wl_l (lev_callF (S_heap_New) rfl rfl (by repeat (first | exact Split.nil | (apply Split.keep; · ((repeat constructor); first | done | fail)) | (apply Split.take; · ((repeat constructor); first | done | fail)) | apply Split.drop)) ?_)
    rintro v_ w_ ⟨hb, m, rfl, hs1⟩
    (try simp only [List.cons_append, List.nil_append] at hs1)
    refine ⟨_, hs1, ?_⟩
    refine wl_l (lev_makeMapI rfl fun lm => ?_)
    refine wl_q (q_assign rfl) rfl ?_
    refine wl_q (q_assign rfl) rfl ?_
    refine wl_nil ?_
    refine wq_then ?_
    refine wc_seq ?_
    refine wc_seq ?_
    refine wc_region ?_
    refine wl_q (q_move rfl) rfl ?_
    refine wl_q (by first | exact q_nilCheck rfl | exact q_nilCheckF rfl) rfl ?_
    refine wl_q (q_fieldAddr (off := 0) (by kernel_rfl) rfl) rfl ?_
    refine wl_q (q_loadC rfl (by kernel_rfl) (by ((repeat constructor); first | done | fail)) (by rfl)) rfl ?_
    refine wl_q (q_len (e := 3) (by kernel_rfl) rfl) rfl ?_
    refine wl_q (q_move rfl) rfl ?_
    refine wl_nil ?_
    refine wq_then ?_
    refine wc_block ?_
    refine wc_loop (γ := (Int) × (Sl GThing) × (List (Int × Int))) (fun g_ => (0 ≤ g_.1) ∧ (g_.1 ≤ nodes.xs.length) ∧ (ordS nodes.xs g (nodes.xs.take g_.1.toNat) g_.2.1.xs g_.2.2)) (fun g_ => [(0, .pointer (some ⟨wb, 0, none⟩)), (1, .func (.func f) #[] cap.toArray), (4, .pointer (some ⟨hb, 0, none⟩)), (5, .map (some lm)), (17, nodes.val), (18, .int .i64 nodes.xs.length), (19, .int .i64 g_.1)]) (fun g_ => cb wb (webc nodes r1 r2) 186 :: per (Rd TInt nodes) :: mpS r1 tl :: per (rdS tl) :: mpI r2 fr :: cb hb (hpc g_.2.1 m) 223 :: Own TThing 225 g_.2.1 :: mpI m g_.2.2 :: mpI lm [] :: J [] :: F) (fun g_ => ((nodes.xs.length : Int) - g_.1).toNat) ((0, Sl.nil, [])) (⟨(show 0 ≤ (0 : Int) from (by omega)), (show (0 : Int) ≤ nodes.xs.length from (by omega)), (show ordS nodes.xs g (nodes.xs.take (0 : Int).toNat) (Sl.nil : Sl GThing).xs ([] : List (Int × Int)) from ordS_nil _ _)⟩) (by repeat (first | exact Sub.nil | refine Sub.cons (by rfl) ?_)) (Ent.of_split (by repeat (first | exact Split.all | exact Split.nil | (apply Split.keep; · ((repeat constructor); first | done | fail)) | (apply Split.take; · ((repeat constructor); first | done | fail)) | apply Split.drop))) ?_
    rintro ⟨j, s, kv⟩ ⟨hj0, hj1, hS⟩
    replace hj0 : 0 ≤ j := hj0
    replace hj1 : j ≤ nodes.xs.length := hj1
    replace hS : ordS nodes.xs g (nodes.xs.take j.toNat) s.xs kv := hS
    refine wc_ent (gs := [(0, .pointer (some ⟨wb, 0, none⟩)), (1, .func (.func f) #[] cap.toArray), (4, .pointer (some ⟨hb, 0, none⟩)), (5, .map (some lm)), (17, nodes.val), (18, .int .i64 nodes.xs.length), (19, .int .i64 j)]) (by repeat (first | exact Sub.nil | refine Sub.cons (by rfl) ?_)) (L' := cb wb (webc nodes r1 r2) 186 :: per (Rd TInt nodes) :: mpS r1 tl :: per (rdS tl) :: mpI r2 fr :: cb hb (hpc s m) 223 :: Own TThing 225 s :: mpI m kv :: mpI lm [] :: J [] :: F) (Ent.refl _) ?_
    refine wc_seq ?_
    refine wc_region ?_
    refine wl_q (q_lss rfl rfl) rfl ?_
    refine wl_nil ?_
    refine wq_then ?_
    refine wc_seq ?_
    refine wc_cond _ rfl (fun hc20 => ?_) (fun hc20 => ?_)
    · have hc20_ := hc20; try simp only [decide_eq_true_eq, decide_eq_false_iff_not, Bool.not_eq_true', Bool.not_eq_false', Decidable.not_not, Int.not_lt, Int.not_le, Bool.and_eq_true, Bool.or_eq_true] at hc20_
      have hx0 := gi_get (l := nodes.xs) (i := j) (by omega) (by omega)
      have e1 : nodes.xs.take (j + 1).toNat = nodes.xs.take j.toNat ++ [gi nodes.xs j] := by rw [show (j + 1).toNat = j.toNat + 1 by omega]; exact take_succ' hx0
      have hnd := take_not_mem hr hx0
      have hxo : inI64 (gi nodes.xs j) := hok _ (List.mem_of_getElem? hx0)
      have hq3 := hfr (gi nodes.xs j)
      refine wc_skip ?_
      refine wq_then ?_
      refine wc_seq ?_
      refine wc_block ?_
      refine wc_seq ?_
      refine wc_region ?_
      refine wl_q (by first | exact q_indexR (e := 3) (by kernel_rfl) (by kernel_rfl) rfl rfl (by ((repeat constructor); first | done | fail)) (by first | omega | (dsimp only; omega) | (simp only [Int.toNat_natCast, List.length_set, List.length_append, List.length_cons, List.length_nil] at *; omega)) (by first | omega | (dsimp only; omega) | (simp only [Int.toNat_natCast, List.length_set, List.length_append, List.length_cons, List.length_nil] at *; omega)) | exact q_indexO (e := 3) (by kernel_rfl) (by kernel_rfl) rfl rfl (by ((repeat constructor); first | done | fail)) (by first | omega | (dsimp only; omega) | (simp only [Int.toNat_natCast, List.length_set, List.length_append, List.length_cons, List.length_nil] at *; omega)) (by first | omega | (dsimp only; omega) | (simp only [Int.toNat_natCast, List.length_set, List.length_append, List.length_cons, List.length_nil] at *; omega))) rfl ?_
      refine wl_q (by first | exact q_elemR1 (T := TInt) rfl (by kernel_rfl) (by ((repeat constructor); first | done | fail)) (gi_get (by omega) (by omega)) rfl | exact q_elemO1 (T := TInt) rfl (by kernel_rfl) (by ((repeat constructor); first | done | fail)) (gi_get (by omega) (by omega)) rfl) rfl ?_
      refine wl_q (q_assign rfl) rfl ?_
      refine wl_nil ?_
      refine wq_then ?_
      refine wc_seq ?_
      refine wc_region ?_
      refine wl_q (q_move rfl) rfl ?_
      refine wl_q (by first | exact q_nilCheck rfl | exact q_nilCheckF rfl) rfl ?_
      refine wl_q (q_fieldAddr (off := 2) (by kernel_rfl) rfl) rfl ?_
      refine wl_q (q_loadC rfl (by kernel_rfl) (by ((repeat constructor); first | done | fail)) (by rfl)) rfl ?_
      refine wl_q (q_move rfl) rfl ?_
      refine wl_q (q_lookupI (kt := 3) (et := 3) (by kernel_rfl) (by kernel_rfl) (by unfold zeroIs; kernel_rfl) rfl rfl (by ((repeat constructor); first | done | fail))) rfl ?_
      refine wl_q (q_eql rfl rfl) rfl ?_
      refine wl_nil ?_
      refine wq_then ?_
      refine wc_cond _ rfl (fun hc29 => ?_) (fun hc29 => ?_)
      · have hc29_ := hc29; try simp only [decide_eq_true_eq, decide_eq_false_iff_not, Bool.not_eq_true', Bool.not_eq_false', Decidable.not_not, Int.not_lt, Int.not_le, Bool.and_eq_true, Bool.or_eq_true] at hc29_
        refine wc_region ?_
        refine wl_q (q_move rfl) rfl ?_
        refine wl_q (q_move rfl) rfl ?_
        refine wl_q (q_move rfl) rfl ?_
        refine wl_l (lev_callF (S_heap_Put hb m s kv (gi nodes.xs j) 0 (gi nodes.xs j) ⟨hxo, inZ, hxo⟩ (by have := hS.len; simp at this; omega) hS.hp.ok) rfl rfl (by repeat (first | exact Split.nil | (apply Split.keep; · ((repeat constructor); first | done | fail)) | (apply Split.take; · ((repeat constructor); first | done | fail)) | apply Split.drop)) ?_)
        rintro v_ w_ ⟨s2, rfl, hx2, hs20⟩
        (try simp only [List.cons_append, List.nil_append] at hs20)
        refine ⟨_, hs20, ?_⟩
        refine wl_nil ?_
        refine wq_block_normal ?_
        refine wq_then ?_
        refine wc_region ?_
        refine wl_q (q_add rfl rfl ⟨by omega, by omega⟩) rfl ?_
        refine wl_q (q_move rfl) rfl ?_
        refine wl_nil ?_
        exact wq_meet ((j + 1, s2, (putF s.xs kv ⟨(gi nodes.xs j), 0, (gi nodes.xs j)⟩).2)) (⟨⟨(show 0 ≤ (j + 1 : Int) from (by omega)), (show (j + 1 : Int) ≤ nodes.xs.length from (by omega)), (show ordS nodes.xs g (nodes.xs.take (j + 1 : Int).toNat) (s2 : Sl GThing).xs ((putF s.xs kv ⟨(gi nodes.xs j), 0, (gi nodes.xs j)⟩).2 : List (Int × Int)) from (by rw [e1, hx2]; exact (hS.yes hnd (by omega)).2))⟩, (show ((nodes.xs.length : Int) - (j + 1 : Int)).toNat < ((nodes.xs.length : Int) - j).toNat from (by omega))⟩) (by repeat (first | exact Sub.nil | refine Sub.cons (by rfl) ?_)) (Ent.of_split (by repeat (first | exact Split.all | exact Split.nil | (apply Split.keep; · ((repeat constructor); first | done | fail)) | (apply Split.take; · ((repeat constructor); first | done | fail)) | apply Split.drop)))
      · have hc29_ := hc29; try simp only [decide_eq_true_eq, decide_eq_false_iff_not, Bool.not_eq_true', Bool.not_eq_false', Decidable.not_not, Int.not_lt, Int.not_le, Bool.and_eq_true, Bool.or_eq_true] at hc29_
        refine wc_skip ?_
        refine wq_block_normal ?_
        refine wq_then ?_
        refine wc_region ?_
        refine wl_q (q_add rfl rfl ⟨by omega, by omega⟩) rfl ?_
        refine wl_q (q_move rfl) rfl ?_
        refine wl_nil ?_
        exact wq_meet ((j + 1, s, kv)) (⟨⟨(show 0 ≤ (j + 1 : Int) from (by omega)), (show (j + 1 : Int) ≤ nodes.xs.length from (by omega)), (show ordS nodes.xs g (nodes.xs.take (j + 1 : Int).toNat) (s : Sl GThing).xs (kv : List (Int × Int)) from (by rw [e1]; exact hS.no (by omega)))⟩, (show ((nodes.xs.length : Int) - (j + 1 : Int)).toNat < ((nodes.xs.length : Int) - j).toNat from (by omega))⟩) (by repeat (first | exact Sub.nil | refine Sub.cons (by rfl) ?_)) (Ent.of_split (by repeat (first | exact Split.all | exact Split.nil | (apply Split.keep; · ((repeat constructor); first | done | fail)) | (apply Split.take; · ((repeat constructor); first | done | fail)) | apply Split.drop)))
    · have hc20_ := hc20; try simp only [decide_eq_true_eq, decide_eq_false_iff_not, Bool.not_eq_true', Bool.not_eq_false', Decidable.not_not, Int.not_lt, Int.not_le, Bool.and_eq_true, Bool.or_eq_true] at hc20_
      have e0 : nodes.xs.take j.toNat = nodes.xs := by rw [show j.toNat = nodes.xs.length by omega]; simp
      rw [e0] at hS
      refine wc_exit ?_
      refine wq_then_exit ?_
      refine wq_then_exit ?_
      refine wq_block_exit ?_
      refine wq_then ?_
      refine wc_seq ?_
      refine wc_label ?_
      refine wq_then ?_
      exact wc_enter hround ((hb, m, lm, [], s, kv, fr, [])) ((show ordI nodes.xs g ([] : List Int) [] (s : Sl GThing).xs (kv : List (Int × Int)) (fr : List (Int × Int)) from hS.go hfr)) (by repeat (first | exact Sub.nil | refine Sub.cons (by rfl) ?_)) (Ent.of_split (by repeat (first | exact Split.all | exact Split.nil | (apply Split.keep; · ((repeat constructor); first | done | fail)) | (apply Split.take; · ((repeat constructor); first | done | fail)) | apply Split.drop)))
  · rintro ⟨hb, m, lm, out, s, kv, fr1, lev⟩ hO
    replace hO : ordI nodes.xs g out [] s.xs kv fr1 := hO
    refine wc_ent (gs := [(0, .pointer (some ⟨wb, 0, none⟩)), (1, .func (.func f) #[] cap.toArray), (4, .pointer (some ⟨hb, 0, none⟩)), (5, .map (some lm))]) (by repeat (first | exact Sub.nil | refine Sub.cons (by rfl) ?_)) (L' := cb wb (webc nodes r1 r2) 186 :: per (Rd TInt nodes) :: mpS r1 tl :: per (rdS tl) :: mpI r2 fr1 :: cb hb (hpc s m) 223 :: Own TThing 225 s :: mpI m kv :: mpI lm lev :: J out :: F) (Ent.refl _) ?_
    refine wc_mpF (r := m) (l := kv) (by ((repeat constructor); first | done | fail)) fun hnd => ?_
    refine wc_seq ?_
    refine wc_region ?_
    refine wl_q (q_move rfl) rfl ?_
    refine wl_l (lev_callF (S_heap_Pop hb m s kv hO.hp.ok) rfl rfl (by repeat (first | exact Split.nil | (apply Split.keep; · ((repeat constructor); first | done | fail)) | (apply Split.take; · ((repeat constructor); first | done | fail)) | apply Split.drop)) ?_)
    rintro v_ w_ ⟨rfl, hs25⟩
    (try simp only [List.cons_append, List.nil_append] at hs25)
    refine ⟨_, hs25, ?_⟩
    refine wl_q (q_move rfl) rfl ?_
    refine wl_q (q_extract rfl rfl) rfl ?_
    refine wl_q (q_extract rfl rfl) rfl ?_
    refine wl_q (q_assign rfl) rfl ?_
    refine wl_q (q_assign rfl) rfl ?_
    refine wl_nil ?_
    refine wq_then ?_
    refine wc_seq ?_
    refine wc_seq ?_
    refine wc_region ?_
    refine wl_q (q_move rfl) rfl ?_
    refine wl_q (q_not rfl) rfl ?_
    refine wl_nil ?_
    refine wq_then ?_
    refine wc_cond _ rfl (fun hc41 => ?_) (fun hc41 => ?_)
    · have hc41_ := hc41; try simp only [decide_eq_true_eq, decide_eq_false_iff_not, Bool.not_eq_true', Bool.not_eq_false', Decidable.not_not, Int.not_lt, Int.not_le, Bool.and_eq_true, Bool.or_eq_true] at hc41_
      have he : s.xs = [] := by simpa using hc41_
      have hend : out = topo nodes.xs g := ordI.stop (he ▸ hO)
      refine wc_ret ?_
      refine wq_then_ret ?_
      refine wq_jump_ret ?_
      refine wq_ret rfl RVs.nil (fun w_ hs_ => ?_)
      refine ⟨fr1, rfl, fun n => by rw [← hend]; have := hO.fr n; simpa using this, ?_⟩
      rw [← hend]
      exact Split.use (by repeat (first | exact Split.nil | (apply Split.keep; · ((repeat constructor); first | done | fail)) | (apply Split.take; · ((repeat constructor); first | done | fail)) | apply Split.drop)) hs_
    · have hc41_ := hc41; try simp only [decide_eq_true_eq, decide_eq_false_iff_not, Bool.not_eq_true', Bool.not_eq_false', Decidable.not_not, Int.not_lt, Int.not_le, Bool.and_eq_true, Bool.or_eq_true] at hc41_
      have hne : s.xs ≠ [] := by simpa using hc41_
      obtain ⟨hP, hn1, hn2⟩ := hO.pop hr hg hnd hne
      generalize hn : headId s.xs = n at hP hn1 hn2 ⊢
      have hn64 : inI64 n := hok _ hn1
      have hlt : out.length < nodes.xs.length := by have := hP.len.2; simp at this; omega
      refine wc_skip ?_
      refine wq_then ?_
      refine wc_seq ?_
      refine wc_region ?_
      refine wl_q (q_move rfl) rfl ?_
      refine wl_q (q_move rfl) rfl ?_
      refine wl_q (q_move rfl) rfl ?_
      refine wl_q (q_move rfl) rfl ?_
      refine wl_q (q_lookupI (kt := 3) (et := 3) (by kernel_rfl) (by kernel_rfl) (by unfold zeroIs; kernel_rfl) rfl rfl (by ((repeat constructor); first | done | fail))) rfl ?_
      refine wl_l (lev_call (first := []) (cap := cap) (hsee out n _ hn64 hlt) rfl rfl rfl (by repeat (first | exact Split.nil | (apply Split.keep; · ((repeat constructor); first | done | fail)) | (apply Split.take; · ((repeat constructor); first | done | fail)) | apply Split.drop)) ?_)
      rintro v_ w_ ⟨rfl, hs33⟩
      (try simp only [List.cons_append, List.nil_append] at hs33)
      refine ⟨_, hs33, ?_⟩
      refine wl_nil ?_
      refine wq_then ?_
      refine wc_seq ?_
      refine wc_seq ?_
      refine wc_region ?_
      refine wl_q (q_move rfl) rfl ?_
      refine wl_q (by first | exact q_nilCheck rfl | exact q_nilCheckF rfl) rfl ?_
      refine wl_q (q_fieldAddr (off := 1) (by kernel_rfl) rfl) rfl ?_
      refine wl_q (q_loadC rfl (by kernel_rfl) (by ((repeat constructor); first | done | fail)) (by rfl)) rfl ?_
      refine wl_q (q_move rfl) rfl ?_
      refine wl_q (q_lookupS (kt := 3) (et := 27) (by kernel_rfl) (by kernel_rfl) (by unfold zeroIs; kernel_rfl) rfl rfl (by ((repeat constructor); first | done | fail))) rfl ?_
      refine wl_q (q_len (e := 3) (by kernel_rfl) rfl) rfl ?_
      refine wl_q (q_move rfl) rfl ?_
      have hlen2 : (sget tl n).xs.length ≤ g.length := by rw [hto]; exact tosA_len g n
      refine wl_entL (ent_rdS n (by ((repeat constructor); first | done | fail))) ?_
      refine wl_nil ?_
      refine wq_then ?_
      refine wc_block ?_
      refine wc_loop (γ := (Int) × (Sl GThing) × (List (Int × Int)) × (List (Int × Int)) × (List (Int × Int))) (fun g_ => (0 ≤ g_.1) ∧ (g_.1 ≤ (sget tl n).xs.length) ∧ (ordI nodes.xs g (out ++ [n]) ((sget tl n).xs.drop g_.1.toNat) g_.2.1.xs g_.2.2.1 g_.2.2.2.1)) (fun g_ => [(0, .pointer (some ⟨wb, 0, none⟩)), (1, .func (.func f) #[] cap.toArray), (4, .pointer (some ⟨hb, 0, none⟩)), (5, .map (some lm)), (8, .int .i64 n), (53, (sget tl n).val), (54, .int .i64 (sget tl n).xs.length), (55, .int .i64 g_.1)]) (fun g_ => cb wb (webc nodes r1 r2) 186 :: per (Rd TInt nodes) :: mpS r1 tl :: per (rdS tl) :: mpI r2 g_.2.2.2.1 :: cb hb (hpc g_.2.1 m) 223 :: Own TThing 225 g_.2.1 :: mpI m g_.2.2.1 :: mpI lm g_.2.2.2.2 :: J (out ++ [n]) :: per (Rd TInt (sget tl n)) :: F) (fun g_ => (((sget tl n).xs.length : Int) - g_.1).toNat) ((0, ⟨s.A, s.c, (popF s.xs kv).1⟩, (popF s.xs kv).2, fr1, lev)) (⟨(show 0 ≤ (0 : Int) from (by omega)), (show (0 : Int) ≤ (sget tl n).xs.length from (by omega)), (show ordI nodes.xs g (out ++ [n]) ((sget tl n).xs.drop (0 : Int).toNat) (⟨s.A, s.c, (popF s.xs kv).1⟩ : Sl GThing).xs ((popF s.xs kv).2 : List (Int × Int)) (fr1 : List (Int × Int)) from (by rw [hto]; exact hP))⟩) (by repeat (first | exact Sub.nil | refine Sub.cons (by rfl) ?_)) (Ent.of_split (by repeat (first | exact Split.all | exact Split.nil | (apply Split.keep; · ((repeat constructor); first | done | fail)) | (apply Split.take; · ((repeat constructor); first | done | fail)) | apply Split.drop))) ?_
      rintro ⟨j, s3, kv3, fr3, lev3⟩ ⟨hj0, hj1, hI⟩
      replace hj0 : 0 ≤ j := hj0
      replace hj1 : j ≤ (sget tl n).xs.length := hj1
      replace hI : ordI nodes.xs g (out ++ [n]) ((sget tl n).xs.drop j.toNat) s3.xs kv3 fr3 := hI
      refine wc_ent (gs := [(0, .pointer (some ⟨wb, 0, none⟩)), (1, .func (.func f) #[] cap.toArray), (4, .pointer (some ⟨hb, 0, none⟩)), (5, .map (some lm)), (8, .int .i64 n), (53, (sget tl n).val), (54, .int .i64 (sget tl n).xs.length), (55, .int .i64 j)]) (by repeat (first | exact Sub.nil | refine Sub.cons (by rfl) ?_)) (L' := cb wb (webc nodes r1 r2) 186 :: per (Rd TInt nodes) :: mpS r1 tl :: per (rdS tl) :: mpI r2 fr3 :: cb hb (hpc s3 m) 223 :: Own TThing 225 s3 :: mpI m kv3 :: mpI lm lev3 :: J (out ++ [n]) :: per (Rd TInt (sget tl n)) :: F) (Ent.refl _) ?_
      refine wc_seq ?_
      refine wc_region ?_
      refine wl_q (q_lss rfl rfl) rfl ?_
      refine wl_nil ?_
      refine wq_then ?_
      refine wc_seq ?_
      refine wc_cond _ rfl (fun hc56 => ?_) (fun hc56 => ?_)
      · have hc56_ := hc56; try simp only [decide_eq_true_eq, decide_eq_false_iff_not, Bool.not_eq_true', Bool.not_eq_false', Decidable.not_not, Int.not_lt, Int.not_le, Bool.and_eq_true, Bool.or_eq_true] at hc56_
        have hx0 := gi_get (l := (sget tl n).xs) (i := j) (by omega) (by omega)
        have e1 : (sget tl n).xs.drop j.toNat = (gi (sget tl n).xs j) :: (sget tl n).xs.drop (j + 1).toNat := by rw [show (j + 1).toNat = j.toNat + 1 by omega]; rw [List.getElem?_eq_getElem (by omega)] at hx0; simp only [Option.some.injEq] at hx0; rw [← hx0]; exact List.drop_eq_getElem_cons (by omega)
        rw [e1] at hI
        have hxo : inI64 (gi (sget tl n).xs j) := hok _ (hI.rs _ (List.mem_cons_self ..))
        have hq3 := hI.fr (gi (sget tl n).xs j)
        have hq4 := indeg_len g (out ++ [n]) (gi (sget tl n).xs j)
        have hq5 : ((gi (sget tl n).xs j) :: (sget tl n).xs.drop (j + 1).toNat).count (gi (sget tl n).xs j) ≤ ((gi (sget tl n).xs j) :: (sget tl n).xs.drop (j + 1).toNat).length := List.count_le_length
        have hq6 : ((gi (sget tl n).xs j) :: (sget tl n).xs.drop (j + 1).toNat).length ≤ (sget tl n).xs.length := by rw [← e1, List.length_drop]; omega
        have hq7 := tosA_len g n
        rw [← hto] at hq7
        refine wc_skip ?_
        refine wq_then ?_
        refine wc_seq ?_
        refine wc_block ?_
        refine wc_seq ?_
        refine wc_region ?_
        refine wl_q (by first | exact q_indexR (e := 3) (by kernel_rfl) (by kernel_rfl) rfl rfl (by ((repeat constructor); first | done | fail)) (by first | omega | (dsimp only; omega) | (simp only [Int.toNat_natCast, List.length_set, List.length_append, List.length_cons, List.length_nil] at *; omega)) (by first | omega | (dsimp only; omega) | (simp only [Int.toNat_natCast, List.length_set, List.length_append, List.length_cons, List.length_nil] at *; omega)) | exact q_indexO (e := 3) (by kernel_rfl) (by kernel_rfl) rfl rfl (by ((repeat constructor); first | done | fail)) (by first | omega | (dsimp only; omega) | (simp only [Int.toNat_natCast, List.length_set, List.length_append, List.length_cons, List.length_nil] at *; omega)) (by first | omega | (dsimp only; omega) | (simp only [Int.toNat_natCast, List.length_set, List.length_append, List.length_cons, List.length_nil] at *; omega))) rfl ?_
        refine wl_q (by first | exact q_elemR1 (T := TInt) rfl (by kernel_rfl) (by ((repeat constructor); first | done | fail)) (gi_get (by omega) (by omega)) rfl | exact q_elemO1 (T := TInt) rfl (by kernel_rfl) (by ((repeat constructor); first | done | fail)) (gi_get (by omega) (by omega)) rfl) rfl ?_
        refine wl_q (q_assign rfl) rfl ?_
        refine wl_nil ?_
        refine wq_then ?_
        refine wc_seq ?_
        refine wc_region ?_
        refine wl_q (q_move rfl) rfl ?_
        refine wl_q (q_move rfl) rfl ?_
        refine wl_q (q_move rfl) rfl ?_
        refine wl_q (q_move rfl) rfl ?_
        refine wl_q (q_lookupI (kt := 3) (et := 3) (by kernel_rfl) (by kernel_rfl) (by unfold zeroIs; kernel_rfl) rfl rfl (by ((repeat constructor); first | done | fail))) rfl ?_
        refine wl_q (q_move rfl) rfl ?_
        refine wl_q (q_move rfl) rfl ?_
        refine wl_q (q_lookupI (kt := 3) (et := 3) (by kernel_rfl) (by kernel_rfl) (by unfold zeroIs; kernel_rfl) rfl rfl (by ((repeat constructor); first | done | fail))) rfl ?_
        refine wl_q (q_addW rfl rfl) rfl ?_
        refine wl_q (q_max rfl rfl) rfl ?_
        refine wl_l (lev_mapUpdateI (kt := 3) (et := 3) (by kernel_rfl) (by kernel_rfl) rfl rfl rfl rfl (by ((repeat constructor); first | done | fail)) ?_)
        refine wl_nil ?_
        refine wq_then ?_
        refine wc_seq ?_
        refine wc_region ?_
        refine wl_q (q_move rfl) rfl ?_
        refine wl_q (by first | exact q_nilCheck rfl | exact q_nilCheckF rfl) rfl ?_
        refine wl_q (q_fieldAddr (off := 2) (by kernel_rfl) rfl) rfl ?_
        refine wl_q (q_loadC rfl (by kernel_rfl) (by ((repeat constructor); first | done | fail)) (by rfl)) rfl ?_
        refine wl_q (q_move rfl) rfl ?_
        refine wl_q (q_lookupI (kt := 3) (et := 3) (by kernel_rfl) (by kernel_rfl) (by unfold zeroIs; kernel_rfl) rfl rfl (by ((repeat constructor); first | done | fail))) rfl ?_
        refine wl_q (q_sub rfl rfl ⟨by omega, by omega⟩) rfl ?_
        refine wl_l (lev_mapUpdateI (kt := 3) (et := 3) (by kernel_rfl) (by kernel_rfl) rfl rfl rfl rfl (by ((repeat constructor); first | done | fail)) ?_)
        refine wl_nil ?_
        refine wq_then ?_
        refine wc_seq ?_
        refine wc_region ?_
        refine wl_q (q_move rfl) rfl ?_
        refine wl_q (by first | exact q_nilCheck rfl | exact q_nilCheckF rfl) rfl ?_
        refine wl_q (q_fieldAddr (off := 2) (by kernel_rfl) rfl) rfl ?_
        refine wl_q (q_loadC rfl (by kernel_rfl) (by ((repeat constructor); first | done | fail)) (by rfl)) rfl ?_
        refine wl_q (q_move rfl) rfl ?_
        refine wl_q (q_lookupI (kt := 3) (et := 3) (by kernel_rfl) (by kernel_rfl) (by unfold zeroIs; kernel_rfl) rfl rfl (by ((repeat constructor); first | done | fail))) rfl ?_
        refine wl_q (q_eql rfl rfl) rfl ?_
        refine wl_nil ?_
        refine wq_then ?_
        refine wc_cond _ rfl (fun hc82 => ?_) (fun hc82 => ?_)
        · have hc82_ := hc82; try simp only [decide_eq_true_eq, decide_eq_false_iff_not, Bool.not_eq_true', Bool.not_eq_false', Decidable.not_not, Int.not_lt, Int.not_le, Bool.and_eq_true, Bool.or_eq_true] at hc82_
          refine wc_region ?_
          refine wl_q (q_move rfl) rfl ?_
          refine wl_q (q_move rfl) rfl ?_
          refine wl_q (q_move rfl) rfl ?_
          refine wl_l (lev_callF (S_heap_Put hb m s3 kv3 (gi (sget tl n).xs j) 0 (gi (sget tl n).xs j) ⟨hxo, inZ, hxo⟩ (by have := hI.len.1; omega) hI.hp.ok) rfl rfl (by repeat (first | exact Split.nil | (apply Split.keep; · ((repeat constructor); first | done | fail)) | (apply Split.take; · ((repeat constructor); first | done | fail)) | apply Split.drop)) ?_)
          rintro v_ w_ ⟨s4, rfl, hx4, hs64⟩
          (try simp only [List.cons_append, List.nil_append] at hs64)
          refine ⟨_, hs64, ?_⟩
          refine wl_nil ?_
          refine wq_block_normal ?_
          refine wq_then ?_
          refine wc_region ?_
          refine wl_q (q_add rfl rfl ⟨by omega, by omega⟩) rfl ?_
          refine wl_q (q_move rfl) rfl ?_
          refine wl_nil ?_
          exact wq_meet ((j + 1, s4, (putF s3.xs kv3 ⟨(gi (sget tl n).xs j), 0, (gi (sget tl n).xs j)⟩).2, aset fr3 (gi (sget tl n).xs j) ((aget fr3 (gi (sget tl n).xs j)).getD 0 - 1), _)) (⟨⟨(show 0 ≤ (j + 1 : Int) from (by omega)), (show (j + 1 : Int) ≤ (sget tl n).xs.length from (by omega)), (show ordI nodes.xs g (out ++ [n]) ((sget tl n).xs.drop (j + 1 : Int).toNat) (s4 : Sl GThing).xs ((putF s3.xs kv3 ⟨(gi (sget tl n).xs j), 0, (gi (sget tl n).xs j)⟩).2 : List (Int × Int)) (aset fr3 (gi (sget tl n).xs j) ((aget fr3 (gi (sget tl n).xs j)).getD 0 - 1) : List (Int × Int)) from (by rw [hx4]; exact (hI.step1 (by rw [aget_aset, if_pos rfl, Option.getD_some] at hc82_; exact hc82_)).2))⟩, (show (((sget tl n).xs.length : Int) - (j + 1 : Int)).toNat < (((sget tl n).xs.length : Int) - j).toNat from (by omega))⟩) (by repeat (first | exact Sub.nil | refine Sub.cons (by rfl) ?_)) (Ent.of_split (by repeat (first | exact Split.all | exact Split.nil | (apply Split.keep; · ((repeat constructor); first | done | fail)) | (apply Split.take; · ((repeat constructor); first | done | fail)) | apply Split.drop)))
        · have hc82_ := hc82; try simp only [decide_eq_true_eq, decide_eq_false_iff_not, Bool.not_eq_true', Bool.not_eq_false', Decidable.not_not, Int.not_lt, Int.not_le, Bool.and_eq_true, Bool.or_eq_true] at hc82_
          refine wc_skip ?_
          refine wq_block_normal ?_
          refine wq_then ?_
          refine wc_region ?_
          refine wl_q (q_add rfl rfl ⟨by omega, by omega⟩) rfl ?_
          refine wl_q (q_move rfl) rfl ?_
          refine wl_nil ?_
          exact wq_meet ((j + 1, s3, kv3, aset fr3 (gi (sget tl n).xs j) ((aget fr3 (gi (sget tl n).xs j)).getD 0 - 1), _)) (⟨⟨(show 0 ≤ (j + 1 : Int) from (by omega)), (show (j + 1 : Int) ≤ (sget tl n).xs.length from (by omega)), (show ordI nodes.xs g (out ++ [n]) ((sget tl n).xs.drop (j + 1 : Int).toNat) (s3 : Sl GThing).xs (kv3 : List (Int × Int)) (aset fr3 (gi (sget tl n).xs j) ((aget fr3 (gi (sget tl n).xs j)).getD 0 - 1) : List (Int × Int)) from (hI.step0 (by rw [aget_aset, if_pos rfl, Option.getD_some] at hc82_; exact hc82_)))⟩, (show (((sget tl n).xs.length : Int) - (j + 1 : Int)).toNat < (((sget tl n).xs.length : Int) - j).toNat from (by omega))⟩) (by repeat (first | exact Sub.nil | refine Sub.cons (by rfl) ?_)) (Ent.of_split (by repeat (first | exact Split.all | exact Split.nil | (apply Split.keep; · ((repeat constructor); first | done | fail)) | (apply Split.take; · ((repeat constructor); first | done | fail)) | apply Split.drop)))
      · have hc56_ := hc56; try simp only [decide_eq_true_eq, decide_eq_false_iff_not, Bool.not_eq_true', Bool.not_eq_false', Decidable.not_not, Int.not_lt, Int.not_le, Bool.and_eq_true, Bool.or_eq_true] at hc56_
        have e0 : (sget tl n).xs.drop j.toNat = [] := by rw [show j.toNat = (sget tl n).xs.length by omega]; simp
        rw [e0] at hI
        refine wc_exit ?_
        refine wq_then_exit ?_
        refine wq_then_exit ?_
        refine wq_block_exit ?_
        refine wq_then ?_
        refine wc_goto ?_
        exact wq_jump_goto ((hb, m, lm, out ++ [n], s3, kv3, fr3, lev3)) (⟨(show ordI nodes.xs g (out ++ [n] : List Int) [] (s3 : Sl GThing).xs (kv3 : List (Int × Int)) (fr3 : List (Int × Int)) from hI), (show nodes.xs.length - (out ++ [n] : List Int).length < nodes.xs.length - out.length from (by simp; omega))⟩) (by repeat (first | exact Sub.nil | refine Sub.cons (by rfl) ?_)) (Ent.of_split (by repeat (first | exact Split.all | exact Split.nil | (apply Split.keep; · ((repeat constructor); first | done | fail)) | (apply Split.take; · ((repeat constructor); first | done | fail)) | apply Split.drop)))

/-- a variable that holds a list of one's own -/
def Jout (ob : Nat) (e1 e2 : TypeId) (out : List Int) : HP := exH fun s : Sl Int => stars [pure' (s.xs = out), cb ob [s.val] e1, Own TInt e2 s]
theorem jout_open {E : Env} {w : World} {ob : Nat} {e1 e2 : TypeId} {out : List Int} {R : List HP} (hs : sats E w (Jout ob e1 e2 out :: R)) : ∃ s : Sl Int, s.xs = out ∧ sats E w (cb ob [s.val] e1 :: Own TInt e2 s :: R) := by
  obtain ⟨s, h1⟩ := hs.ex_get
  obtain ⟨h2, h3⟩ := (h1.stars_get).pure_get
  exact ⟨s, h2, h3⟩
theorem jout_close {E : Env} {w : World} {ob : Nat} {e1 e2 : TypeId} {out : List Int} {R : List HP} (s : Sl Int) (h : s.xs = out) (hs : sats E w (cb ob [s.val] e1 :: Own TInt e2 s :: R)) : sats E w (Jout ob e1 e2 out :: R) :=
  sats.ex_put s (sats.stars_put (As := [pure' (s.xs = out), cb ob [s.val] e1, Own TInt e2 s]) (hs.pure_put h))
theorem ent_joutN {E : Env} {L R : List HP} {ob : Nat} {e1 e2 : TypeId} (hat : At (cb ob [.slice none 0 0] e1) L R) : Ent E L (Jout ob e1 e2 [] :: R) := fun w hs =>
  jout_close Sl.nil rfl (((hs.at hat).own_nil TInt e2).perm (List.Perm.swap _ _ _))
theorem wc_jout {P : Program} {Q : Exit → Act → World → Prop} {n : Nat} {fs : Fs} {E : Env} {L R : List HP} {ob : Nat} {e1 e2 : TypeId} {out : List Int} {c : Code} (hat : At (Jout ob e1 e2 out) L R) (h : ∀ s : Sl Int, s.xs = out → WC P Q c n fs E (cb ob [s.val] e1 :: Own TInt e2 s :: R)) : WC P Q c n fs E L := fun a w hf hs => by
  obtain ⟨s, h1, h2⟩ := jout_open (hs.at hat)
  exact h s h1 a w hf h2

set_option maxHeartbeats 400000 in
theorem S_graph_Order1 (ob : Nat) (out : List Int) (n lv : Int) (hn : inI64 n) (hl : out.length < 1099511627776) : Fn Try.prog 114 [.int .i64 n, .int .i64 lv, .pointer (some ⟨ob, 0, none⟩)] [Jout ob 27 3 out] (fun v_ S_ => v_ = .tuple #[] ∧ S_ [Jout ob 27 3 (out ++ [n])]) := by
  refine fn_intro (m := 9) (gs := [(0, .int .i64 n), (1, .int .i64 lv), (2, .pointer (some ⟨ob, 0, none⟩))]) Try.func114 rfl rfl rfl rfl (fun t v h => gs_ok (by repeat (first | exact GsOk.nil | refine GsOk.cons (by rfl) ?_)) t v h) (fun F => Jout ob 27 3 out :: F) (fun _ => rfl) (fun E F => ?_)
  refine wc_jout (by ((repeat constructor); first | done | fail)) fun s hsx => ?_
  have hbig2 := big_is
  have hsl : s.xs.length < 1099511627776 := by rw [hsx]; exact hl
  refine wc_region ?_
  refine wl_q (q_loadC rfl (by kernel_rfl) (by ((repeat constructor); first | done | fail)) (by rfl)) rfl ?_
  refine wl_q (q_move rfl) rfl ?_
  refine wl_l (lev_buildSlice1 (e := 3) (us := [_]) (z := (.int .i64 0)) (by kernel_rfl) (by kernel_rfl) (by unfold zeroIs; kernel_rfl) rfl rfl rfl rfl rfl fun b3 => ?_)
  refine wl_l (lev_append1 (T := TInt) (e := 3) (z := (.int .i64 0)) (n) (by kernel_rfl) (by unfold zeroIs; kernel_rfl) (by kernel_rfl) rfl rfl 8 (by kernel_rfl) rfl rfl rfl (by ((repeat constructor); first | done | fail)) (by ((repeat constructor); first | done | fail)) rfl (.pure fun _ => hn) (⟨by simp only [big_is]; omega, by omega, by decide⟩) fun s1 hs1 => ?_)
  refine wl_l ?_
  first | refine lev_store1 rfl rfl rfl (by kernel_rfl) rfl rfl (by ((repeat constructor); first | done | fail)) (by rfl) ?_ | refine lev_storeA rfl rfl (by ((repeat constructor); first | done | fail)) (by rfl) (by kernel_rfl) (by first | exact TThing.one _ | exact TSpec.one _ | exact TTask.one _ | exact TArc.one _ | exact TBounds.one _ | exact fun u hu => List.all_eq_true.1 (rfl : List.all _ (·.oneCell') = true) u hu) rfl ?_
  refine wl_nil ?_
  refine wq_end rfl RVs.nil (fun w_ hs_ => ?_)
  exact ⟨rfl, jout_close s1 (by rw [hs1, hsx]) (show sats _ _ ([cb ob [s1.val] 27, Own TInt 3 s1] ++ F) from Split.use (by repeat (first | exact Split.nil | (apply Split.keep; · ((repeat constructor); first | done | fail)) | (apply Split.take; · ((repeat constructor); first | done | fail)) | apply Split.drop)) hs_)⟩

theorem len_eq_dec (a b : Nat) : decide ((a : Int) = (b : Int)) = decide (a = b) := by by_cases h : a = b <;> simp [h] <;> omega

set_option maxHeartbeats 400000 in
theorem S_graph_Order (ids : Sl Int) (arcs : Sl GArc) (hi : ids.xs.length < 1099511627776) (ha : arcs.xs.length < 1099511627776) : Fn Try.prog 75 [ids.val, arcs.val] [per (Rd TInt ids), per (Rd TArc arcs)] (fun v_ S_ => ∃ s : Sl Int, v_ = .tuple [s.val, .bool (decide (s.xs.length = (setOf ids.xs).length))].toArray ∧ s.xs = topo (setOf ids.xs) (goodA (setOf ids.xs) arcs.xs) ∧ S_ [Own TInt 3 s]) := by
  refine fn_intro (m := 23) (gs := [(0, ids.val), (1, arcs.val)]) Try.func75 rfl rfl rfl rfl (fun t v h => gs_ok (by repeat (first | exact GsOk.nil | refine GsOk.cons (by rfl) ?_)) t v h) (fun F => per (Rd TInt ids) :: per (Rd TArc arcs) :: F) (fun _ => rfl) (fun E F => ?_)
  refine wc_seq ?_
  refine wc_region ?_
  refine wl_q (q_assign rfl) rfl ?_
  refine wl_q (q_assign rfl) rfl ?_
  refine wl_nil ?_
  refine wq_then ?_
  refine wc_seq ?_
  refine wc_region ?_
  refine wl_l (lev_alloc [(.slice none 0 0)] ((.slice none 0 0)) (by kernel_rfl) rfl rfl fun ob => ?_)
  refine wl_nil ?_
  refine wq_then ?_
  refine wc_seq ?_
  refine wc_region ?_
  refine wl_q (q_move rfl) rfl ?_
  refine wl_q (q_move rfl) rfl ?_
  refine wl_l (lev_callF (S_graph_of ids arcs hi ha) rfl rfl (by repeat (first | exact Split.nil | (apply Split.keep; · ((repeat constructor); first | done | fail)) | (apply Split.take; · ((repeat constructor); first | done | fail)) | apply Split.drop)) ?_)
  rintro v_ w_ ⟨wb, r1, r2, nodes, tl, fr, rfl, ⟨hx1, hx2, hx3⟩, hs5⟩
  have hnl : nodes.xs.length < 1099511627776 := by rw [hx1]; have := setOf_length ids.xs; omega
  have hgl := goodA_len nodes.xs arcs.xs
  have hr : rising nodes.xs := by rw [hx1]; exact setOf_rising _
  have hg : ∀ a ∈ goodA nodes.xs arcs.xs, a.To ∈ nodes.xs := fun a ha => by have := (List.mem_filter.1 ha).2; simp only [Bool.and_eq_true, decide_eq_true_eq] at this; exact this.2
  (try simp only [List.cons_append, List.nil_append] at hs5)
  refine ⟨_, hs5, ?_⟩
  refine wl_q (q_assign rfl) rfl ?_
  refine wl_nil ?_
  refine wq_then ?_
  refine wc_seq ?_
  refine wc_region ?_
  refine wl_q (q_move rfl) rfl ?_
  refine wl_q (q_makeFunc rfl rfl) rfl ?_
  refine wl_entL (ent_joutN (e2 := 3) (by ((repeat constructor); first | done | fail))) ?_
  refine wl_l (lev_callF (S_graph_order wb r1 r2 nodes tl fr (goodA nodes.xs arcs.xs) 114 [.pointer (some ⟨ob, 0, none⟩)] (Jout ob 27 3) hnl (by omega) hr hg hx2 hx3 (fun out n lv hn hl => S_graph_Order1 ob out n lv hn (by omega))) rfl rfl (by repeat (first | exact Split.nil | (apply Split.keep; · ((repeat constructor); first | done | fail)) | (apply Split.take; · ((repeat constructor); first | done | fail)) | apply Split.drop)) ?_)
  rintro v_ w_ ⟨fr2, rfl, hf2, hs8⟩
  (try simp only [List.cons_append, List.nil_append] at hs8)
  refine ⟨_, hs8, ?_⟩
  refine wl_nil ?_
  refine wq_then ?_
  refine wc_seq ?_
  refine wc_jout (by ((repeat constructor); first | done | fail)) fun s hsx => ?_
  refine wc_quiet (by kernel_rfl) (by kernel_rfl) ?_
  refine wlq_q (q_loadC rfl (by kernel_rfl) (by ((repeat constructor); first | done | fail)) (by rfl)) rfl ?_
  refine wlq_q (q_loadC rfl (by kernel_rfl) (by ((repeat constructor); first | done | fail)) (by rfl)) rfl ?_
  refine wlq_q (q_len (e := 3) (by kernel_rfl) rfl) rfl ?_
  refine wlq_q (q_move rfl) rfl ?_
  refine wlq_q (by first | exact q_nilCheck rfl | exact q_nilCheckF rfl) rfl ?_
  refine wlq_q (q_fieldAddr (off := 0) (by kernel_rfl) rfl) rfl ?_
  refine wlq_q (q_loadC rfl (by kernel_rfl) (by ((repeat constructor); first | done | fail)) (by rfl)) rfl ?_
  refine wlq_q (q_len (e := 3) (by kernel_rfl) rfl) rfl ?_
  refine wlq_q (q_eql rfl rfl) rfl ?_
  refine wlq_q (q_assign rfl) rfl ?_
  refine wlq_q (q_assign rfl) rfl ?_
  refine wlq_nil ?_
  refine wq_then ?_
  refine wc_ret ?_
  refine wq_ret rfl (RVs.tmp rfl (RVs.tmp rfl RVs.nil)) (fun w_ hs_ => ?_)
  exact ⟨s, by rw [len_eq_dec, hx1]; rfl, by rw [hsx, hx1], Split.use (by repeat (first | exact Split.nil | (apply Split.keep; · ((repeat constructor); first | done | fail)) | (apply Split.take; · ((repeat constructor); first | done | fail)) | apply Split.drop)) hs_⟩
end Go.Proofs.Ytlkmcdijioiddaa
