/- Contracts of functions of the program, walked step by step. Not a proof of any statement by itself. -/
import Derived.Test.YtlkmcdijioiddaaAlive23
import Derived.Test.YtlkmcdijioiddaaProg
namespace Go.Proofs.Ytlkmcdijioiddaa
open Go.RowKit
set_option linter.unusedVariables false
set_option linter.unusedSimpArgs false
set_option maxRecDepth 100000


set_option maxHeartbeats 1000000 in
theorem S_law23_alive  : Fn Try.prog 23 [] [] (fun v_ S_ => v_ = .bool true ∧ S_ []) := by
  refine fn_intro (m := 53) (gs := []) Try.func23 rfl rfl rfl rfl (fun t v h => gs_ok (by repeat (first | exact GsOk.nil | refine GsOk.cons (by rfl) ?_)) t v h) (fun F => F) (fun _ => rfl) (fun E F => ?_)
  refine wc_seq ?_
  refine wc_region ?_
  refine wl_q (q_assign rfl) rfl ?_
  refine wl_nil ?_
  refine wq_then ?_
  refine wc_seq ?_
  refine wc_region ?_
  refine wl_q (q_build (zs := [(.int .i64 0), (.int .i64 0), (.int .u64 0), (.int .u64 0), (.int .i64 0), (.int .i64 0), (.int .i64 0), (.int .i64 0), (.slice none 0 0)]) (z := .agg #[(.int .i64 0), (.int .i64 0), (.int .u64 0), (.int .u64 0), (.int .i64 0), (.int .i64 0), (.int .i64 0), (.int .i64 0), (.slice none 0 0)]) (l := [_, _, _, _, _, _, _, _, _]) [(0, 1), (1, 1), (2, 1), (3, 1), (4, 2), (6, 2), (8, 1)] (by kernel_rfl) (by unfold zeroIs; kernel_rfl) rfl rfl (.cons rfl (us := [_]) rfl rfl rfl .nil)) rfl ?_
  refine wl_l (lev_buildSlice1 (e := 3) (us := [_]) (z := (.int .i64 0)) (by kernel_rfl) (by kernel_rfl) (by unfold zeroIs; kernel_rfl) rfl rfl rfl rfl rfl fun a1 => ?_)
  refine wl_q (q_build (zs := [(.int .i64 0), (.int .i64 0), (.int .u64 0), (.int .u64 0), (.int .i64 0), (.int .i64 0), (.int .i64 0), (.int .i64 0), (.slice none 0 0)]) (z := .agg #[(.int .i64 0), (.int .i64 0), (.int .u64 0), (.int .u64 0), (.int .i64 0), (.int .i64 0), (.int .i64 0), (.int .i64 0), (.slice none 0 0)]) (l := [_, _, _, _, _, _, _, _, _]) [(0, 1), (1, 1), (2, 1), (3, 1), (4, 2), (6, 2), (8, 1)] (by kernel_rfl) (by unfold zeroIs; kernel_rfl) rfl rfl (.cons rfl (us := [_]) rfl rfl rfl (.cons rfl (us := [_]) rfl rfl rfl .nil))) rfl ?_
  refine wl_l (lev_alloc [(.int .i64 0), (.int .i64 0), (.int .u64 0), (.int .u64 0), (.int .i64 0), (.int .i64 0), (.int .i64 0), (.int .i64 0), (.slice none 0 0)] (.agg #[(.int .i64 0), (.int .i64 0), (.int .u64 0), (.int .u64 0), (.int .i64 0), (.int .i64 0), (.int .i64 0), (.int .i64 0), (.slice none 0 0)]) (by kernel_rfl) rfl rfl fun b1 => ?_)
  refine wl_l (lev_alloc [(.int .i64 0), (.int .i64 0), (.int .u64 0), (.int .u64 0), (.int .i64 0), (.int .i64 0), (.int .i64 0), (.int .i64 0), (.slice none 0 0)] (.agg #[(.int .i64 0), (.int .i64 0), (.int .u64 0), (.int .u64 0), (.int .i64 0), (.int .i64 0), (.int .i64 0), (.int .i64 0), (.slice none 0 0)]) (by kernel_rfl) rfl rfl fun b2 => ?_)
  refine wl_l ?_
  first | refine lev_store1 rfl rfl rfl (by kernel_rfl) rfl rfl (by ((repeat constructor); first | done | fail)) (by rfl) ?_ | refine lev_storeA rfl rfl (by ((repeat constructor); first | done | fail)) (by rfl) (by kernel_rfl) (by first | exact TThing.one _ | exact TSpec.one _ | exact TTask.one _ | exact TArc.one _ | exact TBounds.one _ | exact fun u hu => List.all_eq_true.1 (rfl : List.all _ (·.oneCell') = true) u hu) rfl ?_
  refine wl_l ?_
  first | refine lev_store1 rfl rfl rfl (by kernel_rfl) rfl rfl (by ((repeat constructor); first | done | fail)) (by rfl) ?_ | refine lev_storeA rfl rfl (by ((repeat constructor); first | done | fail)) (by rfl) (by kernel_rfl) (by first | exact TThing.one _ | exact TSpec.one _ | exact TTask.one _ | exact TArc.one _ | exact TBounds.one _ | exact fun u hu => List.all_eq_true.1 (rfl : List.all _ (·.oneCell') = true) u hu) rfl ?_
  refine wl_nil ?_
  refine wq_then ?_
  refine wc_seq ?_
  refine wc_region ?_
  refine wl_l (lev_buildSlice1 (e := 3) (us := [_]) (z := (.int .i64 0)) (by kernel_rfl) (by kernel_rfl) (by unfold zeroIs; kernel_rfl) rfl rfl rfl rfl rfl fun a2 => ?_)
  refine wl_q (q_build (zs := [(.int .i64 0), (.int .i64 0), (.int .u64 0), (.int .u64 0), (.int .i64 0), (.int .i64 0), (.int .i64 0), (.int .i64 0), (.slice none 0 0)]) (z := .agg #[(.int .i64 0), (.int .i64 0), (.int .u64 0), (.int .u64 0), (.int .i64 0), (.int .i64 0), (.int .i64 0), (.int .i64 0), (.slice none 0 0)]) (l := [_, _, _, _, _, _, _, _, _]) [(0, 1), (1, 1), (2, 1), (3, 1), (4, 2), (6, 2), (8, 1)] (by kernel_rfl) (by unfold zeroIs; kernel_rfl) rfl rfl (.cons rfl (us := [_]) rfl rfl rfl (.cons rfl (us := [_]) rfl rfl rfl .nil))) rfl ?_
  refine wl_l (lev_alloc [(.int .i64 0), (.int .i64 0), (.int .u64 0), (.int .u64 0), (.int .i64 0), (.int .i64 0), (.int .i64 0), (.int .i64 0), (.slice none 0 0)] (.agg #[(.int .i64 0), (.int .i64 0), (.int .u64 0), (.int .u64 0), (.int .i64 0), (.int .i64 0), (.int .i64 0), (.int .i64 0), (.slice none 0 0)]) (by kernel_rfl) rfl rfl fun b3 => ?_)
  refine wl_l ?_
  first | refine lev_store1 rfl rfl rfl (by kernel_rfl) rfl rfl (by ((repeat constructor); first | done | fail)) (by rfl) ?_ | refine lev_storeA rfl rfl (by ((repeat constructor); first | done | fail)) (by rfl) (by kernel_rfl) (by first | exact TThing.one _ | exact TSpec.one _ | exact TTask.one _ | exact TArc.one _ | exact TBounds.one _ | exact fun u hu => List.all_eq_true.1 (rfl : List.all _ (·.oneCell') = true) u hu) rfl ?_
  refine wl_nil ?_
  refine wq_then ?_
  refine wc_seq ?_
  refine wc_entL (ent_litR (T := TInt) (m := 1) (ys := [1]) (b := a1) (by ((repeat constructor); first | done | fail)) rfl rfl (by decide) (fun M z hz => in1 hz)) ?_
  refine wc_entL (ent_litR (T := TInt) (m := 1) (ys := [2]) (b := a2) (by ((repeat constructor); first | done | fail)) rfl rfl (by decide) (fun M z hz => in2 hz)) ?_
  refine wc_ent (gs := [(0, .bool false), (1, .pointer (some ⟨b1, 0, none⟩)), (2, .pointer (some ⟨b2, 0, none⟩)), (3, .pointer (some ⟨b3, 0, none⟩))]) (by repeat (first | exact Sub.nil | refine Sub.cons (by rfl) ?_)) (L' := cb b1 (encSpec (spec0 1 Sl.nil)) 67 :: cb b2 (encSpec (spec0 2 (lit1 a1 1))) 67 :: cb b3 (encSpec (spec0 1 (lit1 a2 2))) 67 :: per (Rd TInt (lit1 a1 1)) :: per (Rd TInt (lit1 a2 2)) :: F) (Ent.of_split (by repeat (first | exact Split.all | exact Split.nil | (apply Split.keep; · ((repeat constructor); first | done | fail)) | (apply Split.take; · ((repeat constructor); first | done | fail)) | apply Split.drop))) ?_
  refine wc_region ?_
  refine wl_q (q_loadCA rfl (by ((repeat constructor); first | done | fail)) (by kernel_rfl)) rfl ?_
  refine wl_q (q_loadCA rfl (by ((repeat constructor); first | done | fail)) (by kernel_rfl)) rfl ?_
  refine wl_l (lev_buildSlice (e := 67) (size := 9) (xs := [_, _]) (z := .agg #[(.int .i64 0), (.int .i64 0), (.int .u64 0), (.int .u64 0), (.int .i64 0), (.int .i64 0), (.int .i64 0), (.int .i64 0), (.slice none 0 0)]) (by kernel_rfl) (by kernel_rfl) (by unfold zeroIs; kernel_rfl) rfl rfl rfl (.cons (us := [_, _, _, _, _, _, _, _, _]) rfl rfl (.cons (us := [_, _, _, _, _, _, _, _, _]) rfl rfl .nil)) rfl fun l1 => ?_)
  refine wl_entL (ent_litRP (T := TSpec) (m := 2) (ys := [spec0 2 (lit1 a1 1), spec0 1 Sl.nil]) (by ((repeat constructor); first | done | fail)) rfl rfl (by decide) (.here (q' := Rd TInt (lit1 a1 1)) (by ((repeat constructor); first | done | fail)) fun M h => oks21 h)) ?_
  refine wl_l (lev_callF (S_batch_Order ⟨some ⟨l1, 0, none⟩, 2, [spec0 2 (lit1 a1 1), spec0 1 Sl.nil]⟩ (by simp) (fun x hx => len2 (n := 1048576) (by decide) (by simp [spec0, lit1, Sl.nil]) (by simp [spec0, lit1, Sl.nil]) hx)) rfl rfl (by repeat (first | exact Split.nil | (apply Split.keep; · ((repeat constructor); first | done | fail)) | (apply Split.take; · ((repeat constructor); first | done | fail)) | apply Split.drop)) ?_)
  rintro v_ w_ ⟨s0, rfl, hs0, hs21⟩
  (try simp only [List.cons_append, List.nil_append] at hs21)
  refine ⟨_, hs21, ?_⟩
  refine wl_q (q_move rfl) rfl ?_
  refine wl_q (q_extract rfl rfl) rfl ?_
  refine wl_q (q_extract rfl rfl) rfl ?_
  refine wl_q (q_assign rfl) rfl ?_
  refine wl_q (q_assign rfl) rfl ?_
  refine wl_nil ?_
  refine wq_then ?_
  refine wc_seq ?_
  refine wc_entL (ent_rd (s := s0) (by ((repeat constructor); first | done | fail))) ?_
  refine wc_entL (ent_rdNil TTask) ?_
  refine wc_region ?_
  refine wl_q (q_loadCA rfl (by ((repeat constructor); first | done | fail)) (by kernel_rfl)) rfl ?_
  refine wl_q (q_loadCA rfl (by ((repeat constructor); first | done | fail)) (by kernel_rfl)) rfl ?_
  refine wl_l (lev_buildSlice (e := 67) (size := 9) (xs := [_, _]) (z := .agg #[(.int .i64 0), (.int .i64 0), (.int .u64 0), (.int .u64 0), (.int .i64 0), (.int .i64 0), (.int .i64 0), (.int .i64 0), (.slice none 0 0)]) (by kernel_rfl) (by kernel_rfl) (by unfold zeroIs; kernel_rfl) rfl rfl rfl (.cons (us := [_, _, _, _, _, _, _, _, _]) rfl rfl (.cons (us := [_, _, _, _, _, _, _, _, _]) rfl rfl .nil)) rfl fun l2 => ?_)
  refine wl_entL (ent_litRP (T := TSpec) (m := 2) (ys := [spec0 1 Sl.nil, spec0 2 (lit1 a1 1)]) (by ((repeat constructor); first | done | fail)) rfl rfl (by decide) (.here (q' := Rd TInt (lit1 a1 1)) (by ((repeat constructor); first | done | fail)) fun M h => oks12 h)) ?_
  refine wl_l (lev_callF (S_batch_Check 2 Sl.nil ⟨some ⟨l2, 0, none⟩, 2, [spec0 1 Sl.nil, spec0 2 (lit1 a1 1)]⟩ (by decide) (by simp) (fun x hx => len2 (n := 1099511627776) (by decide) (by simp [spec0, lit1, Sl.nil]) (by simp [spec0, lit1, Sl.nil]) hx)) rfl rfl (by repeat (first | exact Split.nil | (apply Split.keep; · ((repeat constructor); first | done | fail)) | (apply Split.take; · ((repeat constructor); first | done | fail)) | apply Split.drop)) ?_)
  rintro v_ w_ ⟨rfl, hs29⟩
  (try simp only [List.cons_append, List.nil_append] at hs29)
  refine ⟨_, hs29, ?_⟩
  refine wl_q (q_eql rfl rfl) rfl ?_
  refine wl_q (q_move rfl) rfl ?_
  refine wl_split 23 _ rfl (fun hb23 => ?_) (fun hb23 => ?_)
  · have hb23_ := hb23; try simp only [decide_eq_true_eq, decide_eq_false_iff_not, Bool.not_eq_true', Bool.not_eq_false', Decidable.not_not, Int.not_lt, Int.not_le, Bool.and_eq_true, Bool.or_eq_true] at hb23_
    refine wl_g 23 rfl (lk_bool rfl hb23) (q_loadCA rfl (by ((repeat constructor); first | done | fail)) (by kernel_rfl)) rfl ?_
    refine wl_g 23 rfl (lk_bool rfl hb23) (q_loadCA rfl (by ((repeat constructor); first | done | fail)) (by kernel_rfl)) rfl ?_
    refine wl_lg 23 rfl (lk_bool rfl hb23) (lev_buildSlice (e := 67) (size := 9) (xs := [_, _]) (z := .agg #[(.int .i64 0), (.int .i64 0), (.int .u64 0), (.int .u64 0), (.int .i64 0), (.int .i64 0), (.int .i64 0), (.int .i64 0), (.slice none 0 0)]) (by kernel_rfl) (by kernel_rfl) (by unfold zeroIs; kernel_rfl) rfl rfl rfl (.cons (us := [_, _, _, _, _, _, _, _, _]) rfl rfl (.cons (us := [_, _, _, _, _, _, _, _, _]) rfl rfl .nil)) rfl fun l3 => ?_)
    refine wl_entL (ent_litRP (T := TSpec) (m := 2) (ys := [spec0 1 Sl.nil, spec0 2 (lit1 a1 1)]) (by ((repeat constructor); first | done | fail)) rfl rfl (by decide) (.here (q' := Rd TInt (lit1 a1 1)) (by ((repeat constructor); first | done | fail)) fun M h => oks12 h)) ?_
    refine wl_lg 23 rfl (lk_bool rfl hb23) (lev_callF (S_batch_Check 1 Sl.nil ⟨some ⟨l3, 0, none⟩, 2, [spec0 1 Sl.nil, spec0 2 (lit1 a1 1)]⟩ (by decide) (by simp) (fun x hx => len2 (n := 1099511627776) (by decide) (by simp [spec0, lit1, Sl.nil]) (by simp [spec0, lit1, Sl.nil]) hx)) rfl rfl (by repeat (first | exact Split.nil | (apply Split.keep; · ((repeat constructor); first | done | fail)) | (apply Split.take; · ((repeat constructor); first | done | fail)) | apply Split.drop)) ?_)
    rintro v_ w_ ⟨rfl, hs36⟩
    (try simp only [List.cons_append, List.nil_append] at hs36)
    refine ⟨_, hs36, ?_⟩
    refine wl_g 23 rfl (lk_bool rfl hb23) (q_eql rfl rfl) rfl ?_
    refine wl_q (q_pickT rfl hb23 rfl) rfl ?_
    refine wl_q (q_move rfl) rfl ?_
    refine wl_split 30 _ rfl (fun hb30 => ?_) (fun hb30 => ?_)
    · have hb30_ := hb30; try simp only [decide_eq_true_eq, decide_eq_false_iff_not, Bool.not_eq_true', Bool.not_eq_false', Decidable.not_not, Int.not_lt, Int.not_le, Bool.and_eq_true, Bool.or_eq_true] at hb30_
      refine wl_g 30 rfl (lk_bool rfl hb30) (q_loadCA rfl (by ((repeat constructor); first | done | fail)) (by kernel_rfl)) rfl ?_
      refine wl_g 30 rfl (lk_bool rfl hb30) (q_loadCA rfl (by ((repeat constructor); first | done | fail)) (by kernel_rfl)) rfl ?_
      refine wl_lg 30 rfl (lk_bool rfl hb30) (lev_buildSlice (e := 67) (size := 9) (xs := [_, _]) (z := .agg #[(.int .i64 0), (.int .i64 0), (.int .u64 0), (.int .u64 0), (.int .i64 0), (.int .i64 0), (.int .i64 0), (.int .i64 0), (.slice none 0 0)]) (by kernel_rfl) (by kernel_rfl) (by unfold zeroIs; kernel_rfl) rfl rfl rfl (.cons (us := [_, _, _, _, _, _, _, _, _]) rfl rfl (.cons (us := [_, _, _, _, _, _, _, _, _]) rfl rfl .nil)) rfl fun l4 => ?_)
      refine wl_entL (ent_litRP (T := TSpec) (m := 2) (ys := [spec0 1 (lit1 a2 2), spec0 2 (lit1 a1 1)]) (by ((repeat constructor); first | done | fail)) rfl rfl (by decide) (.and (q1 := Rd TInt (lit1 a1 1)) (q2 := Rd TInt (lit1 a2 2)) (.here (by ((repeat constructor); first | done | fail)) fun M h => h) (.here (by ((repeat constructor); first | done | fail)) fun M h => h) (fun M M' m h => h.mono m) (fun M M' m h => h.mono m) (fun M h h' => oksR h h'))) ?_
      refine wl_lg 30 rfl (lk_bool rfl hb30) (lev_callF (S_batch_Check 2 Sl.nil ⟨some ⟨l4, 0, none⟩, 2, [spec0 1 (lit1 a2 2), spec0 2 (lit1 a1 1)]⟩ (by decide) (by simp) (fun x hx => len2 (n := 1099511627776) (by decide) (by simp [spec0, lit1, Sl.nil]) (by simp [spec0, lit1, Sl.nil]) hx)) rfl rfl (by repeat (first | exact Split.nil | (apply Split.keep; · ((repeat constructor); first | done | fail)) | (apply Split.take; · ((repeat constructor); first | done | fail)) | apply Split.drop)) ?_)
      rintro v_ w_ ⟨rfl, hs43⟩
      (try simp only [List.cons_append, List.nil_append] at hs43)
      refine ⟨_, hs43, ?_⟩
      refine wl_g 30 rfl (lk_bool rfl hb30) (q_eql rfl rfl) rfl ?_
      refine wl_q (q_pickT rfl hb30 rfl) rfl ?_
      refine wl_q (q_move rfl) rfl ?_
      refine wl_split 37 _ rfl (fun hb37 => ?_) (fun hb37 => ?_)
      · have hb37_ := hb37; try simp only [decide_eq_true_eq, decide_eq_false_iff_not, Bool.not_eq_true', Bool.not_eq_false', Decidable.not_not, Int.not_lt, Int.not_le, Bool.and_eq_true, Bool.or_eq_true] at hb37_
        refine wl_g 37 rfl (lk_bool rfl hb37) (q_move rfl) rfl ?_
        refine wl_q (q_pickT rfl hb37 rfl) rfl ?_
        refine wl_q (q_move rfl) rfl ?_
        refine wl_split 40 _ rfl (fun hb40 => ?_) (fun hb40 => ?_)
        · have hb40_ := hb40; try simp only [decide_eq_true_eq, decide_eq_false_iff_not, Bool.not_eq_true', Bool.not_eq_false', Decidable.not_not, Int.not_lt, Int.not_le, Bool.and_eq_true, Bool.or_eq_true] at hb40_
          refine wl_g 40 rfl (lk_bool rfl hb40) (q_move rfl) rfl ?_
          refine wl_lg 40 rfl (lk_bool rfl hb40) (lev_buildSlice (e := 3) (size := 1) (xs := [_, _]) (z := (.int .i64 0)) (by kernel_rfl) (by kernel_rfl) (by unfold zeroIs; kernel_rfl) rfl rfl rfl (.cons (us := [_]) rfl rfl (.cons (us := [_]) rfl rfl .nil)) rfl fun l5 => ?_)
          refine wl_entL (ent_litR (T := TInt) (m := 2) (ys := [1, 2]) (b := l5) (by ((repeat constructor); first | done | fail)) rfl rfl (by decide) (fun M z hz => in12 hz)) ?_
          refine wl_lg 40 rfl (lk_bool rfl hb40) (lev_callF (S_ref01_Ints s0 ⟨some ⟨l5, 0, none⟩, 2, [1, 2]⟩ (by rw [hs0]; rw [ord21]; decide) (by simp)) rfl rfl (by repeat (first | exact Split.nil | (apply Split.keep; · ((repeat constructor); first | done | fail)) | (apply Split.take; · ((repeat constructor); first | done | fail)) | apply Split.drop)) ?_)
          rintro v_ w_ ⟨rfl, hs48⟩
          (try simp only [List.cons_append, List.nil_append] at hs48)
          refine ⟨_, hs48, ?_⟩
          refine wl_q (q_pickT rfl hb40 rfl) rfl ?_
          refine wl_q (q_move rfl) rfl ?_
          refine wl_split 45 _ rfl (fun hb45 => ?_) (fun hb45 => ?_)
          · have hb45_ := hb45; try simp only [decide_eq_true_eq, decide_eq_false_iff_not, Bool.not_eq_true', Bool.not_eq_false', Decidable.not_not, Int.not_lt, Int.not_le, Bool.and_eq_true, Bool.or_eq_true] at hb45_
            refine wl_g 45 rfl (lk_bool rfl hb45) (q_loadCA rfl (by ((repeat constructor); first | done | fail)) (by kernel_rfl)) rfl ?_
            refine wl_g 45 rfl (lk_bool rfl hb45) (q_loadCA rfl (by ((repeat constructor); first | done | fail)) (by kernel_rfl)) rfl ?_
            refine wl_lg 45 rfl (lk_bool rfl hb45) (lev_buildSlice (e := 67) (size := 9) (xs := [_, _]) (z := .agg #[(.int .i64 0), (.int .i64 0), (.int .u64 0), (.int .u64 0), (.int .i64 0), (.int .i64 0), (.int .i64 0), (.int .i64 0), (.slice none 0 0)]) (by kernel_rfl) (by kernel_rfl) (by unfold zeroIs; kernel_rfl) rfl rfl rfl (.cons (us := [_, _, _, _, _, _, _, _, _]) rfl rfl (.cons (us := [_, _, _, _, _, _, _, _, _]) rfl rfl .nil)) rfl fun l6 => ?_)
            refine wl_entL (ent_litRP (T := TSpec) (m := 2) (ys := [spec0 2 (lit1 a1 1), spec0 1 Sl.nil]) (by ((repeat constructor); first | done | fail)) rfl rfl (by decide) (.here (q' := Rd TInt (lit1 a1 1)) (by ((repeat constructor); first | done | fail)) fun M h => oks21 h)) ?_
            refine wl_lg 45 rfl (lk_bool rfl hb45) (lev_callF (S_batch_Free Sl.nil ⟨some ⟨l6, 0, none⟩, 2, [spec0 2 (lit1 a1 1), spec0 1 Sl.nil]⟩ (by decide) (by simp)) rfl rfl (by repeat (first | exact Split.nil | (apply Split.keep; · ((repeat constructor); first | done | fail)) | (apply Split.take; · ((repeat constructor); first | done | fail)) | apply Split.drop)) ?_)
            rintro v_ w_ ⟨s6, rfl, hs6, hs54⟩
            (try simp only [List.cons_append, List.nil_append] at hs54)
            refine ⟨_, hs54, ?_⟩
            refine wl_lg 45 rfl (lk_bool rfl hb45) (lev_buildSlice1 (e := 3) (us := [_]) (z := (.int .i64 0)) (by kernel_rfl) (by kernel_rfl) (by unfold zeroIs; kernel_rfl) rfl rfl rfl rfl rfl fun l7 => ?_)
            refine wl_entL (ent_litR (T := TInt) (m := 1) (ys := [1]) (b := l7) (by ((repeat constructor); first | done | fail)) rfl rfl (by decide) (fun M z hz => in1 hz)) ?_
            refine wl_entL (ent_rd (s := s6) (by ((repeat constructor); first | done | fail))) ?_
            refine wl_lg 45 rfl (lk_bool rfl hb45) (lev_callF (S_ref01_Ints s6 ⟨some ⟨l7, 0, none⟩, 1, [1]⟩ (by rw [(hs6.trans (free1 a1) : s6.xs = [1])]; decide) (by simp)) rfl rfl (by repeat (first | exact Split.nil | (apply Split.keep; · ((repeat constructor); first | done | fail)) | (apply Split.take; · ((repeat constructor); first | done | fail)) | apply Split.drop)) ?_)
            rintro v_ w_ ⟨rfl, hs58⟩
            (try simp only [List.cons_append, List.nil_append] at hs58)
            refine ⟨_, hs58, ?_⟩
            refine wl_q (q_pickT rfl hb45 rfl) rfl ?_
            refine wl_q (q_assign rfl) rfl ?_
            refine wl_nil ?_
            refine wq_then ?_
            refine wc_ret ?_
            refine wq_ret rfl (RVs.tmp rfl RVs.nil) (fun w_ hs_ => ?_)
            exact ⟨by rw [decide_eq_true (hs6.trans (free1 a1) : s6.xs = [1])]; rfl, Split.use (by repeat (first | exact Split.nil | (apply Split.keep; · ((repeat constructor); first | done | fail)) | (apply Split.take; · ((repeat constructor); first | done | fail)) | apply Split.drop)) hs_⟩
          · have hb45_ := hb45; try simp only [decide_eq_true_eq, decide_eq_false_iff_not, Bool.not_eq_true', Bool.not_eq_false', Decidable.not_not, Int.not_lt, Int.not_le, Bool.and_eq_true, Bool.or_eq_true] at hb45_
            exact absurd (hs0.trans (ord21 a1)) hb45_
        · have hb40_ := hb40; try simp only [decide_eq_true_eq, decide_eq_false_iff_not, Bool.not_eq_true', Bool.not_eq_false', Decidable.not_not, Int.not_lt, Int.not_le, Bool.and_eq_true, Bool.or_eq_true] at hb40_
          exfalso; apply hb40_; rw [hs0, ord21]; show _ = (setOf [2, 1]).length; rw [set21]
      · have hb37_ := hb37; try simp only [decide_eq_true_eq, decide_eq_false_iff_not, Bool.not_eq_true', Bool.not_eq_false', Decidable.not_not, Int.not_lt, Int.not_le, Bool.and_eq_true, Bool.or_eq_true] at hb37_
        exact absurd (chk3 a1 a2) hb37_
    · have hb30_ := hb30; try simp only [decide_eq_true_eq, decide_eq_false_iff_not, Bool.not_eq_true', Bool.not_eq_false', Decidable.not_not, Int.not_lt, Int.not_le, Bool.and_eq_true, Bool.or_eq_true] at hb30_
      exact absurd (chk2 a1) hb30_
  · have hb23_ := hb23; try simp only [decide_eq_true_eq, decide_eq_false_iff_not, Bool.not_eq_true', Bool.not_eq_false', Decidable.not_not, Int.not_lt, Int.not_le, Bool.and_eq_true, Bool.or_eq_true] at hb23_
    exact absurd (chk1 a1) hb23_
end Go.Proofs.Ytlkmcdijioiddaa
