/- Contracts of functions of the program, walked step by step. Not a proof of any statement by itself. -/
import Derived.Test.YtlkmcdijioiddaaBFull
import Derived.Test.YtlkmcdijioiddaaTurnT
import Derived.Test.YtlkmcdijioiddaaProg
namespace Go.Proofs.Ytlkmcdijioiddaa
open Go.RowKit
set_option linter.unusedVariables false
set_option linter.unusedSimpArgs false
set_option maxRecDepth 100000

theorem dropId_add (l : List GSpec) (x : GSpec) (z : Int) : dropId (l ++ [x]) z = dropId l z ++ (if x.ID ≠ z then [x] else []) := by
  unfold dropId
  rw [List.filter_append]
  by_cases h : x.ID = z <;> simp [h]
theorem dropId_len (l : List GSpec) (z : Int) : (dropId l z).length ≤ l.length := List.length_filter_le ..
theorem turn_perm (l : List GSpec) (k : Nat) : l.Perm (l.drop k ++ l.take k) := by
  have := List.perm_append_comm (l₁ := l.take k) (l₂ := l.drop k)
  rwa [List.take_append_drop] at this
theorem cut_lo {s : Sl GSpec} {k : Nat} : (s.cut TSpec k s.xs.length).xs = s.xs.drop k := by unfold Sl.cut; simp
theorem cut_hi {s : Sl GSpec} {k : Nat} : (s.cut TSpec 0 k).xs = s.xs.take k := by unfold Sl.cut; simp
theorem last_of {o : List Int} (h : 0 < o.length) : o = o.take (o.length - 1) ++ [gi o ((o.length : Int) - 1)] := by
  have e := gi_get (l := o) (i := (o.length : Int) - 1) (by omega) (by omega)
  rw [show ((o.length : Int) - 1).toNat = o.length - 1 by omega] at e
  conv => lhs; rw [← List.take_append_drop (o.length - 1) o]
  congr 1
  rw [List.drop_eq_getElem_cons (by omega)]
  rw [List.getElem?_eq_getElem (by omega)] at e
  simp only [Option.some.injEq] at e
  rw [e, show o.length - 1 + 1 = o.length by omega, List.drop_length]


set_option maxHeartbeats 2000000 in
theorem S_law23_BatchTurned (room : Int) (known : Sl GTask) (l : Sl GSpec) (by8 : Int) (hk : known.xs.length ≤ 17592186044416) (hl : l.xs.length ≤ 17592186044416) (hb0 : 0 ≤ by8) (hb1 : by8 ≤ 255) : Fn Try.prog 4 [.int .i64 room, known.val, l.val, .int .u8 by8] [per (Rd TTask known), per (Rd TSpec l)] (fun v_ S_ => v_ = .bool true ∧ S_ []) := by
  refine fn_intro (m := 122) (gs := [(0, .int .i64 room), (1, known.val), (2, l.val), (3, .int .u8 by8)]) Try.func4 rfl rfl rfl rfl (fun t v h => gs_ok (by repeat (first | exact GsOk.nil | refine GsOk.cons (by rfl) ?_)) t v h) (fun F => per (Rd TTask known) :: per (Rd TSpec l) :: F) (fun _ => rfl) (fun E F => ?_)
  have hbig2 := big_is
  refine wc_rdF (s := l) (by ((repeat constructor); first | done | fail)) fun hcapl hbigl hok => ?_
  obtain ⟨M_, hok⟩ := hok
  refine wc_seq ?_
  refine wc_region ?_
  refine wl_q (q_assign rfl) rfl ?_
  refine wl_nil ?_
  refine wq_then ?_
  refine wc_seq ?_
  refine wc_seq ?_
  refine wc_region ?_
  refine wl_q (q_move rfl) rfl ?_
  refine wl_l (lev_callF (S_ref23_Few known 70 hk) rfl rfl (by repeat (first | exact Split.nil | (apply Split.keep; · ((repeat constructor); first | done | fail)) | (apply Split.take; · ((repeat constructor); first | done | fail)) | apply Split.drop)) ?_)
  rintro v_ w_ ⟨rfl, hs_⟩
  (try simp only [List.cons_append, List.nil_append] at hs_)
  refine ⟨_, hs_, ?_⟩
  refine wl_q (q_not rfl) rfl ?_
  refine wl_q (q_move rfl) rfl ?_
  refine wl_split 21 _ rfl (fun hb21 => ?_) (fun hb21 => ?_)
  · have hb21_ := hb21; try simp only [decide_eq_true_eq, decide_eq_false_iff_not, Bool.not_eq_true', Bool.not_eq_false', Decidable.not_not, Int.not_lt, Int.not_le, Bool.and_eq_true, Bool.or_eq_true] at hb21_
    refine wl_skip 21 rfl (lk_bool rfl hb21) (by intro h; cases h) rfl ?_
    refine wl_skip 21 rfl (lk_bool rfl hb21) (by intro h; cases h) rfl ?_
    refine wl_skip 21 rfl (lk_bool rfl hb21) (by intro h; cases h) rfl ?_
    refine wl_q (q_pickT rfl hb21 rfl) rfl ?_
    refine wl_q (q_move rfl) rfl ?_
    refine wl_skip 26 rfl rfl (by intro h; cases h) rfl ?_
    refine wl_skip 26 rfl rfl (by intro h; cases h) rfl ?_
    refine wl_skip 26 rfl rfl (by intro h; cases h) rfl ?_
    refine wl_skip 26 rfl rfl (by intro h; cases h) rfl ?_
    refine wl_skip 26 rfl rfl (by intro h; cases h) rfl ?_
    refine wl_q (q_pickT rfl rfl rfl) rfl ?_
    refine wl_q (q_move rfl) rfl ?_
    refine wl_skip 33 rfl rfl (by intro h; cases h) rfl ?_
    refine wl_skip 33 rfl rfl (by intro h; cases h) rfl ?_
    refine wl_skip 33 rfl rfl (by intro h; cases h) rfl ?_
    refine wl_q (q_pickT rfl rfl rfl) rfl ?_
    refine wl_nil ?_
    refine wq_then ?_
    refine wc_condT _ rfl rfl ?_
    refine wc_seq ?_
    refine wc_region ?_
    refine wl_l (lev_callF (S_law23_alive) rfl rfl (by repeat (first | exact Split.nil | (apply Split.keep; · ((repeat constructor); first | done | fail)) | (apply Split.take; · ((repeat constructor); first | done | fail)) | apply Split.drop)) ?_)
    rintro v_ w_ ⟨rfl, hs_⟩
    (try simp only [List.cons_append, List.nil_append] at hs_)
    refine ⟨_, hs_, ?_⟩
    refine wl_q (q_assign rfl) rfl ?_
    refine wl_nil ?_
    refine wq_then ?_
    refine wc_ret ?_
    refine wq_then_ret ?_
    refine wq_ret rfl (RVs.tmp rfl RVs.nil) (fun w_ hs_ => ?_)
    exact ⟨rfl, Split.use (by repeat (first | exact Split.nil | (apply Split.keep; · ((repeat constructor); first | done | fail)) | (apply Split.take; · ((repeat constructor); first | done | fail)) | apply Split.drop)) hs_⟩
  · have hb21_ := hb21; try simp only [decide_eq_true_eq, decide_eq_false_iff_not, Bool.not_eq_true', Bool.not_eq_false', Decidable.not_not, Int.not_lt, Int.not_le, Bool.and_eq_true, Bool.or_eq_true] at hb21_
    have hf1 := few23_facts (m := 70) (l := known.xs) (by simpa using hb21_)
    refine wl_g 21 rfl (lk_bool rfl hb21) (q_move rfl) rfl ?_
    refine wl_lg 21 rfl (lk_bool rfl hb21) (lev_callF (S_ref22_Few l 20 hl) rfl rfl (by repeat (first | exact Split.nil | (apply Split.keep; · ((repeat constructor); first | done | fail)) | (apply Split.take; · ((repeat constructor); first | done | fail)) | apply Split.drop)) ?_)
    rintro v_ w_ ⟨rfl, hs_⟩
    (try simp only [List.cons_append, List.nil_append] at hs_)
    refine ⟨_, hs_, ?_⟩
    refine wl_g 21 rfl (lk_bool rfl hb21) (q_not rfl) rfl ?_
    refine wl_q (q_pickF rfl hb21 rfl) rfl ?_
    refine wl_q (q_move rfl) rfl ?_
    refine wl_split 26 _ rfl (fun hb26 => ?_) (fun hb26 => ?_)
    · have hb26_ := hb26; try simp only [decide_eq_true_eq, decide_eq_false_iff_not, Bool.not_eq_true', Bool.not_eq_false', Decidable.not_not, Int.not_lt, Int.not_le, Bool.and_eq_true, Bool.or_eq_true] at hb26_
      refine wl_skip 26 rfl (lk_bool rfl hb26) (by intro h; cases h) rfl ?_
      refine wl_skip 26 rfl (lk_bool rfl hb26) (by intro h; cases h) rfl ?_
      refine wl_skip 26 rfl (lk_bool rfl hb26) (by intro h; cases h) rfl ?_
      refine wl_skip 26 rfl (lk_bool rfl hb26) (by intro h; cases h) rfl ?_
      refine wl_skip 26 rfl (lk_bool rfl hb26) (by intro h; cases h) rfl ?_
      refine wl_q (q_pickT rfl hb26 rfl) rfl ?_
      refine wl_q (q_move rfl) rfl ?_
      refine wl_skip 33 rfl rfl (by intro h; cases h) rfl ?_
      refine wl_skip 33 rfl rfl (by intro h; cases h) rfl ?_
      refine wl_skip 33 rfl rfl (by intro h; cases h) rfl ?_
      refine wl_q (q_pickT rfl rfl rfl) rfl ?_
      refine wl_nil ?_
      refine wq_then ?_
      refine wc_condT _ rfl rfl ?_
      refine wc_seq ?_
      refine wc_region ?_
      refine wl_l (lev_callF (S_law23_alive) rfl rfl (by repeat (first | exact Split.nil | (apply Split.keep; · ((repeat constructor); first | done | fail)) | (apply Split.take; · ((repeat constructor); first | done | fail)) | apply Split.drop)) ?_)
      rintro v_ w_ ⟨rfl, hs_⟩
      (try simp only [List.cons_append, List.nil_append] at hs_)
      refine ⟨_, hs_, ?_⟩
      refine wl_q (q_assign rfl) rfl ?_
      refine wl_nil ?_
      refine wq_then ?_
      refine wc_ret ?_
      refine wq_then_ret ?_
      refine wq_ret rfl (RVs.tmp rfl RVs.nil) (fun w_ hs_ => ?_)
      exact ⟨rfl, Split.use (by repeat (first | exact Split.nil | (apply Split.keep; · ((repeat constructor); first | done | fail)) | (apply Split.take; · ((repeat constructor); first | done | fail)) | apply Split.drop)) hs_⟩
    · have hb26_ := hb26; try simp only [decide_eq_true_eq, decide_eq_false_iff_not, Bool.not_eq_true', Bool.not_eq_false', Decidable.not_not, Int.not_lt, Int.not_le, Bool.and_eq_true, Bool.or_eq_true] at hb26_
      obtain ⟨hf2, hf3⟩ := few22_facts (m := 20) (l := l.xs) (by simpa using hb26_)
      refine wl_g 26 rfl (lk_bool rfl hb26) (q_move rfl) rfl ?_
      refine wl_g 26 rfl (lk_bool rfl hb26) (q_move rfl) rfl ?_
      refine wl_g 26 rfl (lk_bool rfl hb26) (q_move rfl) rfl ?_
      refine wl_lg 26 rfl (lk_bool rfl hb26) (lev_callF (S_batch_Check room known l (by omega) (by omega) (fun x hx => by have := hf3 x hx; omega)) rfl rfl (by repeat (first | exact Split.nil | (apply Split.keep; · ((repeat constructor); first | done | fail)) | (apply Split.take; · ((repeat constructor); first | done | fail)) | apply Split.drop)) ?_)
      rintro v_ w_ ⟨rfl, hs_⟩
      (try simp only [List.cons_append, List.nil_append] at hs_)
      refine ⟨_, hs_, ?_⟩
      refine wl_g 26 rfl (lk_bool rfl hb26) (q_neq rfl rfl) rfl ?_
      refine wl_q (q_pickF rfl hb26 rfl) rfl ?_
      refine wl_q (q_move rfl) rfl ?_
      refine wl_split 33 _ rfl (fun hb33 => ?_) (fun hb33 => ?_)
      · have hb33_ := hb33; try simp only [decide_eq_true_eq, decide_eq_false_iff_not, Bool.not_eq_true', Bool.not_eq_false', Decidable.not_not, Int.not_lt, Int.not_le, Bool.and_eq_true, Bool.or_eq_true] at hb33_
        refine wl_skip 33 rfl (lk_bool rfl hb33) (by intro h; cases h) rfl ?_
        refine wl_skip 33 rfl (lk_bool rfl hb33) (by intro h; cases h) rfl ?_
        refine wl_skip 33 rfl (lk_bool rfl hb33) (by intro h; cases h) rfl ?_
        refine wl_q (q_pickT rfl hb33 rfl) rfl ?_
        refine wl_nil ?_
        refine wq_then ?_
        refine wc_condT _ rfl rfl ?_
        refine wc_seq ?_
        refine wc_region ?_
        refine wl_l (lev_callF (S_law23_alive) rfl rfl (by repeat (first | exact Split.nil | (apply Split.keep; · ((repeat constructor); first | done | fail)) | (apply Split.take; · ((repeat constructor); first | done | fail)) | apply Split.drop)) ?_)
        rintro v_ w_ ⟨rfl, hs_⟩
        (try simp only [List.cons_append, List.nil_append] at hs_)
        refine ⟨_, hs_, ?_⟩
        refine wl_q (q_assign rfl) rfl ?_
        refine wl_nil ?_
        refine wq_then ?_
        refine wc_ret ?_
        refine wq_then_ret ?_
        refine wq_ret rfl (RVs.tmp rfl RVs.nil) (fun w_ hs_ => ?_)
        exact ⟨rfl, Split.use (by repeat (first | exact Split.nil | (apply Split.keep; · ((repeat constructor); first | done | fail)) | (apply Split.take; · ((repeat constructor); first | done | fail)) | apply Split.drop)) hs_⟩
      · have hb33_ := hb33; try simp only [decide_eq_true_eq, decide_eq_false_iff_not, Bool.not_eq_true', Bool.not_eq_false', Decidable.not_not, Int.not_lt, Int.not_le, Bool.and_eq_true, Bool.or_eq_true] at hb33_
        have ha := checkB_iff.1 hb33_
        refine wl_g 33 rfl (lk_bool rfl hb33) (q_move rfl) rfl ?_
        refine wl_g 33 rfl (lk_bool rfl hb33) (q_len (e := 67) (by kernel_rfl) rfl) rfl ?_
        refine wl_g 33 rfl (lk_bool rfl hb33) (q_eql rfl rfl) rfl ?_
        refine wl_q (q_pickF rfl hb33 rfl) rfl ?_
        refine wl_nil ?_
        refine wq_then ?_
        refine wc_cond _ rfl (fun hc37 => ?_) (fun hc37 => ?_)
        · have hc37_ := hc37; try simp only [decide_eq_true_eq, decide_eq_false_iff_not, Bool.not_eq_true', Bool.not_eq_false', Decidable.not_not, Int.not_lt, Int.not_le, Bool.and_eq_true, Bool.or_eq_true] at hc37_
          refine wc_seq ?_
          refine wc_region ?_
          refine wl_l (lev_callF (S_law23_alive) rfl rfl (by repeat (first | exact Split.nil | (apply Split.keep; · ((repeat constructor); first | done | fail)) | (apply Split.take; · ((repeat constructor); first | done | fail)) | apply Split.drop)) ?_)
          rintro v_ w_ ⟨rfl, hs_⟩
          (try simp only [List.cons_append, List.nil_append] at hs_)
          refine ⟨_, hs_, ?_⟩
          refine wl_q (q_assign rfl) rfl ?_
          refine wl_nil ?_
          refine wq_then ?_
          refine wc_ret ?_
          refine wq_then_ret ?_
          refine wq_ret rfl (RVs.tmp rfl RVs.nil) (fun w_ hs_ => ?_)
          exact ⟨rfl, Split.use (by repeat (first | exact Split.nil | (apply Split.keep; · ((repeat constructor); first | done | fail)) | (apply Split.take; · ((repeat constructor); first | done | fail)) | apply Split.drop)) hs_⟩
        · have hc37_ := hc37; try simp only [decide_eq_true_eq, decide_eq_false_iff_not, Bool.not_eq_true', Bool.not_eq_false', Decidable.not_not, Int.not_lt, Int.not_le, Bool.and_eq_true, Bool.or_eq_true] at hc37_
          have hpos : 0 < l.xs.length := by omega
          have hm0 := Int.emod_nonneg by8 (b := (l.xs.length : Int)) (by omega)
          have hm1 := Int.emod_lt_of_pos by8 (b := (l.xs.length : Int)) (by omega)
          refine wc_skip ?_
          refine wq_then ?_
          refine wc_seq ?_
          refine wc_region ?_
          refine wl_q (q_move rfl) rfl ?_
          refine wl_q (q_convert (k := .u8) .i64 (by kernel_rfl) (by kernel_rfl) rfl (wrap64_in (by omega) (by omega))) rfl ?_
          refine wl_q (q_move rfl) rfl ?_
          refine wl_q (q_len (e := 67) (by kernel_rfl) rfl) rfl ?_
          refine wl_q (q_rem rfl rfl ⟨by omega, by omega⟩) rfl ?_
          refine wl_q (q_assign rfl) rfl ?_
          refine wl_nil ?_
          refine wq_then ?_
          refine wc_seq ?_
          refine wc_drawB [per (Rd TSpec l)] [1, 2, 3, 5, 6, 7] (by kernel_rfl) ?_
          refine wb_q 1 rfl (by kernel_rfl) (fun _ _ _ h => h) (Ent.of_split (by repeat (first | exact Split.all | exact Split.nil | (apply Split.keep; · ((repeat constructor); first | done | fail)) | (apply Split.take; · ((repeat constructor); first | done | fail)) | apply Split.drop))) (q_move rfl) rfl ?_
          refine wb_q 2 rfl (by kernel_rfl) (fun _ _ _ h => h) (Ent.of_split (by repeat (first | exact Split.all | exact Split.nil | (apply Split.keep; · ((repeat constructor); first | done | fail)) | (apply Split.take; · ((repeat constructor); first | done | fail)) | apply Split.drop))) (q_move rfl) rfl ?_
          refine wb_q 3 rfl (by kernel_rfl) (fun _ _ _ h => h) (Ent.of_split (by repeat (first | exact Split.all | exact Split.nil | (apply Split.keep; · ((repeat constructor); first | done | fail)) | (apply Split.take; · ((repeat constructor); first | done | fail)) | apply Split.drop))) (q_cutL (e := 67) (by kernel_rfl) (by kernel_rfl) rfl rfl (by ((repeat constructor); first | done | fail)) (by first | omega | (dsimp only; omega) | (simp only [Int.toNat_natCast, List.length_set, List.length_append, List.length_cons, List.length_nil] at *; omega)) (by first | omega | (dsimp only; omega) | (simp only [Int.toNat_natCast, List.length_set, List.length_append, List.length_cons, List.length_nil] at *; omega))) rfl ?_
          refine wb_q 5 rfl (by kernel_rfl) (fun _ _ _ h => h) (Ent.of_split (by repeat (first | exact Split.all | exact Split.nil | (apply Split.keep; · ((repeat constructor); first | done | fail)) | (apply Split.take; · ((repeat constructor); first | done | fail)) | apply Split.drop))) (q_move rfl) rfl ?_
          refine wb_q 6 rfl (by kernel_rfl) (fun _ _ _ h => h) (Ent.of_split (by repeat (first | exact Split.all | exact Split.nil | (apply Split.keep; · ((repeat constructor); first | done | fail)) | (apply Split.take; · ((repeat constructor); first | done | fail)) | apply Split.drop))) (q_move rfl) rfl ?_
          refine wb_q 7 rfl (by kernel_rfl) (fun _ _ _ h => h) (Ent.of_split (by repeat (first | exact Split.all | exact Split.nil | (apply Split.keep; · ((repeat constructor); first | done | fail)) | (apply Split.take; · ((repeat constructor); first | done | fail)) | apply Split.drop))) (by first | exact q_cutH (e := 67) (by kernel_rfl) (by kernel_rfl) rfl rfl (by ((repeat constructor); first | done | fail)) (by first | omega | (dsimp only; omega) | (simp only [Int.toNat_natCast, List.length_set, List.length_append, List.length_cons, List.length_nil] at *; omega)) (by first | omega | (dsimp only; omega) | (simp only [Int.toNat_natCast, List.length_set, List.length_append, List.length_cons, List.length_nil] at *; omega)) | exact q_cutHO (e := 67) (by kernel_rfl) (by kernel_rfl) rfl rfl (by ((repeat constructor); first | done | fail)) (by first | omega | (dsimp only; omega) | (simp only [Int.toNat_natCast, List.length_set, List.length_append, List.length_cons, List.length_nil] at *; omega)) (by first | omega | (dsimp only; omega) | (simp only [Int.toNat_natCast, List.length_set, List.length_append, List.length_cons, List.length_nil] at *; omega))) rfl ?_
          refine wb_one 0 (by kernel_rfl) rfl (lev_buildSlice (e := 67) (size := 9) (xs := []) (z := .agg #[(.int .i64 0), (.int .i64 0), (.int .u64 0), (.int .u64 0), (.int .i64 0), (.int .i64 0), (.int .i64 0), (.int .i64 0), (.slice none 0 0)]) (by kernel_rfl) (by kernel_rfl) (by unfold zeroIs; kernel_rfl) rfl rfl rfl .nil rfl fun tb => ?_)
          refine ⟨fun _ => (Ent.of_split (by repeat (first | exact Split.all | exact Split.nil | (apply Split.keep; · ((repeat constructor); first | done | fail)) | (apply Split.take; · ((repeat constructor); first | done | fail)) | apply Split.drop))), ?_⟩
          refine wb_re 44 (Sl.val ⟨some ⟨tb, 0, none⟩, 0, ([] : List GSpec)⟩) rfl ?_
          refine wb_entL (ent_litO (T := TSpec) (m := 0) (ys := []) (b := tb) (by ((repeat constructor); first | done | fail)) rfl rfl (by decide) (fun M z hz => by cases hz)) ?_
          refine wb_entL (ent_cut (s := l) (by ((repeat constructor); first | done | fail)) (by8 % (l.xs.length : Int)).toNat l.xs.length (by omega) (by omega)) ?_
          refine wb_one 4 (by kernel_rfl) rfl (lev_appendR (T := TSpec) (e := 67) (z := .agg #[(.int .i64 0), (.int .i64 0), (.int .u64 0), (.int .u64 0), (.int .i64 0), (.int .i64 0), (.int .i64 0), (.int .i64 0), (.slice none 0 0)]) (by kernel_rfl) (by unfold zeroIs; kernel_rfl) (by kernel_rfl) rfl rfl 88 (by kernel_rfl) rfl rfl rfl (by ((repeat constructor); first | done | fail)) (by ((repeat constructor); first | done | fail)) (⟨by rw [cut_lo]; simp only [big_is, List.length_nil, List.length_drop]; omega, by rw [cut_lo]; simp only [List.length_nil, List.length_drop]; omega, by decide⟩) fun s1 hs1 => ?_)
          refine ⟨fun _ => (Ent.of_split (by repeat (first | exact Split.all | exact Split.nil | (apply Split.keep; · ((repeat constructor); first | done | fail)) | (apply Split.take; · ((repeat constructor); first | done | fail)) | apply Split.drop))), ?_⟩
          refine wb_entL (ent_cut (s := l) (by ((repeat constructor); first | done | fail)) 0 (by8 % (l.xs.length : Int)).toNat (by omega) (by omega)) ?_
          refine wb_one 8 (by kernel_rfl) rfl (lev_appendR (T := TSpec) (e := 67) (z := .agg #[(.int .i64 0), (.int .i64 0), (.int .u64 0), (.int .u64 0), (.int .i64 0), (.int .i64 0), (.int .i64 0), (.int .i64 0), (.slice none 0 0)]) (by kernel_rfl) (by unfold zeroIs; kernel_rfl) (by kernel_rfl) rfl rfl 88 (by kernel_rfl) rfl rfl rfl (by ((repeat constructor); first | done | fail)) (by ((repeat constructor); first | done | fail)) (⟨by rw [hs1, cut_lo, cut_hi]; simp only [big_is, List.length_nil, List.length_append, List.length_drop, List.length_take]; omega, by rw [hs1, cut_lo, cut_hi]; simp only [List.length_nil, List.length_append, List.length_drop, List.length_take]; omega, by decide⟩) fun s2 hs2 => ?_)
          refine ⟨fun _ => (Ent.of_split (by repeat (first | exact Split.all | exact Split.nil | (apply Split.keep; · ((repeat constructor); first | done | fail)) | (apply Split.take; · ((repeat constructor); first | done | fail)) | apply Split.drop))), ?_⟩
          refine wb_one 9 (by kernel_rfl) rfl (LEv.of_q (q_assign rfl) rfl ?_)
          refine ⟨needs_no (by kernel_rfl), ?_⟩
          refine wb_done (by kernel_rfl) ?_
          refine wq_then ?_
          refine wc_seq ?_
          have hturn : s2.xs = l.xs.drop (by8 % (l.xs.length : Int)).toNat ++ l.xs.take (by8 % (l.xs.length : Int)).toNat := by rw [hs2, hs1, cut_lo, cut_hi]; rfl
          have hperm : l.xs.Perm s2.xs := by rw [hturn]; exact turn_perm _ _
          have hat : admits room known.xs s2.xs := admits_perm hperm ha
          have hl2 : s2.xs.length = l.xs.length := hperm.length_eq.symm
          have hf4 : ∀ x ∈ s2.xs, x.After.xs.length ≤ 20 := fun x hx => hf3 x (hperm.mem_iff.2 hx)
          refine wc_entL (ent_rd (s := s2) (by ((repeat constructor); first | done | fail))) ?_
          refine wc_region ?_
          refine wl_q (q_move rfl) rfl ?_
          refine wl_l (lev_callF (S_batch_Order l (by omega) (fun x hx => by have := hf3 x hx; omega)) rfl rfl (by repeat (first | exact Split.nil | (apply Split.keep; · ((repeat constructor); first | done | fail)) | (apply Split.take; · ((repeat constructor); first | done | fail)) | apply Split.drop)) ?_)
          rintro v_ w_ ⟨s3, rfl, hs3, hs35⟩
          (try simp only [List.cons_append, List.nil_append] at hs35)
          refine ⟨_, hs35, ?_⟩
          refine wl_q (q_move rfl) rfl ?_
          refine wl_q (q_extract rfl rfl) rfl ?_
          refine wl_q (q_extract rfl rfl) rfl ?_
          refine wl_q (q_assign rfl) rfl ?_
          refine wl_q (q_assign rfl) rfl ?_
          refine wl_nil ?_
          refine wq_then ?_
          refine wc_seq ?_
          refine wc_region ?_
          refine wl_q (q_move rfl) rfl ?_
          refine wl_l (lev_callF (S_batch_Order s2 (by omega) (fun x hx => by have := hf4 x hx; omega)) rfl rfl (by repeat (first | exact Split.nil | (apply Split.keep; · ((repeat constructor); first | done | fail)) | (apply Split.take; · ((repeat constructor); first | done | fail)) | apply Split.drop)) ?_)
          rintro v_ w_ ⟨s4, rfl, hs4, hs39⟩
          (try simp only [List.cons_append, List.nil_append] at hs39)
          refine ⟨_, hs39, ?_⟩
          refine wl_q (q_move rfl) rfl ?_
          refine wl_q (q_extract rfl rfl) rfl ?_
          refine wl_q (q_extract rfl rfl) rfl ?_
          refine wl_q (q_assign rfl) rfl ?_
          refine wl_q (q_assign rfl) rfl ?_
          refine wl_nil ?_
          refine wq_then ?_
          refine wc_seq ?_
          refine wc_seq ?_
          have hlo : s3.xs.length = l.xs.length := by rw [hs3]; exact admits_len ha
          have hlo4 : s4.xs.length = l.xs.length := by rw [hs4]; rw [← hl2]; exact admits_len hat
          refine wc_entL (ent_rd (s := s3) (by ((repeat constructor); first | done | fail))) ?_
          refine wc_entL (ent_rd (s := s4) (by ((repeat constructor); first | done | fail))) ?_
          refine wc_region ?_
          refine wl_q (q_move rfl) rfl ?_
          refine wl_q (q_move rfl) rfl ?_
          refine wl_q (q_move rfl) rfl ?_
          refine wl_l (lev_callF (S_batch_Check room known s2 (by omega) (by omega) (fun x hx => by have := hf4 x hx; omega)) rfl rfl (by repeat (first | exact Split.nil | (apply Split.keep; · ((repeat constructor); first | done | fail)) | (apply Split.take; · ((repeat constructor); first | done | fail)) | apply Split.drop)) ?_)
          rintro v_ w_ ⟨rfl, hs_⟩
          (try simp only [List.cons_append, List.nil_append] at hs_)
          refine ⟨_, hs_, ?_⟩
          refine wl_q (q_neq rfl rfl) rfl ?_
          refine wl_q (q_move rfl) rfl ?_
          refine wl_split 68 _ rfl (fun hb68 => ?_) (fun hb68 => ?_)
          · have hb68_ := hb68; try simp only [decide_eq_true_eq, decide_eq_false_iff_not, Bool.not_eq_true', Bool.not_eq_false', Decidable.not_not, Int.not_lt, Int.not_le, Bool.and_eq_true, Bool.or_eq_true] at hb68_
            exact absurd (checkB_iff.2 hat) hb68_
          · have hb68_ := hb68; try simp only [decide_eq_true_eq, decide_eq_false_iff_not, Bool.not_eq_true', Bool.not_eq_false', Decidable.not_not, Int.not_lt, Int.not_le, Bool.and_eq_true, Bool.or_eq_true] at hb68_
            refine wl_g 68 rfl (lk_bool rfl hb68) (q_move rfl) rfl ?_
            refine wl_g 68 rfl (lk_bool rfl hb68) (q_not rfl) rfl ?_
            refine wl_q (q_pickF rfl hb68 rfl) rfl ?_
            refine wl_q (q_move rfl) rfl ?_
            refine wl_split 72 _ rfl (fun hb72 => ?_) (fun hb72 => ?_)
            · have hb72_ := hb72; try simp only [decide_eq_true_eq, decide_eq_false_iff_not, Bool.not_eq_true', Bool.not_eq_false', Decidable.not_not, Int.not_lt, Int.not_le, Bool.and_eq_true, Bool.or_eq_true] at hb72_
              exfalso; have h9 := ha.all; rw [← hs3] at h9; simp [h9] at hb72
            · have hb72_ := hb72; try simp only [decide_eq_true_eq, decide_eq_false_iff_not, Bool.not_eq_true', Bool.not_eq_false', Decidable.not_not, Int.not_lt, Int.not_le, Bool.and_eq_true, Bool.or_eq_true] at hb72_
              refine wl_g 72 rfl (lk_bool rfl hb72) (q_move rfl) rfl ?_
              refine wl_g 72 rfl (lk_bool rfl hb72) (q_not rfl) rfl ?_
              refine wl_q (q_pickF rfl hb72 rfl) rfl ?_
              refine wl_q (q_move rfl) rfl ?_
              refine wl_split 76 _ rfl (fun hb76 => ?_) (fun hb76 => ?_)
              · have hb76_ := hb76; try simp only [decide_eq_true_eq, decide_eq_false_iff_not, Bool.not_eq_true', Bool.not_eq_false', Decidable.not_not, Int.not_lt, Int.not_le, Bool.and_eq_true, Bool.or_eq_true] at hb76_
                exfalso; have h9 := hat.all; rw [← hs4] at h9; simp [h9] at hb76
              · have hb76_ := hb76; try simp only [decide_eq_true_eq, decide_eq_false_iff_not, Bool.not_eq_true', Bool.not_eq_false', Decidable.not_not, Int.not_lt, Int.not_le, Bool.and_eq_true, Bool.or_eq_true] at hb76_
                refine wl_g 76 rfl (lk_bool rfl hb76) (q_move rfl) rfl ?_
                refine wl_g 76 rfl (lk_bool rfl hb76) (q_move rfl) rfl ?_
                refine wl_lg 76 rfl (lk_bool rfl hb76) (lev_callF (S_ref01_Ints s3 s4 (by omega) (by omega)) rfl rfl (by repeat (first | exact Split.nil | (apply Split.keep; · ((repeat constructor); first | done | fail)) | (apply Split.take; · ((repeat constructor); first | done | fail)) | apply Split.drop)) ?_)
                rintro v_ w_ ⟨rfl, hs_⟩
                (try simp only [List.cons_append, List.nil_append] at hs_)
                refine ⟨_, hs_, ?_⟩
                refine wl_g 76 rfl (lk_bool rfl hb76) (q_not rfl) rfl ?_
                refine wl_q (q_pickF rfl hb76 rfl) rfl ?_
                refine wl_q (q_move rfl) rfl ?_
                refine wl_split 82 _ rfl (fun hb82 => ?_) (fun hb82 => ?_)
                · have hb82_ := hb82; try simp only [decide_eq_true_eq, decide_eq_false_iff_not, Bool.not_eq_true', Bool.not_eq_false', Decidable.not_not, Int.not_lt, Int.not_le, Bool.and_eq_true, Bool.or_eq_true] at hb82_
                  exfalso; have h9 : s3.xs = s4.xs := by rw [hs3, hs4]; exact orderF_perm hperm
                  simp [h9] at hb82
                · have hb82_ := hb82; try simp only [decide_eq_true_eq, decide_eq_false_iff_not, Bool.not_eq_true', Bool.not_eq_false', Decidable.not_not, Int.not_lt, Int.not_le, Bool.and_eq_true, Bool.or_eq_true] at hb82_
                  refine wl_g 82 rfl (lk_bool rfl hb82) (q_move rfl) rfl ?_
                  refine wl_g 82 rfl (lk_bool rfl hb82) (q_len (e := 3) (by kernel_rfl) rfl) rfl ?_
                  refine wl_g 82 rfl (lk_bool rfl hb82) (q_move rfl) rfl ?_
                  refine wl_g 82 rfl (lk_bool rfl hb82) (q_len (e := 67) (by kernel_rfl) rfl) rfl ?_
                  refine wl_g 82 rfl (lk_bool rfl hb82) (q_neq rfl rfl) rfl ?_
                  refine wl_q (q_pickF rfl hb82 rfl) rfl ?_
                  refine wl_nil ?_
                  refine wq_then ?_
                  refine wc_cond _ rfl (fun hc88 => ?_) (fun hc88 => ?_)
                  · have hc88_ := hc88; try simp only [decide_eq_true_eq, decide_eq_false_iff_not, Bool.not_eq_true', Bool.not_eq_false', Decidable.not_not, Int.not_lt, Int.not_le, Bool.and_eq_true, Bool.or_eq_true] at hc88_
                    exfalso
                    omega
                  · have hc88_ := hc88; try simp only [decide_eq_true_eq, decide_eq_false_iff_not, Bool.not_eq_true', Bool.not_eq_false', Decidable.not_not, Int.not_lt, Int.not_le, Bool.and_eq_true, Bool.or_eq_true] at hc88_
                    refine wc_skip ?_
                    refine wq_then ?_
                    refine wc_seq ?_
                    refine wc_region ?_
                    refine wl_q (q_assign rfl) rfl ?_
                    refine wl_nil ?_
                    refine wq_then ?_
                    refine wc_seq ?_
                    refine wc_seq ?_
                    refine wc_entL (ent_own_nil TSpec 67) ?_
                    refine wc_region ?_
                    refine wl_q (q_move rfl) rfl ?_
                    refine wl_q (q_len (e := 67) (by kernel_rfl) rfl) rfl ?_
                    refine wl_q (q_move rfl) rfl ?_
                    refine wl_nil ?_
                    refine wq_then ?_
                    refine wc_block ?_
                    refine wc_loop (γ := (Int) × (Sl GSpec)) (fun g_ => (0 ≤ g_.1) ∧ (g_.1 ≤ l.xs.length) ∧ (g_.2.xs = dropId (l.xs.take g_.1.toNat) (gi s3.xs ((s3.xs.length : Int) - 1)))) (fun g_ => [(0, .int .i64 room), (1, known.val), (2, l.val), (11, s3.val), (15, g_.2.val), (89, l.val), (90, .int .i64 l.xs.length), (91, .int .i64 g_.1)]) (fun g_ => per (Rd TTask known) :: per (Rd TSpec l) :: per (Rd TInt s3) :: Own TSpec 67 g_.2 :: F) (fun g_ => ((l.xs.length : Int) - g_.1).toNat) ((0, Sl.nil)) (⟨(show 0 ≤ (0 : Int) from (by omega)), (show (0 : Int) ≤ l.xs.length from (by omega)), (show (Sl.nil : Sl GSpec).xs = dropId (l.xs.take (0 : Int).toNat) (gi s3.xs ((s3.xs.length : Int) - 1)) from rfl)⟩) (by repeat (first | exact Sub.nil | refine Sub.cons (by rfl) ?_)) (Ent.of_split (by repeat (first | exact Split.all | exact Split.nil | (apply Split.keep; · ((repeat constructor); first | done | fail)) | (apply Split.take; · ((repeat constructor); first | done | fail)) | apply Split.drop))) ?_
                    rintro ⟨i, r⟩ ⟨h0, h1, hr⟩
                    replace h0 : 0 ≤ i := h0
                    replace h1 : i ≤ l.xs.length := h1
                    replace hr : r.xs = dropId (l.xs.take i.toNat) (gi s3.xs ((s3.xs.length : Int) - 1)) := hr
                    refine wc_ent (gs := [(0, .int .i64 room), (1, known.val), (2, l.val), (11, s3.val), (15, r.val), (89, l.val), (90, .int .i64 l.xs.length), (91, .int .i64 i)]) (by repeat (first | exact Sub.nil | refine Sub.cons (by rfl) ?_)) (L' := per (Rd TTask known) :: per (Rd TSpec l) :: per (Rd TInt s3) :: Own TSpec 67 r :: F) (Ent.refl _) ?_
                    refine wc_seq ?_
                    refine wc_region ?_
                    refine wl_q (q_lss rfl rfl) rfl ?_
                    refine wl_nil ?_
                    refine wq_then ?_
                    refine wc_seq ?_
                    refine wc_cond _ rfl (fun hc92 => ?_) (fun hc92 => ?_)
                    · have hc92_ := hc92; try simp only [decide_eq_true_eq, decide_eq_false_iff_not, Bool.not_eq_true', Bool.not_eq_false', Decidable.not_not, Int.not_lt, Int.not_le, Bool.and_eq_true, Bool.or_eq_true] at hc92_
                      obtain ⟨x, hx⟩ : ∃ x, l.xs[i.toNat]? = some x := ⟨_, List.getElem?_eq_getElem (by omega)⟩
                      have e1 : l.xs.take (i + 1).toNat = l.xs.take i.toNat ++ [x] := by rw [show (i + 1).toNat = i.toNat + 1 by omega]; exact take_succ' hx
                      have hxm := List.mem_of_getElem? hx
                      have hq := dropId_len (l.xs.take i.toNat) (gi s3.xs ((s3.xs.length : Int) - 1))
                      have hq2 : (l.xs.take i.toNat).length = i.toNat := by simp; omega
                      rw [← hr] at hq
                      refine wc_skip ?_
                      refine wq_then ?_
                      refine wc_seq ?_
                      refine wc_block ?_
                      refine wc_seq ?_
                      refine wc_region ?_
                      refine wl_q (by first | exact q_indexR (e := 67) (by kernel_rfl) (by kernel_rfl) rfl rfl (by ((repeat constructor); first | done | fail)) (by first | omega | (dsimp only; omega) | (simp only [Int.toNat_natCast, List.length_set, List.length_append, List.length_cons, List.length_nil] at *; omega)) (by first | omega | (dsimp only; omega) | (simp only [Int.toNat_natCast, List.length_set, List.length_append, List.length_cons, List.length_nil] at *; omega)) | exact q_indexO (e := 67) (by kernel_rfl) (by kernel_rfl) rfl rfl (by ((repeat constructor); first | done | fail)) (by first | omega | (dsimp only; omega) | (simp only [Int.toNat_natCast, List.length_set, List.length_append, List.length_cons, List.length_nil] at *; omega)) (by first | omega | (dsimp only; omega) | (simp only [Int.toNat_natCast, List.length_set, List.length_append, List.length_cons, List.length_nil] at *; omega))) rfl ?_
                      refine wl_q (by first | exact q_elemRA rfl (by kernel_rfl) (by ((repeat constructor); first | done | fail)) (by assumption) | exact q_elemOA rfl (by kernel_rfl) (by ((repeat constructor); first | done | fail)) (by assumption)) rfl ?_
                      refine wl_l (lev_alloc [(.int .i64 0), (.int .i64 0), (.int .u64 0), (.int .u64 0), (.int .i64 0), (.int .i64 0), (.int .i64 0), (.int .i64 0), (.slice none 0 0)] (.agg #[(.int .i64 0), (.int .i64 0), (.int .u64 0), (.int .u64 0), (.int .i64 0), (.int .i64 0), (.int .i64 0), (.int .i64 0), (.slice none 0 0)]) (by kernel_rfl) rfl rfl fun sb => ?_)
                      refine wl_l ?_
                      first | refine lev_store1 rfl rfl rfl (by kernel_rfl) rfl rfl (by ((repeat constructor); first | done | fail)) (by rfl) ?_ | refine lev_storeA rfl rfl (by ((repeat constructor); first | done | fail)) (by rfl) (by kernel_rfl) (by first | exact TThing.one _ | exact TSpec.one _ | exact TTask.one _ | exact TArc.one _ | exact TBounds.one _ | exact fun u hu => List.all_eq_true.1 (rfl : List.all _ (·.oneCell') = true) u hu) rfl ?_
                      refine wl_nil ?_
                      refine wq_then ?_
                      refine wc_seq ?_
                      refine wc_quiet (by kernel_rfl) (by kernel_rfl) ?_
                      refine wlq_q (q_fieldAddr (off := 0) (by kernel_rfl) rfl) rfl ?_
                      refine wlq_q (q_loadC rfl (by kernel_rfl) (by ((repeat constructor); first | done | fail)) (by rfl)) rfl ?_
                      refine wlq_q (q_move rfl) rfl ?_
                      refine wlq_q (q_move rfl) rfl ?_
                      refine wlq_q (q_len (e := 3) (by kernel_rfl) rfl) rfl ?_
                      refine wlq_q (q_sub rfl rfl ⟨by omega, by omega⟩) rfl ?_
                      refine wlq_q (by first | exact q_indexR (e := 3) (by kernel_rfl) (by kernel_rfl) rfl rfl (by ((repeat constructor); first | done | fail)) (by first | omega | (dsimp only; omega) | (simp only [Int.toNat_natCast, List.length_set, List.length_append, List.length_cons, List.length_nil] at *; omega)) (by first | omega | (dsimp only; omega) | (simp only [Int.toNat_natCast, List.length_set, List.length_append, List.length_cons, List.length_nil] at *; omega)) | exact q_indexO (e := 3) (by kernel_rfl) (by kernel_rfl) rfl rfl (by ((repeat constructor); first | done | fail)) (by first | omega | (dsimp only; omega) | (simp only [Int.toNat_natCast, List.length_set, List.length_append, List.length_cons, List.length_nil] at *; omega)) (by first | omega | (dsimp only; omega) | (simp only [Int.toNat_natCast, List.length_set, List.length_append, List.length_cons, List.length_nil] at *; omega))) rfl ?_
                      refine wlq_q (by first | exact q_elemR1 (T := TInt) rfl (by kernel_rfl) (by ((repeat constructor); first | done | fail)) (gi_get (by omega) (by omega)) rfl | exact q_elemO1 (T := TInt) rfl (by kernel_rfl) (by ((repeat constructor); first | done | fail)) (gi_get (by omega) (by omega)) rfl) rfl ?_
                      refine wlq_q (q_neq rfl rfl) rfl ?_
                      refine wlq_nil ?_
                      refine wq_then ?_
                      refine wc_cond _ rfl (fun hc103 => ?_) (fun hc103 => ?_)
                      · have hc103_ := hc103; try simp only [decide_eq_true_eq, decide_eq_false_iff_not, Bool.not_eq_true', Bool.not_eq_false', Decidable.not_not, Int.not_lt, Int.not_le, Bool.and_eq_true, Bool.or_eq_true] at hc103_
                        refine wc_region ?_
                        refine wl_q (q_move rfl) rfl ?_
                        refine wl_q (q_loadCA rfl (by ((repeat constructor); first | done | fail)) (by kernel_rfl)) rfl ?_
                        refine wl_l (lev_buildSlice1 (e := 67) (us := [_, _, _, _, _, _, _, _, _]) (z := .agg #[(.int .i64 0), (.int .i64 0), (.int .u64 0), (.int .u64 0), (.int .i64 0), (.int .i64 0), (.int .i64 0), (.int .i64 0), (.slice none 0 0)]) (by kernel_rfl) (by kernel_rfl) (by unfold zeroIs; kernel_rfl) rfl rfl rfl rfl rfl fun b71 => ?_)
                        refine wl_l (lev_append1 (T := TSpec) (e := 67) (z := .agg #[(.int .i64 0), (.int .i64 0), (.int .u64 0), (.int .u64 0), (.int .i64 0), (.int .i64 0), (.int .i64 0), (.int .i64 0), (.slice none 0 0)]) (x) (by kernel_rfl) (by unfold zeroIs; kernel_rfl) (by kernel_rfl) rfl rfl 88 (by kernel_rfl) rfl rfl rfl (by ((repeat constructor); first | done | fail)) (by ((repeat constructor); first | done | fail)) rfl (.here (q' := Rd TSpec l) (by ((repeat constructor); first | done | fail)) fun M h => h.2.2.1 x hxm) (⟨by simp only [big_is]; omega, by omega, by decide⟩) fun r2 hr2 => ?_)
                        refine wl_q (q_assign rfl) rfl ?_
                        refine wl_nil ?_
                        refine wq_block_normal ?_
                        refine wq_then ?_
                        refine wc_region ?_
                        refine wl_q (q_add rfl rfl ⟨by omega, by omega⟩) rfl ?_
                        refine wl_q (q_move rfl) rfl ?_
                        refine wl_nil ?_
                        exact wq_meet ((i + 1, r2)) (⟨⟨(show 0 ≤ (i + 1 : Int) from (by omega)), (show (i + 1 : Int) ≤ l.xs.length from (by omega)), (show (r2 : Sl GSpec).xs = dropId (l.xs.take (i + 1 : Int).toNat) (gi s3.xs ((s3.xs.length : Int) - 1)) from (by rw [hr2, hr, e1, dropId_add, if_pos hc103_]))⟩, (show ((l.xs.length : Int) - (i + 1 : Int)).toNat < ((l.xs.length : Int) - i).toNat from (by omega))⟩) (by repeat (first | exact Sub.nil | refine Sub.cons (by rfl) ?_)) (Ent.of_split (by repeat (first | exact Split.all | exact Split.nil | (apply Split.keep; · ((repeat constructor); first | done | fail)) | (apply Split.take; · ((repeat constructor); first | done | fail)) | apply Split.drop)))
                      · have hc103_ := hc103; try simp only [decide_eq_true_eq, decide_eq_false_iff_not, Bool.not_eq_true', Bool.not_eq_false', Decidable.not_not, Int.not_lt, Int.not_le, Bool.and_eq_true, Bool.or_eq_true] at hc103_
                        refine wc_skip ?_
                        refine wq_block_normal ?_
                        refine wq_then ?_
                        refine wc_region ?_
                        refine wl_q (q_add rfl rfl ⟨by omega, by omega⟩) rfl ?_
                        refine wl_q (q_move rfl) rfl ?_
                        refine wl_nil ?_
                        exact wq_meet ((i + 1, r)) (⟨⟨(show 0 ≤ (i + 1 : Int) from (by omega)), (show (i + 1 : Int) ≤ l.xs.length from (by omega)), (show (r : Sl GSpec).xs = dropId (l.xs.take (i + 1 : Int).toNat) (gi s3.xs ((s3.xs.length : Int) - 1)) from (by rw [hr, e1, dropId_add, if_neg (fun h => h hc103_), List.append_nil]))⟩, (show ((l.xs.length : Int) - (i + 1 : Int)).toNat < ((l.xs.length : Int) - i).toNat from (by omega))⟩) (by repeat (first | exact Sub.nil | refine Sub.cons (by rfl) ?_)) (Ent.of_split (by repeat (first | exact Split.all | exact Split.nil | (apply Split.keep; · ((repeat constructor); first | done | fail)) | (apply Split.take; · ((repeat constructor); first | done | fail)) | apply Split.drop)))
                    · have hc92_ := hc92; try simp only [decide_eq_true_eq, decide_eq_false_iff_not, Bool.not_eq_true', Bool.not_eq_false', Decidable.not_not, Int.not_lt, Int.not_le, Bool.and_eq_true, Bool.or_eq_true] at hc92_
                      have e0 : l.xs.take i.toNat = l.xs := by rw [show i.toNat = l.xs.length by omega]; simp
                      rw [e0] at hr
                      refine wc_exit ?_
                      refine wq_then_exit ?_
                      refine wq_then_exit ?_
                      refine wq_block_exit ?_
                      refine wq_then ?_
                      refine wc_seq ?_
                      refine wc_entL (ent_rd (s := r) (by ((repeat constructor); first | done | fail))) ?_
                      have hp3 := last_of (o := s3.xs) (by omega)
                      replace hp3 := hs3.symm.trans hp3
                      refine wc_region ?_
                      refine wl_q (q_move rfl) rfl ?_
                      refine wl_q (q_len (e := 67) (by kernel_rfl) rfl) rfl ?_
                      refine wl_q (q_eql rfl rfl) rfl ?_
                      refine wl_q (q_move rfl) rfl ?_
                      refine wl_split 112 _ rfl (fun hb112 => ?_) (fun hb112 => ?_)
                      · have hb112_ := hb112; try simp only [decide_eq_true_eq, decide_eq_false_iff_not, Bool.not_eq_true', Bool.not_eq_false', Decidable.not_not, Int.not_lt, Int.not_le, Bool.and_eq_true, Bool.or_eq_true] at hb112_
                        refine wl_skip 112 rfl (lk_bool rfl hb112) (by intro h; cases h) rfl ?_
                        refine wl_skip 112 rfl (lk_bool rfl hb112) (by intro h; cases h) rfl ?_
                        refine wl_skip 112 rfl (lk_bool rfl hb112) (by intro h; cases h) rfl ?_
                        refine wl_skip 112 rfl (lk_bool rfl hb112) (by intro h; cases h) rfl ?_
                        refine wl_skip 112 rfl (lk_bool rfl hb112) (by intro h; cases h) rfl ?_
                        refine wl_q (q_pickT rfl hb112 rfl) rfl ?_
                        refine wl_q (q_move rfl) rfl ?_
                        refine wl_lg 119 rfl rfl (lev_callF (S_law23_alive) rfl rfl (by repeat (first | exact Split.nil | (apply Split.keep; · ((repeat constructor); first | done | fail)) | (apply Split.take; · ((repeat constructor); first | done | fail)) | apply Split.drop)) ?_)
                        rintro v_ w_ ⟨rfl, hs_⟩
                        (try simp only [List.cons_append, List.nil_append] at hs_)
                        refine ⟨_, hs_, ?_⟩
                        refine wl_q (q_pickT rfl rfl rfl) rfl ?_
                        refine wl_q (q_assign rfl) rfl ?_
                        refine wl_nil ?_
                        refine wq_then ?_
                        refine wc_ret ?_
                        refine wq_ret rfl (RVs.tmp rfl RVs.nil) (fun w_ hs_ => ?_)
                        exact ⟨rfl, Split.use (by repeat (first | exact Split.nil | (apply Split.keep; · ((repeat constructor); first | done | fail)) | (apply Split.take; · ((repeat constructor); first | done | fail)) | apply Split.drop)) hs_⟩
                      · have hb112_ := hb112; try simp only [decide_eq_true_eq, decide_eq_false_iff_not, Bool.not_eq_true', Bool.not_eq_false', Decidable.not_not, Int.not_lt, Int.not_le, Bool.and_eq_true, Bool.or_eq_true] at hb112_
                        refine wl_g 112 rfl (lk_bool rfl hb112) (q_move rfl) rfl ?_
                        refine wl_g 112 rfl (lk_bool rfl hb112) (q_move rfl) rfl ?_
                        refine wl_g 112 rfl (lk_bool rfl hb112) (q_move rfl) rfl ?_
                        refine wl_lg 112 rfl (lk_bool rfl hb112) (lev_callF (S_batch_Check room known r (by omega) (by rw [hr]; have := dropId_len l.xs (gi s3.xs ((s3.xs.length : Int) - 1)); omega) (fun x hx => by rw [hr] at hx; have := hf3 x (mem_dropId.1 hx).1; omega)) rfl rfl (by repeat (first | exact Split.nil | (apply Split.keep; · ((repeat constructor); first | done | fail)) | (apply Split.take; · ((repeat constructor); first | done | fail)) | apply Split.drop)) ?_)
                        rintro v_ w_ ⟨rfl, hs_⟩
                        (try simp only [List.cons_append, List.nil_append] at hs_)
                        refine ⟨_, hs_, ?_⟩
                        refine wl_g 112 rfl (lk_bool rfl hb112) (q_eql rfl rfl) rfl ?_
                        refine wl_q (q_pickF rfl hb112 rfl) rfl ?_
                        refine wl_q (q_move rfl) rfl ?_
                        refine wl_split 119 _ rfl (fun hb119 => ?_) (fun hb119 => ?_)
                        · have hb119_ := hb119; try simp only [decide_eq_true_eq, decide_eq_false_iff_not, Bool.not_eq_true', Bool.not_eq_false', Decidable.not_not, Int.not_lt, Int.not_le, Bool.and_eq_true, Bool.or_eq_true] at hb119_
                          refine wl_lg 119 rfl (lk_bool rfl hb119) (lev_callF (S_law23_alive) rfl rfl (by repeat (first | exact Split.nil | (apply Split.keep; · ((repeat constructor); first | done | fail)) | (apply Split.take; · ((repeat constructor); first | done | fail)) | apply Split.drop)) ?_)
                          rintro v_ w_ ⟨rfl, hs_⟩
                          (try simp only [List.cons_append, List.nil_append] at hs_)
                          refine ⟨_, hs_, ?_⟩
                          refine wl_q (q_pickT rfl hb119 rfl) rfl ?_
                          refine wl_q (q_assign rfl) rfl ?_
                          refine wl_nil ?_
                          refine wq_then ?_
                          refine wc_ret ?_
                          refine wq_ret rfl (RVs.tmp rfl RVs.nil) (fun w_ hs_ => ?_)
                          exact ⟨rfl, Split.use (by repeat (first | exact Split.nil | (apply Split.keep; · ((repeat constructor); first | done | fail)) | (apply Split.take; · ((repeat constructor); first | done | fail)) | apply Split.drop)) hs_⟩
                        · have hb119_ := hb119; try simp only [decide_eq_true_eq, decide_eq_false_iff_not, Bool.not_eq_true', Bool.not_eq_false', Decidable.not_not, Int.not_lt, Int.not_le, Bool.and_eq_true, Bool.or_eq_true] at hb119_
                          exact absurd (checkB_iff.2 (by rw [hr]; exact admits_drop ha hp3 (by omega))) hb119_
end Go.Proofs.Ytlkmcdijioiddaa
