/- Contracts of functions of the program, walked step by step. Not a proof of any statement by itself. -/
import Derived.Test.YtlkmcdijioiddaaAlive23W
import Derived.Test.YtlkmcdijioiddaaProg
namespace Go.Proofs.Ytlkmcdijioiddaa
open Go.RowKit
set_option linter.unusedVariables false
set_option linter.unusedSimpArgs false
set_option maxRecDepth 100000

def kcnt (l : List GTask) (id : Int) : Nat := (l.map (·.Spec.ID)).count id
theorem kcnt_add (l : List GTask) (x : GTask) (id : Int) : kcnt (l ++ [x]) id = kcnt l id + if id = x.Spec.ID then 1 else 0 := by
  unfold kcnt
  rw [List.map_append, List.count_append]
  by_cases h : id = x.Spec.ID
  · simp [h]
  · have : (x.Spec.ID == id) = false := by simpa using fun e => h e.symm
    simp [List.count_cons, this, h]
theorem kcnt_le (l : List GTask) (id : Int) : kcnt l id ≤ l.length := by unfold kcnt; have := List.count_le_length (a := id) (l := l.map (·.Spec.ID)); simpa using this
theorem knF_none {l : List GTask} {id : Int} (h : knF l id = none) : kcnt l id = 0 := by
  unfold knF at h
  simp only [Option.map_eq_none_iff, List.find?_eq_none, decide_eq_true_eq] at h
  unfold kcnt
  rw [List.count_eq_zero]
  intro hm
  obtain ⟨t, ht, e⟩ := List.mem_map.1 hm
  exact h t ht e
theorem knF_some {l : List GTask} {id : Int} (h : (knF l id).isSome = true) : 0 < kcnt l id := by
  unfold knF at h
  rw [Option.isSome_map, List.find?_isSome] at h
  obtain ⟨t, ht, e⟩ := h
  unfold kcnt
  rw [List.count_pos_iff]
  exact List.mem_map.2 ⟨t, ht, by simpa using e⟩
theorem cntF_take (l : List GSpec) (i : Nat) (id : Int) : cntF (l.take i) id ≤ cntF l id := by
  unfold cntF
  exact List.Sublist.count_le _ (List.Sublist.map _ (List.take_sublist ..))
theorem few23_facts {m : Int} {l : List GTask} (h : f_ref23_Few m l = true) : (l.length : Int) ≤ m := by
  unfold f_ref23_Few at h; simp at h; exact h.1
theorem few22_facts {m : Int} {l : List GSpec} (h : f_ref22_Few m l = true) : (l.length : Int) ≤ m ∧ ∀ x ∈ l, x.After.xs.length ≤ 20 := by
  unfold f_ref22_Few at h
  simp only [Bool.and_eq_true, decide_eq_true_eq, List.all_eq_true] at h
  exact ⟨h.1, fun x hx => by have := h.2 x hx; unfold okS20 at this; simp at this; omega⟩
theorem checkB_ok {room : Int} {known : List GTask} {l : List GSpec} (h : checkB room known l = 0) : l.length ≠ 0 ∧ (known.length : Int) + l.length ≤ room ∧ (∀ x ∈ l, kcnt known x.ID = 0 ∧ cntF l x.ID ≤ 1) ∧ (∀ x ∈ l, ∀ id ∈ x.After.xs, 0 < kcnt known id + cntF l id) := by
  unfold checkB at h
  split at h
  · cases h
  · rename_i h1
    split at h
    · rename_i e he
      unfold firstBad at he
      have := List.find?_some he
      simp at this
      exact absurd h this
    · split at h
      · cases h
      · rename_i h2
        split at h
        · cases h
        · rename_i h3
          split at h
          · cases h
          · rename_i h4
            refine ⟨h1, by omega, fun x hx => ?_, fun x hx id hid => ?_⟩
            · have h6 : twiceP known l x = false := by
                cases hq : twiceP known l x with
                | false => rfl
                | true => exact absurd (List.any_eq_true.2 ⟨x, hx, hq⟩) h3
              unfold twiceP at h6
              rw [Bool.or_eq_false_iff, decide_eq_false_iff_not] at h6
              exact ⟨knF_none (by simpa using h6.1), by omega⟩
            · have h7 : thereP known l id = true := by
                cases hq : thereP known l id with
                | true => rfl
                | false => exact absurd (List.any_eq_true.2 ⟨x, hx, List.any_eq_true.2 ⟨id, hid, by rw [hq]; rfl⟩⟩) h4
              unfold thereP at h7
              rw [Bool.or_eq_true, decide_eq_true_eq] at h7
              rcases h7 with h | h
              · have := knF_some h; omega
              · omega
theorem aset_len {l : List (Int × Int)} {k v : Int} (h : aget l k = none) : (aset l k v).length = l.length + 1 := by
  have h1 := akeys_aset k v l
  have h2 : k ∉ akeys l := fun hm => by have := aget_isSome.2 hm; rw [h] at this; cases this
  rw [if_neg h2] at h1
  have := congrArg List.length h1
  rw [length_akeys, List.length_append, length_akeys] at this
  simpa using this
theorem aset_le (l : List (Int × Int)) (k v : Int) : (aset l k v).length ≤ l.length + 1 := by
  have h1 := congrArg List.length (akeys_aset k v l)
  rw [length_akeys] at h1
  split at h1
  · rw [length_akeys] at h1; omega
  · rw [List.length_append, length_akeys] at h1; simp at h1; omega
theorem isSome_aset (l : List (Int × Int)) (k v j : Int) : (aget (aset l k v) j).isSome = if j = k then true else (aget l j).isSome := by rw [aget_aset]; split <;> rfl


set_option maxHeartbeats 2000000 in
theorem S_law23_BatchFull (room : Int) (known : Sl GTask) (l : Sl GSpec) (hk : known.xs.length ≤ 17592186044416) (hl : l.xs.length ≤ 17592186044416) : Fn Try.prog 5 [.int .i64 room, known.val, l.val] [per (Rd TTask known), per (Rd TSpec l)] (fun v_ S_ => v_ = .bool true ∧ S_ []) := by
  refine fn_intro (m := 109) (gs := [(0, .int .i64 room), (1, known.val), (2, l.val)]) Try.func5 rfl rfl rfl rfl (fun t v h => gs_ok (by repeat (first | exact GsOk.nil | refine GsOk.cons (by rfl) ?_)) t v h) (fun F => per (Rd TTask known) :: per (Rd TSpec l) :: F) (fun _ => rfl) (fun E F => ?_)
  have hbig2 := big_is
  refine wc_seq ?_
  refine wc_region ?_
  refine wl_q (q_assign rfl) rfl ?_
  refine wl_nil ?_
  refine wq_then ?_
  refine wc_seq ?_
  refine wc_seq ?_
  refine wc_region ?_
  refine wl_q (q_move rfl) rfl ?_
  refine wl_l (lev_callF (S_ref23_Few known 70 hk) rfl rfl (by repeat (first | exact Split.nil | (apply Split.keep; · ((repeat constructor); first | done | fail)) | (apply Split.take; · ((repeat constructor); first | done | fail)) | apply Split.drop)) ?_)
  rintro v_ w_ ⟨rfl, hs_⟩
  (try simp only [List.cons_append, List.nil_append] at hs_)
  refine ⟨_, hs_, ?_⟩
  refine wl_q (q_not rfl) rfl ?_
  refine wl_q (q_move rfl) rfl ?_
  refine wl_split 20 _ rfl (fun hb20 => ?_) (fun hb20 => ?_)
  · have hb20_ := hb20; try simp only [decide_eq_true_eq, decide_eq_false_iff_not, Bool.not_eq_true', Bool.not_eq_false', Decidable.not_not, Int.not_lt, Int.not_le, Bool.and_eq_true, Bool.or_eq_true] at hb20_
    refine wl_skip 20 rfl (lk_bool rfl hb20) (by intro h; cases h) rfl ?_
    refine wl_skip 20 rfl (lk_bool rfl hb20) (by intro h; cases h) rfl ?_
    refine wl_skip 20 rfl (lk_bool rfl hb20) (by intro h; cases h) rfl ?_
    refine wl_q (q_pickT rfl hb20 rfl) rfl ?_
    refine wl_q (q_move rfl) rfl ?_
    refine wl_skip 25 rfl rfl (by intro h; cases h) rfl ?_
    refine wl_skip 25 rfl rfl (by intro h; cases h) rfl ?_
    refine wl_skip 25 rfl rfl (by intro h; cases h) rfl ?_
    refine wl_skip 25 rfl rfl (by intro h; cases h) rfl ?_
    refine wl_skip 25 rfl rfl (by intro h; cases h) rfl ?_
    refine wl_q (q_pickT rfl rfl rfl) rfl ?_
    refine wl_nil ?_
    refine wq_then ?_
    refine wc_condT _ rfl rfl ?_
    refine wc_seq ?_
    refine wc_region ?_
    refine wl_l (lev_callF (S_law23_alive) rfl rfl (by repeat (first | exact Split.nil | (apply Split.keep; · ((repeat constructor); first | done | fail)) | (apply Split.take; · ((repeat constructor); first | done | fail)) | apply Split.drop)) ?_)
    rintro v_ w_ ⟨rfl, hs_⟩
    (try simp only [List.cons_append, List.nil_append] at hs_)
    refine ⟨_, hs_, ?_⟩
    refine wl_q (q_assign rfl) rfl ?_
    refine wl_nil ?_
    refine wq_then ?_
    refine wc_ret ?_
    refine wq_then_ret ?_
    refine wq_ret rfl (RVs.tmp rfl RVs.nil) (fun w_ hs_ => ?_)
    exact ⟨rfl, Split.use (by repeat (first | exact Split.nil | (apply Split.keep; · ((repeat constructor); first | done | fail)) | (apply Split.take; · ((repeat constructor); first | done | fail)) | apply Split.drop)) hs_⟩
  · have hb20_ := hb20; try simp only [decide_eq_true_eq, decide_eq_false_iff_not, Bool.not_eq_true', Bool.not_eq_false', Decidable.not_not, Int.not_lt, Int.not_le, Bool.and_eq_true, Bool.or_eq_true] at hb20_
    have hf1 := few23_facts (m := 70) (l := known.xs) (by simpa using hb20_)
    refine wl_g 20 rfl (lk_bool rfl hb20) (q_move rfl) rfl ?_
    refine wl_lg 20 rfl (lk_bool rfl hb20) (lev_callF (S_ref22_Few l 30 hl) rfl rfl (by repeat (first | exact Split.nil | (apply Split.keep; · ((repeat constructor); first | done | fail)) | (apply Split.take; · ((repeat constructor); first | done | fail)) | apply Split.drop)) ?_)
    rintro v_ w_ ⟨rfl, hs_⟩
    (try simp only [List.cons_append, List.nil_append] at hs_)
    refine ⟨_, hs_, ?_⟩
    refine wl_g 20 rfl (lk_bool rfl hb20) (q_not rfl) rfl ?_
    refine wl_q (q_pickF rfl hb20 rfl) rfl ?_
    refine wl_q (q_move rfl) rfl ?_
    refine wl_split 25 _ rfl (fun hb25 => ?_) (fun hb25 => ?_)
    · have hb25_ := hb25; try simp only [decide_eq_true_eq, decide_eq_false_iff_not, Bool.not_eq_true', Bool.not_eq_false', Decidable.not_not, Int.not_lt, Int.not_le, Bool.and_eq_true, Bool.or_eq_true] at hb25_
      refine wl_skip 25 rfl (lk_bool rfl hb25) (by intro h; cases h) rfl ?_
      refine wl_skip 25 rfl (lk_bool rfl hb25) (by intro h; cases h) rfl ?_
      refine wl_skip 25 rfl (lk_bool rfl hb25) (by intro h; cases h) rfl ?_
      refine wl_skip 25 rfl (lk_bool rfl hb25) (by intro h; cases h) rfl ?_
      refine wl_skip 25 rfl (lk_bool rfl hb25) (by intro h; cases h) rfl ?_
      refine wl_q (q_pickT rfl hb25 rfl) rfl ?_
      refine wl_nil ?_
      refine wq_then ?_
      refine wc_condT _ rfl rfl ?_
      refine wc_seq ?_
      refine wc_region ?_
      refine wl_l (lev_callF (S_law23_alive) rfl rfl (by repeat (first | exact Split.nil | (apply Split.keep; · ((repeat constructor); first | done | fail)) | (apply Split.take; · ((repeat constructor); first | done | fail)) | apply Split.drop)) ?_)
      rintro v_ w_ ⟨rfl, hs_⟩
      (try simp only [List.cons_append, List.nil_append] at hs_)
      refine ⟨_, hs_, ?_⟩
      refine wl_q (q_assign rfl) rfl ?_
      refine wl_nil ?_
      refine wq_then ?_
      refine wc_ret ?_
      refine wq_then_ret ?_
      refine wq_ret rfl (RVs.tmp rfl RVs.nil) (fun w_ hs_ => ?_)
      exact ⟨rfl, Split.use (by repeat (first | exact Split.nil | (apply Split.keep; · ((repeat constructor); first | done | fail)) | (apply Split.take; · ((repeat constructor); first | done | fail)) | apply Split.drop)) hs_⟩
    · have hb25_ := hb25; try simp only [decide_eq_true_eq, decide_eq_false_iff_not, Bool.not_eq_true', Bool.not_eq_false', Decidable.not_not, Int.not_lt, Int.not_le, Bool.and_eq_true, Bool.or_eq_true] at hb25_
      obtain ⟨hf2, hf3⟩ := few22_facts (m := 30) (l := l.xs) (by simpa using hb25_)
      refine wl_g 25 rfl (lk_bool rfl hb25) (q_move rfl) rfl ?_
      refine wl_g 25 rfl (lk_bool rfl hb25) (q_move rfl) rfl ?_
      refine wl_g 25 rfl (lk_bool rfl hb25) (q_move rfl) rfl ?_
      refine wl_lg 25 rfl (lk_bool rfl hb25) (lev_callF (S_batch_Check room known l (by omega) (by omega) (fun x hx => by have := hf3 x hx; omega)) rfl rfl (by repeat (first | exact Split.nil | (apply Split.keep; · ((repeat constructor); first | done | fail)) | (apply Split.take; · ((repeat constructor); first | done | fail)) | apply Split.drop)) ?_)
      rintro v_ w_ ⟨rfl, hs_⟩
      (try simp only [List.cons_append, List.nil_append] at hs_)
      refine ⟨_, hs_, ?_⟩
      refine wl_g 25 rfl (lk_bool rfl hb25) (q_neq rfl rfl) rfl ?_
      refine wl_q (q_pickF rfl hb25 rfl) rfl ?_
      refine wl_nil ?_
      refine wq_then ?_
      refine wc_cond _ rfl (fun hc31 => ?_) (fun hc31 => ?_)
      · have hc31_ := hc31; try simp only [decide_eq_true_eq, decide_eq_false_iff_not, Bool.not_eq_true', Bool.not_eq_false', Decidable.not_not, Int.not_lt, Int.not_le, Bool.and_eq_true, Bool.or_eq_true] at hc31_
        refine wc_seq ?_
        refine wc_region ?_
        refine wl_l (lev_callF (S_law23_alive) rfl rfl (by repeat (first | exact Split.nil | (apply Split.keep; · ((repeat constructor); first | done | fail)) | (apply Split.take; · ((repeat constructor); first | done | fail)) | apply Split.drop)) ?_)
        rintro v_ w_ ⟨rfl, hs_⟩
        (try simp only [List.cons_append, List.nil_append] at hs_)
        refine ⟨_, hs_, ?_⟩
        refine wl_q (q_assign rfl) rfl ?_
        refine wl_nil ?_
        refine wq_then ?_
        refine wc_ret ?_
        refine wq_then_ret ?_
        refine wq_ret rfl (RVs.tmp rfl RVs.nil) (fun w_ hs_ => ?_)
        exact ⟨rfl, Split.use (by repeat (first | exact Split.nil | (apply Split.keep; · ((repeat constructor); first | done | fail)) | (apply Split.take; · ((repeat constructor); first | done | fail)) | apply Split.drop)) hs_⟩
      · have hc31_ := hc31; try simp only [decide_eq_true_eq, decide_eq_false_iff_not, Bool.not_eq_true', Bool.not_eq_false', Decidable.not_not, Int.not_lt, Int.not_le, Bool.and_eq_true, Bool.or_eq_true] at hc31_
        obtain ⟨c1, c2, c3, c4⟩ := checkB_ok hc31_
        refine wc_skip ?_
        refine wq_then ?_
        refine wc_seq ?_
        refine wc_region ?_
        refine wl_l (lev_makeMapI rfl fun im => ?_)
        refine wl_q (q_assign rfl) rfl ?_
        refine wl_nil ?_
        refine wq_then ?_
        refine wc_seq ?_
        refine wc_seq ?_
        refine wc_region ?_
        refine wl_q (q_move rfl) rfl ?_
        refine wl_q (q_len (e := 71) (by kernel_rfl) rfl) rfl ?_
        refine wl_q (q_move rfl) rfl ?_
        refine wl_nil ?_
        refine wq_then ?_
        refine wc_block ?_
        refine wc_loop (γ := (Int) × (List (Int × Int))) (fun g_ => (0 ≤ g_.1) ∧ (g_.1 ≤ known.xs.length) ∧ (∀ k, (aget g_.2 k).getD 0 = (kcnt (known.xs.take g_.1.toNat) k : Int)) ∧ (∀ k, (aget g_.2 k).isSome = decide (0 < kcnt (known.xs.take g_.1.toNat) k)) ∧ ((g_.2.length : Int) ≤ g_.1)) (fun g_ => [(0, .int .i64 room), (1, known.val), (2, l.val), (7, .map (some im)), (34, known.val), (35, .int .i64 known.xs.length), (36, .int .i64 g_.1)]) (fun g_ => mpI im g_.2 :: per (Rd TTask known) :: per (Rd TSpec l) :: F) (fun g_ => ((known.xs.length : Int) - g_.1).toNat) ((0, [])) (⟨(show 0 ≤ (0 : Int) from (by omega)), (show (0 : Int) ≤ known.xs.length from (by omega)), (show ∀ k, (aget ([] : List (Int × Int)) k).getD 0 = (kcnt (known.xs.take (0 : Int).toNat) k : Int) from (fun k => rfl)), (show ∀ k, (aget ([] : List (Int × Int)) k).isSome = decide (0 < kcnt (known.xs.take (0 : Int).toNat) k) from (fun k => rfl)), (show (([] : List (Int × Int)).length : Int) ≤ (0 : Int) from (by simp))⟩) (by repeat (first | exact Sub.nil | refine Sub.cons (by rfl) ?_)) (Ent.of_split (by repeat (first | exact Split.all | exact Split.nil | (apply Split.keep; · ((repeat constructor); first | done | fail)) | (apply Split.take; · ((repeat constructor); first | done | fail)) | apply Split.drop))) ?_
        rintro ⟨i, m⟩ ⟨h0, h1, h2, h3, h4⟩
        replace h0 : 0 ≤ i := h0
        replace h1 : i ≤ known.xs.length := h1
        replace h2 : ∀ k, (aget m k).getD 0 = (kcnt (known.xs.take i.toNat) k : Int) := h2
        replace h3 : ∀ k, (aget m k).isSome = decide (0 < kcnt (known.xs.take i.toNat) k) := h3
        replace h4 : (m.length : Int) ≤ i := h4
        refine wc_ent (gs := [(0, .int .i64 room), (1, known.val), (2, l.val), (7, .map (some im)), (34, known.val), (35, .int .i64 known.xs.length), (36, .int .i64 i)]) (by repeat (first | exact Sub.nil | refine Sub.cons (by rfl) ?_)) (L' := mpI im m :: per (Rd TTask known) :: per (Rd TSpec l) :: F) (Ent.refl _) ?_
        refine wc_seq ?_
        refine wc_region ?_
        refine wl_q (q_lss rfl rfl) rfl ?_
        refine wl_nil ?_
        refine wq_then ?_
        refine wc_seq ?_
        refine wc_cond _ rfl (fun hc37 => ?_) (fun hc37 => ?_)
        · have hc37_ := hc37; try simp only [decide_eq_true_eq, decide_eq_false_iff_not, Bool.not_eq_true', Bool.not_eq_false', Decidable.not_not, Int.not_lt, Int.not_le, Bool.and_eq_true, Bool.or_eq_true] at hc37_
          obtain ⟨x, hx⟩ : ∃ x, known.xs[i.toNat]? = some x := ⟨_, List.getElem?_eq_getElem (by omega)⟩
          have e1 : known.xs.take (i + 1).toNat = known.xs.take i.toNat ++ [x] := by rw [show (i + 1).toNat = i.toNat + 1 by omega]; exact take_succ' hx
          have hq := h2 x.Spec.ID
          have hq2 := kcnt_le (known.xs.take i.toNat) x.Spec.ID
          have hq3 : (known.xs.take i.toNat).length = i.toNat := by simp; omega
          refine wc_skip ?_
          refine wq_then ?_
          refine wc_seq ?_
          refine wc_block ?_
          refine wc_seq ?_
          refine wc_region ?_
          refine wl_q (by first | exact q_indexR (e := 71) (by kernel_rfl) (by kernel_rfl) rfl rfl (by ((repeat constructor); first | done | fail)) (by first | omega | (dsimp only; omega) | (simp only [Int.toNat_natCast, List.length_set, List.length_append, List.length_cons, List.length_nil] at *; omega)) (by first | omega | (dsimp only; omega) | (simp only [Int.toNat_natCast, List.length_set, List.length_append, List.length_cons, List.length_nil] at *; omega)) | exact q_indexO (e := 71) (by kernel_rfl) (by kernel_rfl) rfl rfl (by ((repeat constructor); first | done | fail)) (by first | omega | (dsimp only; omega) | (simp only [Int.toNat_natCast, List.length_set, List.length_append, List.length_cons, List.length_nil] at *; omega)) (by first | omega | (dsimp only; omega) | (simp only [Int.toNat_natCast, List.length_set, List.length_append, List.length_cons, List.length_nil] at *; omega))) rfl ?_
          refine wl_q (by first | exact q_elemRA rfl (by kernel_rfl) (by ((repeat constructor); first | done | fail)) (by assumption) | exact q_elemOA rfl (by kernel_rfl) (by ((repeat constructor); first | done | fail)) (by assumption)) rfl ?_
          refine wl_l (lev_alloc [(.int .i64 0), (.int .i64 0), (.int .u64 0), (.int .u64 0), (.int .i64 0), (.int .i64 0), (.int .i64 0), (.int .i64 0), (.slice none 0 0), (.int .i64 0), (.int .i64 0), (.int .i64 0), (.int .i64 0), (.slice none 0 0)] (.agg #[(.int .i64 0), (.int .i64 0), (.int .u64 0), (.int .u64 0), (.int .i64 0), (.int .i64 0), (.int .i64 0), (.int .i64 0), (.slice none 0 0), (.int .i64 0), (.int .i64 0), (.int .i64 0), (.int .i64 0), (.slice none 0 0)]) (by kernel_rfl) rfl rfl fun tb => ?_)
          refine wl_l ?_
          first | refine lev_store1 rfl rfl rfl (by kernel_rfl) rfl rfl (by ((repeat constructor); first | done | fail)) (by rfl) ?_ | refine lev_storeA rfl rfl (by ((repeat constructor); first | done | fail)) (by rfl) (by kernel_rfl) (by first | exact TThing.one _ | exact TSpec.one _ | exact TTask.one _ | exact TArc.one _ | exact TBounds.one _ | exact fun u hu => List.all_eq_true.1 (rfl : List.all _ (·.oneCell') = true) u hu) rfl ?_
          refine wl_nil ?_
          refine wq_then ?_
          refine wc_region ?_
          refine wl_q (q_move rfl) rfl ?_
          refine wl_q (q_fieldAddr (off := 0) (by kernel_rfl) rfl) rfl ?_
          refine wl_q (q_fieldAddr (off := 0) (by kernel_rfl) rfl) rfl ?_
          refine wl_q (q_loadC rfl (by kernel_rfl) (by ((repeat constructor); first | done | fail)) (by rfl)) rfl ?_
          refine wl_q (q_lookupI (kt := 3) (et := 3) (by kernel_rfl) (by kernel_rfl) (by unfold zeroIs; kernel_rfl) rfl rfl (by ((repeat constructor); first | done | fail))) rfl ?_
          refine wl_q (q_add rfl rfl ⟨by omega, by omega⟩) rfl ?_
          refine wl_l (lev_mapUpdateI (kt := 3) (et := 3) (by kernel_rfl) (by kernel_rfl) rfl rfl rfl rfl (by ((repeat constructor); first | done | fail)) ?_)
          refine wl_nil ?_
          refine wq_block_normal ?_
          refine wq_then ?_
          refine wc_region ?_
          refine wl_q (q_add rfl rfl ⟨by omega, by omega⟩) rfl ?_
          refine wl_q (q_move rfl) rfl ?_
          refine wl_nil ?_
          have hN : ∀ k, (aget (aset m x.Spec.ID ((aget m x.Spec.ID).getD 0 + 1)) k).getD 0 = (kcnt (known.xs.take (i + 1).toNat) k : Int) := by
            intro k
            rw [e1, kcnt_add, aget_aset]
            by_cases e : k = x.Spec.ID
            · rw [if_pos e, if_pos e, Option.getD_some, h2 x.Spec.ID, e]; omega
            · rw [if_neg e, if_neg e, h2 k]; omega
          have hS : ∀ k, (aget (aset m x.Spec.ID ((aget m x.Spec.ID).getD 0 + 1)) k).isSome = decide (0 < kcnt (known.xs.take (i + 1).toNat) k) := by
            intro k
            rw [e1, kcnt_add, isSome_aset]
            by_cases e : k = x.Spec.ID
            · rw [if_pos e, if_pos e]; symm; rw [decide_eq_true_eq]; omega
            · rw [if_neg e, if_neg e, h3 k]; simp
          exact wq_meet ((i + 1, aset m x.Spec.ID ((aget m x.Spec.ID).getD 0 + 1))) (⟨⟨(show 0 ≤ (i + 1 : Int) from (by omega)), (show (i + 1 : Int) ≤ known.xs.length from (by omega)), (show ∀ k, (aget (aset m x.Spec.ID ((aget m x.Spec.ID).getD 0 + 1) : List (Int × Int)) k).getD 0 = (kcnt (known.xs.take (i + 1 : Int).toNat) k : Int) from hN), (show ∀ k, (aget (aset m x.Spec.ID ((aget m x.Spec.ID).getD 0 + 1) : List (Int × Int)) k).isSome = decide (0 < kcnt (known.xs.take (i + 1 : Int).toNat) k) from hS), (show ((aset m x.Spec.ID ((aget m x.Spec.ID).getD 0 + 1) : List (Int × Int)).length : Int) ≤ (i + 1 : Int) from (by have := aset_le m x.Spec.ID ((aget m x.Spec.ID).getD 0 + 1); omega))⟩, (show ((known.xs.length : Int) - (i + 1 : Int)).toNat < ((known.xs.length : Int) - i).toNat from (by omega))⟩) (by repeat (first | exact Sub.nil | refine Sub.cons (by rfl) ?_)) (Ent.of_split (by repeat (first | exact Split.all | exact Split.nil | (apply Split.keep; · ((repeat constructor); first | done | fail)) | (apply Split.take; · ((repeat constructor); first | done | fail)) | apply Split.drop)))
        · have hc37_ := hc37; try simp only [decide_eq_true_eq, decide_eq_false_iff_not, Bool.not_eq_true', Bool.not_eq_false', Decidable.not_not, Int.not_lt, Int.not_le, Bool.and_eq_true, Bool.or_eq_true] at hc37_
          have e0 : known.xs.take i.toNat = known.xs := by rw [show i.toNat = known.xs.length by omega]; simp
          rw [e0] at h2 h3
          refine wc_exit ?_
          refine wq_then_exit ?_
          refine wq_then_exit ?_
          refine wq_block_exit ?_
          refine wq_then ?_
          refine wc_seq ?_
          refine wc_region ?_
          refine wl_q (q_move rfl) rfl ?_
          refine wl_q (q_lenMI (kt := 3) (et := 3) (by kernel_rfl) rfl (by ((repeat constructor); first | done | fail))) rfl ?_
          refine wl_q (q_assign rfl) rfl ?_
          refine wl_nil ?_
          refine wq_then ?_
          refine wc_seq ?_
          refine wc_seq ?_
          refine wc_region ?_
          refine wl_q (q_move rfl) rfl ?_
          refine wl_q (q_len (e := 67) (by kernel_rfl) rfl) rfl ?_
          refine wl_q (q_move rfl) rfl ?_
          refine wl_nil ?_
          refine wq_then ?_
          refine wc_block ?_
          refine wc_loop (γ := (Int) × (List (Int × Int))) (fun g_ => (0 ≤ g_.1) ∧ (g_.1 ≤ l.xs.length) ∧ (∀ k, (aget g_.2 k).getD 0 = (kcnt known.xs k + cntF (l.xs.take g_.1.toNat) k : Nat)) ∧ (∀ k, (aget g_.2 k).isSome = decide (0 < kcnt known.xs k + cntF (l.xs.take g_.1.toNat) k)) ∧ ((g_.2.length : Int) = m.length + g_.1)) (fun g_ => [(0, .int .i64 room), (1, known.val), (2, l.val), (7, .map (some im)), (10, .int .i64 m.length), (49, l.val), (50, .int .i64 l.xs.length), (51, .int .i64 g_.1)]) (fun g_ => mpI im g_.2 :: per (Rd TTask known) :: per (Rd TSpec l) :: F) (fun g_ => ((l.xs.length : Int) - g_.1).toNat) ((0, m)) (⟨(show 0 ≤ (0 : Int) from (by omega)), (show (0 : Int) ≤ l.xs.length from (by omega)), (show ∀ k, (aget (m : List (Int × Int)) k).getD 0 = (kcnt known.xs k + cntF (l.xs.take (0 : Int).toNat) k : Nat) from (fun k => by rw [h2 k]; rfl)), (show ∀ k, (aget (m : List (Int × Int)) k).isSome = decide (0 < kcnt known.xs k + cntF (l.xs.take (0 : Int).toNat) k) from (fun k => by rw [h3 k]; rfl)), (show ((m : List (Int × Int)).length : Int) = m.length + (0 : Int) from (by omega))⟩) (by repeat (first | exact Sub.nil | refine Sub.cons (by rfl) ?_)) (Ent.of_split (by repeat (first | exact Split.all | exact Split.nil | (apply Split.keep; · ((repeat constructor); first | done | fail)) | (apply Split.take; · ((repeat constructor); first | done | fail)) | apply Split.drop))) ?_
          rintro ⟨i, m2⟩ ⟨h0, h1, g2, g3, g4⟩
          replace h0 : 0 ≤ i := h0
          replace h1 : i ≤ l.xs.length := h1
          replace g2 : ∀ k, (aget m2 k).getD 0 = (kcnt known.xs k + cntF (l.xs.take i.toNat) k : Nat) := g2
          replace g3 : ∀ k, (aget m2 k).isSome = decide (0 < kcnt known.xs k + cntF (l.xs.take i.toNat) k) := g3
          replace g4 : (m2.length : Int) = m.length + i := g4
          refine wc_ent (gs := [(0, .int .i64 room), (1, known.val), (2, l.val), (7, .map (some im)), (10, .int .i64 m.length), (49, l.val), (50, .int .i64 l.xs.length), (51, .int .i64 i)]) (by repeat (first | exact Sub.nil | refine Sub.cons (by rfl) ?_)) (L' := mpI im m2 :: per (Rd TTask known) :: per (Rd TSpec l) :: F) (Ent.refl _) ?_
          refine wc_seq ?_
          refine wc_region ?_
          refine wl_q (q_lss rfl rfl) rfl ?_
          refine wl_nil ?_
          refine wq_then ?_
          refine wc_seq ?_
          refine wc_cond _ rfl (fun hc52 => ?_) (fun hc52 => ?_)
          · have hc52_ := hc52; try simp only [decide_eq_true_eq, decide_eq_false_iff_not, Bool.not_eq_true', Bool.not_eq_false', Decidable.not_not, Int.not_lt, Int.not_le, Bool.and_eq_true, Bool.or_eq_true] at hc52_
            obtain ⟨x, hx⟩ : ∃ x, l.xs[i.toNat]? = some x := ⟨_, List.getElem?_eq_getElem (by omega)⟩
            have e1 : l.xs.take (i + 1).toNat = l.xs.take i.toNat ++ [x] := by rw [show (i + 1).toNat = i.toNat + 1 by omega]; exact take_succ' hx
            have hxm := List.mem_of_getElem? hx
            obtain ⟨d1, d2⟩ := c3 x hxm
            have d3 := cntF_take l.xs (i + 1).toNat x.ID
            rw [e1, cntF_add, if_pos rfl] at d3
            have hq := g2 x.ID
            have hnone : aget m2 x.ID = none := by have := g3 x.ID; rw [decide_eq_false (by omega)] at this; simpa using this
            refine wc_skip ?_
            refine wq_then ?_
            refine wc_seq ?_
            refine wc_block ?_
            refine wc_seq ?_
            refine wc_region ?_
            refine wl_q (by first | exact q_indexR (e := 67) (by kernel_rfl) (by kernel_rfl) rfl rfl (by ((repeat constructor); first | done | fail)) (by first | omega | (dsimp only; omega) | (simp only [Int.toNat_natCast, List.length_set, List.length_append, List.length_cons, List.length_nil] at *; omega)) (by first | omega | (dsimp only; omega) | (simp only [Int.toNat_natCast, List.length_set, List.length_append, List.length_cons, List.length_nil] at *; omega)) | exact q_indexO (e := 67) (by kernel_rfl) (by kernel_rfl) rfl rfl (by ((repeat constructor); first | done | fail)) (by first | omega | (dsimp only; omega) | (simp only [Int.toNat_natCast, List.length_set, List.length_append, List.length_cons, List.length_nil] at *; omega)) (by first | omega | (dsimp only; omega) | (simp only [Int.toNat_natCast, List.length_set, List.length_append, List.length_cons, List.length_nil] at *; omega))) rfl ?_
            refine wl_q (by first | exact q_elemRA rfl (by kernel_rfl) (by ((repeat constructor); first | done | fail)) (by assumption) | exact q_elemOA rfl (by kernel_rfl) (by ((repeat constructor); first | done | fail)) (by assumption)) rfl ?_
            refine wl_l (lev_alloc [(.int .i64 0), (.int .i64 0), (.int .u64 0), (.int .u64 0), (.int .i64 0), (.int .i64 0), (.int .i64 0), (.int .i64 0), (.slice none 0 0)] (.agg #[(.int .i64 0), (.int .i64 0), (.int .u64 0), (.int .u64 0), (.int .i64 0), (.int .i64 0), (.int .i64 0), (.int .i64 0), (.slice none 0 0)]) (by kernel_rfl) rfl rfl fun sb => ?_)
            refine wl_l ?_
            first | refine lev_store1 rfl rfl rfl (by kernel_rfl) rfl rfl (by ((repeat constructor); first | done | fail)) (by rfl) ?_ | refine lev_storeA rfl rfl (by ((repeat constructor); first | done | fail)) (by rfl) (by kernel_rfl) (by first | exact TThing.one _ | exact TSpec.one _ | exact TTask.one _ | exact TArc.one _ | exact TBounds.one _ | exact fun u hu => List.all_eq_true.1 (rfl : List.all _ (·.oneCell') = true) u hu) rfl ?_
            refine wl_nil ?_
            refine wq_then ?_
            refine wc_seq ?_
            refine wc_region ?_
            refine wl_q (q_move rfl) rfl ?_
            refine wl_q (q_fieldAddr (off := 0) (by kernel_rfl) rfl) rfl ?_
            refine wl_q (q_loadC rfl (by kernel_rfl) (by ((repeat constructor); first | done | fail)) (by rfl)) rfl ?_
            refine wl_q (q_lookupI (kt := 3) (et := 3) (by kernel_rfl) (by kernel_rfl) (by unfold zeroIs; kernel_rfl) rfl rfl (by ((repeat constructor); first | done | fail))) rfl ?_
            refine wl_q (q_add rfl rfl ⟨by omega, by omega⟩) rfl ?_
            refine wl_l (lev_mapUpdateI (kt := 3) (et := 3) (by kernel_rfl) (by kernel_rfl) rfl rfl rfl rfl (by ((repeat constructor); first | done | fail)) ?_)
            refine wl_nil ?_
            refine wq_then ?_
            refine wc_seq ?_
            refine wc_region ?_
            refine wl_q (q_move rfl) rfl ?_
            refine wl_q (q_fieldAddr (off := 0) (by kernel_rfl) rfl) rfl ?_
            refine wl_q (q_loadC rfl (by kernel_rfl) (by ((repeat constructor); first | done | fail)) (by rfl)) rfl ?_
            refine wl_q (q_lookupI (kt := 3) (et := 3) (by kernel_rfl) (by kernel_rfl) (by unfold zeroIs; kernel_rfl) rfl rfl (by ((repeat constructor); first | done | fail))) rfl ?_
            refine wl_q (q_neq rfl rfl) rfl ?_
            refine wl_nil ?_
            refine wq_then ?_
            refine wc_cond _ rfl (fun hc64 => ?_) (fun hc64 => ?_)
            · have hc64_ := hc64; try simp only [decide_eq_true_eq, decide_eq_false_iff_not, Bool.not_eq_true', Bool.not_eq_false', Decidable.not_not, Int.not_lt, Int.not_le, Bool.and_eq_true, Bool.or_eq_true] at hc64_
              exfalso
              apply hc64_
              rw [aget_aset, if_pos rfl, Option.getD_some]
              omega
            · have hc64_ := hc64; try simp only [decide_eq_true_eq, decide_eq_false_iff_not, Bool.not_eq_true', Bool.not_eq_false', Decidable.not_not, Int.not_lt, Int.not_le, Bool.and_eq_true, Bool.or_eq_true] at hc64_
              refine wc_skip ?_
              refine wq_block_normal ?_
              refine wq_then ?_
              refine wc_region ?_
              refine wl_q (q_add rfl rfl ⟨by omega, by omega⟩) rfl ?_
              refine wl_q (q_move rfl) rfl ?_
              refine wl_nil ?_
              have hN : ∀ k, (aget (aset m2 x.ID ((aget m2 x.ID).getD 0 + 1)) k).getD 0 = (kcnt known.xs k + cntF (l.xs.take (i + 1).toNat) k : Nat) := by
                intro k
                rw [e1, cntF_add, aget_aset]
                by_cases e : k = x.ID
                · rw [if_pos e, if_pos e, Option.getD_some, g2 x.ID, e]; omega
                · rw [if_neg e, if_neg e, g2 k]; omega
              have hS : ∀ k, (aget (aset m2 x.ID ((aget m2 x.ID).getD 0 + 1)) k).isSome = decide (0 < kcnt known.xs k + cntF (l.xs.take (i + 1).toNat) k) := by
                intro k
                rw [e1, cntF_add, isSome_aset]
                by_cases e : k = x.ID
                · rw [if_pos e, if_pos e]; symm; rw [decide_eq_true_eq]; omega
                · rw [if_neg e, if_neg e, g3 k]; simp
              exact wq_meet ((i + 1, aset m2 x.ID ((aget m2 x.ID).getD 0 + 1))) (⟨⟨(show 0 ≤ (i + 1 : Int) from (by omega)), (show (i + 1 : Int) ≤ l.xs.length from (by omega)), (show ∀ k, (aget (aset m2 x.ID ((aget m2 x.ID).getD 0 + 1) : List (Int × Int)) k).getD 0 = (kcnt known.xs k + cntF (l.xs.take (i + 1 : Int).toNat) k : Nat) from hN), (show ∀ k, (aget (aset m2 x.ID ((aget m2 x.ID).getD 0 + 1) : List (Int × Int)) k).isSome = decide (0 < kcnt known.xs k + cntF (l.xs.take (i + 1 : Int).toNat) k) from hS), (show ((aset m2 x.ID ((aget m2 x.ID).getD 0 + 1) : List (Int × Int)).length : Int) = m.length + (i + 1 : Int) from (by rw [aset_len hnone]; omega))⟩, (show ((l.xs.length : Int) - (i + 1 : Int)).toNat < ((l.xs.length : Int) - i).toNat from (by omega))⟩) (by repeat (first | exact Sub.nil | refine Sub.cons (by rfl) ?_)) (Ent.of_split (by repeat (first | exact Split.all | exact Split.nil | (apply Split.keep; · ((repeat constructor); first | done | fail)) | (apply Split.take; · ((repeat constructor); first | done | fail)) | apply Split.drop)))
          · have hc52_ := hc52; try simp only [decide_eq_true_eq, decide_eq_false_iff_not, Bool.not_eq_true', Bool.not_eq_false', Decidable.not_not, Int.not_lt, Int.not_le, Bool.and_eq_true, Bool.or_eq_true] at hc52_
            have e0 : l.xs.take i.toNat = l.xs := by rw [show i.toNat = l.xs.length by omega]; simp
            rw [e0] at g2 g3
            have hi : i = l.xs.length := by omega
            subst hi
            refine wc_exit ?_
            refine wq_then_exit ?_
            refine wq_then_exit ?_
            refine wq_block_exit ?_
            refine wq_then ?_
            refine wc_seq ?_
            refine wc_seq ?_
            refine wc_region ?_
            refine wl_q (q_move rfl) rfl ?_
            refine wl_q (q_len (e := 67) (by kernel_rfl) rfl) rfl ?_
            refine wl_q (q_move rfl) rfl ?_
            refine wl_nil ?_
            refine wq_then ?_
            refine wc_block ?_
            refine wc_loop (γ := (Int)) (fun g_ => (0 ≤ g_) ∧ (g_ ≤ l.xs.length)) (fun g_ => [(0, .int .i64 room), (1, known.val), (2, l.val), (7, .map (some im)), (10, .int .i64 m.length), (66, l.val), (67, .int .i64 l.xs.length), (68, .int .i64 g_)]) (fun g_ => mpI im m2 :: per (Rd TTask known) :: per (Rd TSpec l) :: F) (fun g_ => ((l.xs.length : Int) - g_).toNat) (0) (⟨(show 0 ≤ (0 : Int) from (by omega)), (show (0 : Int) ≤ l.xs.length from (by omega))⟩) (by repeat (first | exact Sub.nil | refine Sub.cons (by rfl) ?_)) (Ent.of_split (by repeat (first | exact Split.all | exact Split.nil | (apply Split.keep; · ((repeat constructor); first | done | fail)) | (apply Split.take; · ((repeat constructor); first | done | fail)) | apply Split.drop))) ?_
            rintro i ⟨h0, h1⟩
            replace h0 : 0 ≤ i := h0
            replace h1 : i ≤ l.xs.length := h1
            refine wc_ent (gs := [(0, .int .i64 room), (1, known.val), (2, l.val), (7, .map (some im)), (10, .int .i64 m.length), (66, l.val), (67, .int .i64 l.xs.length), (68, .int .i64 i)]) (by repeat (first | exact Sub.nil | refine Sub.cons (by rfl) ?_)) (L' := mpI im m2 :: per (Rd TTask known) :: per (Rd TSpec l) :: F) (Ent.refl _) ?_
            refine wc_seq ?_
            refine wc_region ?_
            refine wl_q (q_lss rfl rfl) rfl ?_
            refine wl_nil ?_
            refine wq_then ?_
            refine wc_seq ?_
            refine wc_cond _ rfl (fun hc69 => ?_) (fun hc69 => ?_)
            · have hc69_ := hc69; try simp only [decide_eq_true_eq, decide_eq_false_iff_not, Bool.not_eq_true', Bool.not_eq_false', Decidable.not_not, Int.not_lt, Int.not_le, Bool.and_eq_true, Bool.or_eq_true] at hc69_
              obtain ⟨x, hx⟩ : ∃ x, l.xs[i.toNat]? = some x := ⟨_, List.getElem?_eq_getElem (by omega)⟩
              have hxm := List.mem_of_getElem? hx
              have hq9 := hf3 x hxm
              refine wc_skip ?_
              refine wq_then ?_
              refine wc_seq ?_
              refine wc_block ?_
              refine wc_seq ?_
              refine wc_region ?_
              refine wl_q (by first | exact q_indexR (e := 67) (by kernel_rfl) (by kernel_rfl) rfl rfl (by ((repeat constructor); first | done | fail)) (by first | omega | (dsimp only; omega) | (simp only [Int.toNat_natCast, List.length_set, List.length_append, List.length_cons, List.length_nil] at *; omega)) (by first | omega | (dsimp only; omega) | (simp only [Int.toNat_natCast, List.length_set, List.length_append, List.length_cons, List.length_nil] at *; omega)) | exact q_indexO (e := 67) (by kernel_rfl) (by kernel_rfl) rfl rfl (by ((repeat constructor); first | done | fail)) (by first | omega | (dsimp only; omega) | (simp only [Int.toNat_natCast, List.length_set, List.length_append, List.length_cons, List.length_nil] at *; omega)) (by first | omega | (dsimp only; omega) | (simp only [Int.toNat_natCast, List.length_set, List.length_append, List.length_cons, List.length_nil] at *; omega))) rfl ?_
              refine wl_q (by first | exact q_elemRA rfl (by kernel_rfl) (by ((repeat constructor); first | done | fail)) (by assumption) | exact q_elemOA rfl (by kernel_rfl) (by ((repeat constructor); first | done | fail)) (by assumption)) rfl ?_
              refine wl_l (lev_alloc [(.int .i64 0), (.int .i64 0), (.int .u64 0), (.int .u64 0), (.int .i64 0), (.int .i64 0), (.int .i64 0), (.int .i64 0), (.slice none 0 0)] (.agg #[(.int .i64 0), (.int .i64 0), (.int .u64 0), (.int .u64 0), (.int .i64 0), (.int .i64 0), (.int .i64 0), (.int .i64 0), (.slice none 0 0)]) (by kernel_rfl) rfl rfl fun ub => ?_)
              refine wl_l ?_
              first | refine lev_store1 rfl rfl rfl (by kernel_rfl) rfl rfl (by ((repeat constructor); first | done | fail)) (by rfl) ?_ | refine lev_storeA rfl rfl (by ((repeat constructor); first | done | fail)) (by rfl) (by kernel_rfl) (by first | exact TThing.one _ | exact TSpec.one _ | exact TTask.one _ | exact TArc.one _ | exact TBounds.one _ | exact fun u hu => List.all_eq_true.1 (rfl : List.all _ (·.oneCell') = true) u hu) rfl ?_
              refine wl_nil ?_
              refine wq_then ?_
              refine wc_seq ?_
              refine wc_region ?_
              refine wl_q (q_fieldAddr (off := 8) (by kernel_rfl) rfl) rfl ?_
              refine wl_q (q_loadC rfl (by kernel_rfl) (by ((repeat constructor); first | done | fail)) (by rfl)) rfl ?_
              refine wl_q (q_len (e := 3) (by kernel_rfl) rfl) rfl ?_
              refine wl_q (q_move rfl) rfl ?_
              refine wl_entL (ent_per (q := Rd TInt x.After) (.here (q' := Rd TSpec l) (by ((repeat constructor); first | done | fail)) fun M h => okAfter (h.2.2.1 x hxm))) ?_
              refine wl_nil ?_
              refine wq_then ?_
              refine wc_block ?_
              refine wc_loop (γ := (Int)) (fun g_ => (0 ≤ g_) ∧ (g_ ≤ x.After.xs.length)) (fun g_ => [(0, .int .i64 room), (1, known.val), (2, l.val), (7, .map (some im)), (10, .int .i64 m.length), (66, l.val), (67, .int .i64 l.xs.length), (68, .int .i64 i), (73, x.After.val), (74, .int .i64 x.After.xs.length), (75, .int .i64 g_)]) (fun g_ => mpI im m2 :: per (Rd TTask known) :: per (Rd TSpec l) :: per (Rd TInt x.After) :: F) (fun g_ => ((x.After.xs.length : Int) - g_).toNat) (0) (⟨(show 0 ≤ (0 : Int) from (by omega)), (show (0 : Int) ≤ x.After.xs.length from (by omega))⟩) (by repeat (first | exact Sub.nil | refine Sub.cons (by rfl) ?_)) (Ent.of_split (by repeat (first | exact Split.all | exact Split.nil | (apply Split.keep; · ((repeat constructor); first | done | fail)) | (apply Split.take; · ((repeat constructor); first | done | fail)) | apply Split.drop))) ?_
              rintro j ⟨j0, j1⟩
              replace j0 : 0 ≤ j := j0
              replace j1 : j ≤ x.After.xs.length := j1
              refine wc_ent (gs := [(0, .int .i64 room), (1, known.val), (2, l.val), (7, .map (some im)), (10, .int .i64 m.length), (66, l.val), (67, .int .i64 l.xs.length), (68, .int .i64 i), (73, x.After.val), (74, .int .i64 x.After.xs.length), (75, .int .i64 j)]) (by repeat (first | exact Sub.nil | refine Sub.cons (by rfl) ?_)) (L' := mpI im m2 :: per (Rd TTask known) :: per (Rd TSpec l) :: per (Rd TInt x.After) :: F) (Ent.refl _) ?_
              refine wc_seq ?_
              refine wc_region ?_
              refine wl_q (q_lss rfl rfl) rfl ?_
              refine wl_nil ?_
              refine wq_then ?_
              refine wc_seq ?_
              refine wc_cond _ rfl (fun hc76 => ?_) (fun hc76 => ?_)
              · have hc76_ := hc76; try simp only [decide_eq_true_eq, decide_eq_false_iff_not, Bool.not_eq_true', Bool.not_eq_false', Decidable.not_not, Int.not_lt, Int.not_le, Bool.and_eq_true, Bool.or_eq_true] at hc76_
                have hx0 := gi_get (l := x.After.xs) (i := j) (by omega) (by omega)
                have hq := c4 x hxm _ (List.mem_of_getElem? hx0)
                have hq2 := g2 (gi x.After.xs j)
                refine wc_skip ?_
                refine wq_then ?_
                refine wc_seq ?_
                refine wc_block ?_
                refine wc_seq ?_
                refine wc_region ?_
                refine wl_q (by first | exact q_indexR (e := 3) (by kernel_rfl) (by kernel_rfl) rfl rfl (by ((repeat constructor); first | done | fail)) (by first | omega | (dsimp only; omega) | (simp only [Int.toNat_natCast, List.length_set, List.length_append, List.length_cons, List.length_nil] at *; omega)) (by first | omega | (dsimp only; omega) | (simp only [Int.toNat_natCast, List.length_set, List.length_append, List.length_cons, List.length_nil] at *; omega)) | exact q_indexO (e := 3) (by kernel_rfl) (by kernel_rfl) rfl rfl (by ((repeat constructor); first | done | fail)) (by first | omega | (dsimp only; omega) | (simp only [Int.toNat_natCast, List.length_set, List.length_append, List.length_cons, List.length_nil] at *; omega)) (by first | omega | (dsimp only; omega) | (simp only [Int.toNat_natCast, List.length_set, List.length_append, List.length_cons, List.length_nil] at *; omega))) rfl ?_
                refine wl_q (by first | exact q_elemR1 (T := TInt) rfl (by kernel_rfl) (by ((repeat constructor); first | done | fail)) (gi_get (by omega) (by omega)) rfl | exact q_elemO1 (T := TInt) rfl (by kernel_rfl) (by ((repeat constructor); first | done | fail)) (gi_get (by omega) (by omega)) rfl) rfl ?_
                refine wl_q (q_assign rfl) rfl ?_
                refine wl_nil ?_
                refine wq_then ?_
                refine wc_seq ?_
                refine wc_region ?_
                refine wl_q (q_move rfl) rfl ?_
                refine wl_q (q_move rfl) rfl ?_
                refine wl_q (q_lookupI (kt := 3) (et := 3) (by kernel_rfl) (by kernel_rfl) (by unfold zeroIs; kernel_rfl) rfl rfl (by ((repeat constructor); first | done | fail))) rfl ?_
                refine wl_q (q_eql rfl rfl) rfl ?_
                refine wl_nil ?_
                refine wq_then ?_
                refine wc_cond _ rfl (fun hc82 => ?_) (fun hc82 => ?_)
                · have hc82_ := hc82; try simp only [decide_eq_true_eq, decide_eq_false_iff_not, Bool.not_eq_true', Bool.not_eq_false', Decidable.not_not, Int.not_lt, Int.not_le, Bool.and_eq_true, Bool.or_eq_true] at hc82_
                  exfalso
                  omega
                · have hc82_ := hc82; try simp only [decide_eq_true_eq, decide_eq_false_iff_not, Bool.not_eq_true', Bool.not_eq_false', Decidable.not_not, Int.not_lt, Int.not_le, Bool.and_eq_true, Bool.or_eq_true] at hc82_
                  refine wc_skip ?_
                  refine wq_block_normal ?_
                  refine wq_then ?_
                  refine wc_region ?_
                  refine wl_q (q_add rfl rfl ⟨by omega, by omega⟩) rfl ?_
                  refine wl_q (q_move rfl) rfl ?_
                  refine wl_nil ?_
                  exact wq_meet (j + 1) (⟨⟨(show 0 ≤ (j + 1 : Int) from (by omega)), (show (j + 1 : Int) ≤ x.After.xs.length from (by omega))⟩, (show ((x.After.xs.length : Int) - (j + 1 : Int)).toNat < ((x.After.xs.length : Int) - j).toNat from (by omega))⟩) (by repeat (first | exact Sub.nil | refine Sub.cons (by rfl) ?_)) (Ent.of_split (by repeat (first | exact Split.all | exact Split.nil | (apply Split.keep; · ((repeat constructor); first | done | fail)) | (apply Split.take; · ((repeat constructor); first | done | fail)) | apply Split.drop)))
              · have hc76_ := hc76; try simp only [decide_eq_true_eq, decide_eq_false_iff_not, Bool.not_eq_true', Bool.not_eq_false', Decidable.not_not, Int.not_lt, Int.not_le, Bool.and_eq_true, Bool.or_eq_true] at hc76_
                refine wc_exit ?_
                refine wq_then_exit ?_
                refine wq_then_exit ?_
                refine wq_block_exit ?_
                refine wq_block_normal ?_
                refine wq_then ?_
                refine wc_region ?_
                refine wl_q (q_add rfl rfl ⟨by omega, by omega⟩) rfl ?_
                refine wl_q (q_move rfl) rfl ?_
                refine wl_nil ?_
                exact wq_meet (i + 1) (⟨⟨(show 0 ≤ (i + 1 : Int) from (by omega)), (show (i + 1 : Int) ≤ l.xs.length from (by omega))⟩, (show ((l.xs.length : Int) - (i + 1 : Int)).toNat < ((l.xs.length : Int) - i).toNat from (by omega))⟩) (by repeat (first | exact Sub.nil | refine Sub.cons (by rfl) ?_)) (Ent.of_split (by repeat (first | exact Split.all | exact Split.nil | (apply Split.keep; · ((repeat constructor); first | done | fail)) | (apply Split.take; · ((repeat constructor); first | done | fail)) | apply Split.drop)))
            · have hc69_ := hc69; try simp only [decide_eq_true_eq, decide_eq_false_iff_not, Bool.not_eq_true', Bool.not_eq_false', Decidable.not_not, Int.not_lt, Int.not_le, Bool.and_eq_true, Bool.or_eq_true] at hc69_
              refine wc_exit ?_
              refine wq_then_exit ?_
              refine wq_then_exit ?_
              refine wq_block_exit ?_
              refine wq_then ?_
              refine wc_seq ?_
              refine wc_region ?_
              refine wl_q (q_move rfl) rfl ?_
              refine wl_q (q_lenMI (kt := 3) (et := 3) (by kernel_rfl) rfl (by ((repeat constructor); first | done | fail))) rfl ?_
              refine wl_q (q_move rfl) rfl ?_
              refine wl_q (q_move rfl) rfl ?_
              refine wl_q (q_len (e := 67) (by kernel_rfl) rfl) rfl ?_
              refine wl_q (q_add rfl rfl ⟨by omega, by omega⟩) rfl ?_
              refine wl_q (q_eql rfl rfl) rfl ?_
              refine wl_q (q_move rfl) rfl ?_
              refine wl_split 92 _ rfl (fun hb92 => ?_) (fun hb92 => ?_)
              · have hb92_ := hb92; try simp only [decide_eq_true_eq, decide_eq_false_iff_not, Bool.not_eq_true', Bool.not_eq_false', Decidable.not_not, Int.not_lt, Int.not_le, Bool.and_eq_true, Bool.or_eq_true] at hb92_
                refine wl_g 92 rfl (lk_bool rfl hb92) (q_move rfl) rfl ?_
                refine wl_g 92 rfl (lk_bool rfl hb92) (q_len (e := 67) (by kernel_rfl) rfl) rfl ?_
                refine wl_g 92 rfl (lk_bool rfl hb92) (q_gtr rfl rfl) rfl ?_
                refine wl_q (q_pickT rfl hb92 rfl) rfl ?_
                refine wl_q (q_move rfl) rfl ?_
                refine wl_split 97 _ rfl (fun hb97 => ?_) (fun hb97 => ?_)
                · have hb97_ := hb97; try simp only [decide_eq_true_eq, decide_eq_false_iff_not, Bool.not_eq_true', Bool.not_eq_false', Decidable.not_not, Int.not_lt, Int.not_le, Bool.and_eq_true, Bool.or_eq_true] at hb97_
                  refine wl_g 97 rfl (lk_bool rfl hb97) (q_move rfl) rfl ?_
                  refine wl_g 97 rfl (lk_bool rfl hb97) (q_len (e := 71) (by kernel_rfl) rfl) rfl ?_
                  refine wl_g 97 rfl (lk_bool rfl hb97) (q_move rfl) rfl ?_
                  refine wl_g 97 rfl (lk_bool rfl hb97) (q_len (e := 67) (by kernel_rfl) rfl) rfl ?_
                  refine wl_g 97 rfl (lk_bool rfl hb97) (q_add rfl rfl ⟨by omega, by omega⟩) rfl ?_
                  refine wl_g 97 rfl (lk_bool rfl hb97) (q_move rfl) rfl ?_
                  refine wl_g 97 rfl (lk_bool rfl hb97) (q_leq rfl rfl) rfl ?_
                  refine wl_q (q_pickT rfl hb97 rfl) rfl ?_
                  refine wl_q (q_move rfl) rfl ?_
                  refine wl_split 106 _ rfl (fun hb106 => ?_) (fun hb106 => ?_)
                  · have hb106_ := hb106; try simp only [decide_eq_true_eq, decide_eq_false_iff_not, Bool.not_eq_true', Bool.not_eq_false', Decidable.not_not, Int.not_lt, Int.not_le, Bool.and_eq_true, Bool.or_eq_true] at hb106_
                    refine wl_lg 106 rfl (lk_bool rfl hb106) (lev_callF (S_law23_alive) rfl rfl (by repeat (first | exact Split.nil | (apply Split.keep; · ((repeat constructor); first | done | fail)) | (apply Split.take; · ((repeat constructor); first | done | fail)) | apply Split.drop)) ?_)
                    rintro v_ w_ ⟨rfl, hs_⟩
                    (try simp only [List.cons_append, List.nil_append] at hs_)
                    refine ⟨_, hs_, ?_⟩
                    refine wl_q (q_pickT rfl hb106 rfl) rfl ?_
                    refine wl_q (q_assign rfl) rfl ?_
                    refine wl_nil ?_
                    refine wq_then ?_
                    refine wc_ret ?_
                    refine wq_ret rfl (RVs.tmp rfl RVs.nil) (fun w_ hs_ => ?_)
                    exact ⟨rfl, Split.use (by repeat (first | exact Split.nil | (apply Split.keep; · ((repeat constructor); first | done | fail)) | (apply Split.take; · ((repeat constructor); first | done | fail)) | apply Split.drop)) hs_⟩
                  · have hb106_ := hb106; try simp only [decide_eq_true_eq, decide_eq_false_iff_not, Bool.not_eq_true', Bool.not_eq_false', Decidable.not_not, Int.not_lt, Int.not_le, Bool.and_eq_true, Bool.or_eq_true] at hb106_
                    exfalso; omega
                · have hb97_ := hb97; try simp only [decide_eq_true_eq, decide_eq_false_iff_not, Bool.not_eq_true', Bool.not_eq_false', Decidable.not_not, Int.not_lt, Int.not_le, Bool.and_eq_true, Bool.or_eq_true] at hb97_
                  exfalso; omega
              · have hb92_ := hb92; try simp only [decide_eq_true_eq, decide_eq_false_iff_not, Bool.not_eq_true', Bool.not_eq_false', Decidable.not_not, Int.not_lt, Int.not_le, Bool.and_eq_true, Bool.or_eq_true] at hb92_
                exfalso; apply hb92_; omega
end Go.Proofs.Ytlkmcdijioiddaa
