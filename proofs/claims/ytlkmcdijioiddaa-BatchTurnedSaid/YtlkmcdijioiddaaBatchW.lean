/- Contracts of functions of the program, walked step by step. Not a proof of any statement by itself. -/
import Derived.Test.YtlkmcdijioiddaaTaskW
import Derived.Test.YtlkmcdijioiddaaGraphW
import Derived.Test.YtlkmcdijioiddaaProg
namespace Go.Proofs.Ytlkmcdijioiddaa
open Go.RowKit
set_option linter.unusedVariables false
set_option linter.unusedSimpArgs false
set_option maxRecDepth 100000

def bookc (rk rf : Nat) (l : Sl GSpec) : List Value := [.map (some rk), .map (some rf), l.val]
/-- the status of the first task of an ID -/
def knF (known : List GTask) (id : Int) : Option Int := (known.find? fun t => decide (t.Spec.ID = id)).map (·.Status)
theorem knF_cons (t : GTask) (r : List GTask) (id : Int) : knF (t :: r) id = if id = t.Spec.ID then some t.Status else knF r id := by
  unfold knF
  rw [List.find?_cons]
  by_cases h : id = t.Spec.ID
  · simp [h]
  · have : ¬ t.Spec.ID = id := fun e => h e.symm
    simp [h, this]
def cntF (l : List GSpec) (id : Int) : Nat := (l.map (·.ID)).count id
theorem cntF_add (l : List GSpec) (x : GSpec) (id : Int) : cntF (l ++ [x]) id = cntF l id + if id = x.ID then 1 else 0 := by
  unfold cntF
  rw [List.map_append, List.count_append]
  by_cases h : id = x.ID
  · simp [h]
  · have : (x.ID == id) = false := by simpa using fun e => h e.symm
    simp [List.count_cons, this, h]
theorem cntF_le (l : List GSpec) (id : Int) : cntF l id ≤ l.length := by unfold cntF; have := List.count_le_length (a := id) (l := l.map (·.ID)); simpa using this
theorem okAfter {M : MH} {x : GSpec} (h : TSpec.ok M x) : Rd TInt x.After M := by obtain ⟨_, _, _, _, _, _, h⟩ := h; exact h
theorem sokB_of {M : MH} {x : GSpec} (h : TSpec.ok M x) : sokB x := by obtain ⟨h1, h2, _, _, h3, h4, _⟩ := h; exact ⟨h1, h2, h3, h4⟩


set_option maxHeartbeats 400000 in
theorem S_batch_of (known : Sl GTask) (l : Sl GSpec) (hk : known.xs.length ≤ 17592186044416) (hl : l.xs.length ≤ 17592186044416) : Fn Try.prog 68 [known.val, l.val] [per (Rd TTask known), per (Rd TSpec l)] (fun v_ S_ => ∃ rk rf kn fr, v_ = .agg (bookc rk rf l).toArray ∧ ((∀ id, aget kn id = knF known.xs id) ∧ ∀ id, (aget fr id).getD 0 = (cntF l.xs id : Int)) ∧ S_ [mpI rk kn, mpI rf fr]) := by
  refine fn_intro (m := 49) (gs := [(0, known.val), (1, l.val)]) Try.func68 rfl rfl rfl rfl (fun t v h => gs_ok (by repeat (first | exact GsOk.nil | refine GsOk.cons (by rfl) ?_)) t v h) (fun F => per (Rd TTask known) :: per (Rd TSpec l) :: F) (fun _ => rfl) (fun E F => ?_)
  have hbig2 := big_is
  refine wc_seq ?_
  refine wc_region ?_
  refine wl_l (lev_alloc [(.map none), (.map none), (.slice none 0 0)] (.agg #[(.map none), (.map none), (.slice none 0 0)]) (by kernel_rfl) rfl rfl fun b4 => ?_)
  refine wl_nil ?_
  refine wq_then ?_
  refine wc_seq ?_
  refine wc_region ?_
  refine wl_l (lev_makeMapI rfl fun rk => ?_)
  refine wl_l (lev_makeMapI rfl fun rf => ?_)
  refine wl_q (q_move rfl) rfl ?_
  refine wl_q (q_build (zs := [(.map none), (.map none), (.slice none 0 0)]) (z := .agg #[(.map none), (.map none), (.slice none 0 0)]) (l := [_, _, _]) [(0, 1), (1, 1), (2, 1)] (by kernel_rfl) (by unfold zeroIs; kernel_rfl) rfl rfl (.cons rfl (us := [_]) rfl rfl rfl (.cons rfl (us := [_]) rfl rfl rfl (.cons rfl (us := [_]) rfl rfl rfl .nil)))) rfl ?_
  refine wl_l (lev_alloc [(.map none), (.map none), (.slice none 0 0)] (.agg #[(.map none), (.map none), (.slice none 0 0)]) (by kernel_rfl) rfl rfl fun b5 => ?_)
  refine wl_l ?_
  first | refine lev_store1 rfl rfl rfl (by kernel_rfl) rfl rfl (by ((repeat constructor); first | done | fail)) (by rfl) ?_ | refine lev_storeA rfl rfl (by ((repeat constructor); first | done | fail)) (by rfl) (by kernel_rfl) (by first | exact TThing.one _ | exact TSpec.one _ | exact TTask.one _ | exact TArc.one _ | exact TBounds.one _ | exact fun u hu => List.all_eq_true.1 (rfl : List.all _ (·.oneCell') = true) u hu) rfl ?_
  refine wl_nil ?_
  refine wq_then ?_
  refine wc_seq ?_
  refine wc_seq ?_
  refine wc_region ?_
  refine wl_q (q_move rfl) rfl ?_
  refine wl_q (q_len (e := 71) (by kernel_rfl) rfl) rfl ?_
  refine wl_q (q_move rfl) rfl ?_
  refine wl_nil ?_
  refine wq_then ?_
  refine wc_block ?_
  refine wc_loop (γ := (Int) × (List (Int × Int))) (fun g_ => (0 ≤ g_.1) ∧ (g_.1 ≤ known.xs.length) ∧ (∀ id, aget g_.2 id = knF (known.xs.drop ((known.xs.length : Int) - g_.1).toNat) id)) (fun g_ => [(0, known.val), (1, l.val), (4, .pointer (some ⟨b4, 0, none⟩)), (5, .pointer (some ⟨b5, 0, none⟩)), (15, .int .i64 known.xs.length), (16, .int .i64 g_.1)]) (fun g_ => cb b4 [.map none, .map none, .slice none 0 0] 130 :: cb b5 (bookc rk rf l) 130 :: per (Rd TTask known) :: per (Rd TSpec l) :: mpI rk g_.2 :: mpI rf [] :: F) (fun g_ => ((known.xs.length : Int) - g_.1).toNat) ((0, [])) (⟨(show 0 ≤ (0 : Int) from (by omega)), (show (0 : Int) ≤ known.xs.length from (by omega)), (show ∀ id, aget ([] : List (Int × Int)) id = knF (known.xs.drop ((known.xs.length : Int) - (0 : Int)).toNat) id from (fun id => by rw [show ((known.xs.length : Int) - 0).toNat = known.xs.length by omega, List.drop_length]; rfl))⟩) (by repeat (first | exact Sub.nil | refine Sub.cons (by rfl) ?_)) (Ent.of_split (by repeat (first | exact Split.all | exact Split.nil | (apply Split.keep; · ((repeat constructor); first | done | fail)) | (apply Split.take; · ((repeat constructor); first | done | fail)) | apply Split.drop))) ?_
  rintro ⟨i, kn⟩ ⟨h0, h1, h2⟩
  replace h0 : 0 ≤ i := h0
  replace h1 : i ≤ known.xs.length := h1
  replace h2 : ∀ id, aget kn id = knF (known.xs.drop ((known.xs.length : Int) - i).toNat) id := h2
  refine wc_ent (gs := [(0, known.val), (1, l.val), (4, .pointer (some ⟨b4, 0, none⟩)), (5, .pointer (some ⟨b5, 0, none⟩)), (15, .int .i64 known.xs.length), (16, .int .i64 i)]) (by repeat (first | exact Sub.nil | refine Sub.cons (by rfl) ?_)) (L' := cb b4 [.map none, .map none, .slice none 0 0] 130 :: cb b5 (bookc rk rf l) 130 :: per (Rd TTask known) :: per (Rd TSpec l) :: mpI rk kn :: mpI rf [] :: F) (Ent.refl _) ?_
  refine wc_seq ?_
  refine wc_region ?_
  refine wl_q (q_lss rfl rfl) rfl ?_
  refine wl_nil ?_
  refine wq_then ?_
  refine wc_seq ?_
  refine wc_cond _ rfl (fun hc17 => ?_) (fun hc17 => ?_)
  · have hc17_ := hc17; try simp only [decide_eq_true_eq, decide_eq_false_iff_not, Bool.not_eq_true', Bool.not_eq_false', Decidable.not_not, Int.not_lt, Int.not_le, Bool.and_eq_true, Bool.or_eq_true] at hc17_
    obtain ⟨x, hx⟩ : ∃ x, known.xs[((known.xs.length : Int) - 1 - i).toNat]? = some x := ⟨_, List.getElem?_eq_getElem (by omega)⟩
    have e1 : known.xs.drop ((known.xs.length : Int) - (i + 1)).toNat = x :: known.xs.drop ((known.xs.length : Int) - i).toNat := by
      rw [show ((known.xs.length : Int) - i).toNat = ((known.xs.length : Int) - (i + 1)).toNat + 1 by omega]
      rw [show ((known.xs.length : Int) - 1 - i).toNat = ((known.xs.length : Int) - (i + 1)).toNat by omega, List.getElem?_eq_getElem (by omega)] at hx
      simp only [Option.some.injEq] at hx
      rw [← hx]; exact List.drop_eq_getElem_cons (by omega)
    refine wc_skip ?_
    refine wq_then ?_
    refine wc_seq ?_
    refine wc_block ?_
    refine wc_seq ?_
    refine wc_region ?_
    refine wl_q (q_move rfl) rfl ?_
    refine wl_q (q_assign rfl) rfl ?_
    refine wl_nil ?_
    refine wq_then ?_
    refine wc_seq ?_
    refine wc_region ?_
    refine wl_q (q_move rfl) rfl ?_
    refine wl_q (q_move rfl) rfl ?_
    refine wl_q (q_len (e := 71) (by kernel_rfl) rfl) rfl ?_
    refine wl_q (q_sub rfl rfl ⟨by omega, by omega⟩) rfl ?_
    refine wl_q (q_move rfl) rfl ?_
    refine wl_q (q_sub rfl rfl ⟨by omega, by omega⟩) rfl ?_
    refine wl_q (by first | exact q_indexR (e := 71) (by kernel_rfl) (by kernel_rfl) rfl rfl (by ((repeat constructor); first | done | fail)) (by first | omega | (dsimp only; omega) | (simp only [Int.toNat_natCast, List.length_set, List.length_append, List.length_cons, List.length_nil] at *; omega)) (by first | omega | (dsimp only; omega) | (simp only [Int.toNat_natCast, List.length_set, List.length_append, List.length_cons, List.length_nil] at *; omega)) | exact q_indexO (e := 71) (by kernel_rfl) (by kernel_rfl) rfl rfl (by ((repeat constructor); first | done | fail)) (by first | omega | (dsimp only; omega) | (simp only [Int.toNat_natCast, List.length_set, List.length_append, List.length_cons, List.length_nil] at *; omega)) (by first | omega | (dsimp only; omega) | (simp only [Int.toNat_natCast, List.length_set, List.length_append, List.length_cons, List.length_nil] at *; omega))) rfl ?_
    refine wl_q (by first | exact q_elemRA rfl (by kernel_rfl) (by ((repeat constructor); first | done | fail)) (by assumption) | exact q_elemOA rfl (by kernel_rfl) (by ((repeat constructor); first | done | fail)) (by assumption)) rfl ?_
    refine wl_l (lev_alloc [(.int .i64 0), (.int .i64 0), (.int .u64 0), (.int .u64 0), (.int .i64 0), (.int .i64 0), (.int .i64 0), (.int .i64 0), (.slice none 0 0), (.int .i64 0), (.int .i64 0), (.int .i64 0), (.int .i64 0), (.slice none 0 0)] (.agg #[(.int .i64 0), (.int .i64 0), (.int .u64 0), (.int .u64 0), (.int .i64 0), (.int .i64 0), (.int .i64 0), (.int .i64 0), (.slice none 0 0), (.int .i64 0), (.int .i64 0), (.int .i64 0), (.int .i64 0), (.slice none 0 0)]) (by kernel_rfl) rfl rfl fun b22 => ?_)
    refine wl_l ?_
    first | refine lev_store1 rfl rfl rfl (by kernel_rfl) rfl rfl (by ((repeat constructor); first | done | fail)) (by rfl) ?_ | refine lev_storeA rfl rfl (by ((repeat constructor); first | done | fail)) (by rfl) (by kernel_rfl) (by first | exact TThing.one _ | exact TSpec.one _ | exact TTask.one _ | exact TArc.one _ | exact TBounds.one _ | exact fun u hu => List.all_eq_true.1 (rfl : List.all _ (·.oneCell') = true) u hu) rfl ?_
    refine wl_nil ?_
    refine wq_then ?_
    refine wc_region ?_
    refine wl_q (q_fieldAddr (off := 0) (by kernel_rfl) rfl) rfl ?_
    refine wl_q (q_loadC rfl (by kernel_rfl) (by ((repeat constructor); first | done | fail)) (by rfl)) rfl ?_
    refine wl_q (q_fieldAddr (off := 0) (by kernel_rfl) rfl) rfl ?_
    refine wl_q (q_fieldAddr (off := 0) (by kernel_rfl) rfl) rfl ?_
    refine wl_q (q_loadC rfl (by kernel_rfl) (by ((repeat constructor); first | done | fail)) (by rfl)) rfl ?_
    refine wl_q (q_fieldAddr (off := 9) (by kernel_rfl) rfl) rfl ?_
    refine wl_q (q_loadC rfl (by kernel_rfl) (by ((repeat constructor); first | done | fail)) (by rfl)) rfl ?_
    refine wl_l (lev_mapUpdateI (kt := 3) (et := 3) (by kernel_rfl) (by kernel_rfl) rfl rfl rfl rfl (by ((repeat constructor); first | done | fail)) ?_)
    refine wl_nil ?_
    refine wq_block_normal ?_
    refine wq_then ?_
    refine wc_region ?_
    refine wl_q (q_add rfl rfl ⟨by omega, by omega⟩) rfl ?_
    refine wl_q (q_move rfl) rfl ?_
    refine wl_nil ?_
    exact wq_meet ((i + 1, aset kn x.Spec.ID x.Status)) (⟨⟨(show 0 ≤ (i + 1 : Int) from (by omega)), (show (i + 1 : Int) ≤ known.xs.length from (by omega)), (show ∀ id, aget (aset kn x.Spec.ID x.Status : List (Int × Int)) id = knF (known.xs.drop ((known.xs.length : Int) - (i + 1 : Int)).toNat) id from (fun id => by rw [e1, knF_cons, aget_aset, h2 id]))⟩, (show ((known.xs.length : Int) - (i + 1 : Int)).toNat < ((known.xs.length : Int) - i).toNat from (by omega))⟩) (by repeat (first | exact Sub.nil | refine Sub.cons (by rfl) ?_)) (Ent.of_split (by repeat (first | exact Split.all | exact Split.nil | (apply Split.keep; · ((repeat constructor); first | done | fail)) | (apply Split.take; · ((repeat constructor); first | done | fail)) | apply Split.drop)))
  · have hc17_ := hc17; try simp only [decide_eq_true_eq, decide_eq_false_iff_not, Bool.not_eq_true', Bool.not_eq_false', Decidable.not_not, Int.not_lt, Int.not_le, Bool.and_eq_true, Bool.or_eq_true] at hc17_
    have e0 : ((known.xs.length : Int) - i).toNat = 0 := by omega
    rw [e0, List.drop_zero] at h2
    refine wc_exit ?_
    refine wq_then_exit ?_
    refine wq_then_exit ?_
    refine wq_block_exit ?_
    refine wq_then ?_
    refine wc_seq ?_
    refine wc_seq ?_
    refine wc_region ?_
    refine wl_q (q_move rfl) rfl ?_
    refine wl_q (q_len (e := 67) (by kernel_rfl) rfl) rfl ?_
    refine wl_q (q_move rfl) rfl ?_
    refine wl_nil ?_
    refine wq_then ?_
    refine wc_block ?_
    refine wc_loop (γ := (Int) × (List (Int × Int))) (fun g_ => (0 ≤ g_.1) ∧ (g_.1 ≤ l.xs.length) ∧ (∀ id, (aget g_.2 id).getD 0 = (cntF (l.xs.take g_.1.toNat) id : Int))) (fun g_ => [(0, known.val), (1, l.val), (4, .pointer (some ⟨b4, 0, none⟩)), (5, .pointer (some ⟨b5, 0, none⟩)), (35, l.val), (36, .int .i64 l.xs.length), (37, .int .i64 g_.1)]) (fun g_ => cb b4 [.map none, .map none, .slice none 0 0] 130 :: cb b5 (bookc rk rf l) 130 :: per (Rd TTask known) :: per (Rd TSpec l) :: mpI rk kn :: mpI rf g_.2 :: F) (fun g_ => ((l.xs.length : Int) - g_.1).toNat) ((0, [])) (⟨(show 0 ≤ (0 : Int) from (by omega)), (show (0 : Int) ≤ l.xs.length from (by omega)), (show ∀ id, (aget ([] : List (Int × Int)) id).getD 0 = (cntF (l.xs.take (0 : Int).toNat) id : Int) from (fun id => rfl))⟩) (by repeat (first | exact Sub.nil | refine Sub.cons (by rfl) ?_)) (Ent.of_split (by repeat (first | exact Split.all | exact Split.nil | (apply Split.keep; · ((repeat constructor); first | done | fail)) | (apply Split.take; · ((repeat constructor); first | done | fail)) | apply Split.drop))) ?_
    rintro ⟨i, fr⟩ ⟨g0, g1, g2⟩
    replace g0 : 0 ≤ i := g0
    replace g1 : i ≤ l.xs.length := g1
    replace g2 : ∀ id, (aget fr id).getD 0 = (cntF (l.xs.take i.toNat) id : Int) := g2
    refine wc_ent (gs := [(0, known.val), (1, l.val), (4, .pointer (some ⟨b4, 0, none⟩)), (5, .pointer (some ⟨b5, 0, none⟩)), (35, l.val), (36, .int .i64 l.xs.length), (37, .int .i64 i)]) (by repeat (first | exact Sub.nil | refine Sub.cons (by rfl) ?_)) (L' := cb b4 [.map none, .map none, .slice none 0 0] 130 :: cb b5 (bookc rk rf l) 130 :: per (Rd TTask known) :: per (Rd TSpec l) :: mpI rk kn :: mpI rf fr :: F) (Ent.refl _) ?_
    refine wc_seq ?_
    refine wc_region ?_
    refine wl_q (q_lss rfl rfl) rfl ?_
    refine wl_nil ?_
    refine wq_then ?_
    refine wc_seq ?_
    refine wc_cond _ rfl (fun hc38 => ?_) (fun hc38 => ?_)
    · have hc38_ := hc38; try simp only [decide_eq_true_eq, decide_eq_false_iff_not, Bool.not_eq_true', Bool.not_eq_false', Decidable.not_not, Int.not_lt, Int.not_le, Bool.and_eq_true, Bool.or_eq_true] at hc38_
      obtain ⟨x, hx⟩ : ∃ x, l.xs[i.toNat]? = some x := ⟨_, List.getElem?_eq_getElem (by omega)⟩
      have e1 : l.xs.take (i + 1).toNat = l.xs.take i.toNat ++ [x] := by rw [show (i + 1).toNat = i.toNat + 1 by omega]; exact take_succ' hx
      have hq := g2 x.ID
      have hq2 := cntF_le (l.xs.take i.toNat) x.ID
      have hq3 : (l.xs.take i.toNat).length = i.toNat := by simp; omega
      refine wc_skip ?_
      refine wq_then ?_
      refine wc_seq ?_
      refine wc_block ?_
      refine wc_seq ?_
      refine wc_region ?_
      refine wl_q (by first | exact q_indexR (e := 67) (by kernel_rfl) (by kernel_rfl) rfl rfl (by ((repeat constructor); first | done | fail)) (by first | omega | (dsimp only; omega) | (simp only [Int.toNat_natCast, List.length_set, List.length_append, List.length_cons, List.length_nil] at *; omega)) (by first | omega | (dsimp only; omega) | (simp only [Int.toNat_natCast, List.length_set, List.length_append, List.length_cons, List.length_nil] at *; omega)) | exact q_indexO (e := 67) (by kernel_rfl) (by kernel_rfl) rfl rfl (by ((repeat constructor); first | done | fail)) (by first | omega | (dsimp only; omega) | (simp only [Int.toNat_natCast, List.length_set, List.length_append, List.length_cons, List.length_nil] at *; omega)) (by first | omega | (dsimp only; omega) | (simp only [Int.toNat_natCast, List.length_set, List.length_append, List.length_cons, List.length_nil] at *; omega))) rfl ?_
      refine wl_q (by first | exact q_elemRA rfl (by kernel_rfl) (by ((repeat constructor); first | done | fail)) (by assumption) | exact q_elemOA rfl (by kernel_rfl) (by ((repeat constructor); first | done | fail)) (by assumption)) rfl ?_
      refine wl_l (lev_alloc [(.int .i64 0), (.int .i64 0), (.int .u64 0), (.int .u64 0), (.int .i64 0), (.int .i64 0), (.int .i64 0), (.int .i64 0), (.slice none 0 0)] (.agg #[(.int .i64 0), (.int .i64 0), (.int .u64 0), (.int .u64 0), (.int .i64 0), (.int .i64 0), (.int .i64 0), (.int .i64 0), (.slice none 0 0)]) (by kernel_rfl) rfl rfl fun b39 => ?_)
      refine wl_l ?_
      first | refine lev_store1 rfl rfl rfl (by kernel_rfl) rfl rfl (by ((repeat constructor); first | done | fail)) (by rfl) ?_ | refine lev_storeA rfl rfl (by ((repeat constructor); first | done | fail)) (by rfl) (by kernel_rfl) (by first | exact TThing.one _ | exact TSpec.one _ | exact TTask.one _ | exact TArc.one _ | exact TBounds.one _ | exact fun u hu => List.all_eq_true.1 (rfl : List.all _ (·.oneCell') = true) u hu) rfl ?_
      refine wl_nil ?_
      refine wq_then ?_
      refine wc_region ?_
      refine wl_q (q_fieldAddr (off := 1) (by kernel_rfl) rfl) rfl ?_
      refine wl_q (q_loadC rfl (by kernel_rfl) (by ((repeat constructor); first | done | fail)) (by rfl)) rfl ?_
      refine wl_q (q_fieldAddr (off := 0) (by kernel_rfl) rfl) rfl ?_
      refine wl_q (q_loadC rfl (by kernel_rfl) (by ((repeat constructor); first | done | fail)) (by rfl)) rfl ?_
      refine wl_q (q_lookupI (kt := 3) (et := 3) (by kernel_rfl) (by kernel_rfl) (by unfold zeroIs; kernel_rfl) rfl rfl (by ((repeat constructor); first | done | fail))) rfl ?_
      refine wl_q (q_add rfl rfl ⟨by omega, by omega⟩) rfl ?_
      refine wl_l (lev_mapUpdateI (kt := 3) (et := 3) (by kernel_rfl) (by kernel_rfl) rfl rfl rfl rfl (by ((repeat constructor); first | done | fail)) ?_)
      refine wl_nil ?_
      refine wq_block_normal ?_
      refine wq_then ?_
      refine wc_region ?_
      refine wl_q (q_add rfl rfl ⟨by omega, by omega⟩) rfl ?_
      refine wl_q (q_move rfl) rfl ?_
      refine wl_nil ?_
      have hN : ∀ id, (aget (aset fr x.ID ((aget fr x.ID).getD 0 + 1)) id).getD 0 = (cntF (l.xs.take (i + 1).toNat) id : Int) := by
        intro id
        rw [e1, cntF_add, aget_aset]
        by_cases e : id = x.ID
        · rw [if_pos e, if_pos e, Option.getD_some, g2 x.ID, e]; omega
        · rw [if_neg e, if_neg e, g2 id]; omega
      exact wq_meet ((i + 1, aset fr x.ID ((aget fr x.ID).getD 0 + 1))) (⟨⟨(show 0 ≤ (i + 1 : Int) from (by omega)), (show (i + 1 : Int) ≤ l.xs.length from (by omega)), (show ∀ id, (aget (aset fr x.ID ((aget fr x.ID).getD 0 + 1) : List (Int × Int)) id).getD 0 = (cntF (l.xs.take (i + 1 : Int).toNat) id : Int) from hN)⟩, (show ((l.xs.length : Int) - (i + 1 : Int)).toNat < ((l.xs.length : Int) - i).toNat from (by omega))⟩) (by repeat (first | exact Sub.nil | refine Sub.cons (by rfl) ?_)) (Ent.of_split (by repeat (first | exact Split.all | exact Split.nil | (apply Split.keep; · ((repeat constructor); first | done | fail)) | (apply Split.take; · ((repeat constructor); first | done | fail)) | apply Split.drop)))
    · have hc38_ := hc38; try simp only [decide_eq_true_eq, decide_eq_false_iff_not, Bool.not_eq_true', Bool.not_eq_false', Decidable.not_not, Int.not_lt, Int.not_le, Bool.and_eq_true, Bool.or_eq_true] at hc38_
      have e0 : l.xs.take i.toNat = l.xs := by rw [show i.toNat = l.xs.length by omega]; simp
      rw [e0] at g2
      refine wc_exit ?_
      refine wq_then_exit ?_
      refine wq_then_exit ?_
      refine wq_block_exit ?_
      refine wq_then ?_
      refine wc_seq ?_
      refine wc_region ?_
      refine wl_q (q_loadCA rfl (by ((repeat constructor); first | done | fail)) (by kernel_rfl)) rfl ?_
      refine wl_l ?_
      first | refine lev_store1 rfl rfl rfl (by kernel_rfl) rfl rfl (by ((repeat constructor); first | done | fail)) (by rfl) ?_ | refine lev_storeA rfl rfl (by ((repeat constructor); first | done | fail)) (by rfl) (by kernel_rfl) (by first | exact TThing.one _ | exact TSpec.one _ | exact TTask.one _ | exact TArc.one _ | exact TBounds.one _ | exact fun u hu => List.all_eq_true.1 (rfl : List.all _ (·.oneCell') = true) u hu) rfl ?_
      refine wl_nil ?_
      refine wq_then ?_
      refine wc_ret ?_
      refine wq_ret rfl (RVs.cell rfl (fun w_ h_ => loadVar_agg (by kernel_rfl) (fun j v hj => by rw [add_at, Nat.zero_add]; exact cb_cell (by ((repeat constructor); first | done | fail)) h_ hj)) RVs.nil) (fun w_ hs_ => ?_)
      exact ⟨rk, rf, kn, fr, rfl, ⟨h2, g2⟩, Split.use (by repeat (first | exact Split.nil | (apply Split.keep; · ((repeat constructor); first | done | fail)) | (apply Split.take; · ((repeat constructor); first | done | fail)) | apply Split.drop)) hs_⟩

def thereF (kn fr : List (Int × Int)) (id : Int) : Bool := (aget kn id).isSome || decide (0 < (aget fr id).getD 0)
def soundF (kn : List (Int × Int)) (id : Int) : Bool := decide (¬ (aget kn id).getD 0 = 5) && decide (¬ (aget kn id).getD 0 = 6)
def twiceF (kn fr : List (Int × Int)) (x : GSpec) : Bool := (aget kn x.ID).isSome || decide (1 < (aget fr x.ID).getD 0)

set_option maxHeartbeats 400000 in
theorem S_batch_there (rk rf : Nat) (kn fr : List (Int × Int)) (l : Sl GSpec) (id : Int) : Fn Try.prog 72 [.agg (bookc rk rf l).toArray, .int .i64 id] [star (mpI rk kn) (mpI rf fr)] (fun v_ S_ => v_ = .bool (thereF kn fr id) ∧ S_ [star (mpI rk kn) (mpI rf fr)]) := by
  refine fn_intro (m := 22) (gs := [(0, .agg (bookc rk rf l).toArray), (1, .int .i64 id)]) Try.func72 rfl rfl rfl rfl (fun t v h => gs_ok (by repeat (first | exact GsOk.nil | refine GsOk.cons (by rfl) ?_)) t v h) (fun F => star (mpI rk kn) (mpI rf fr) :: F) (fun _ => rfl) (fun E F => ?_)
  refine wc_star (by ((repeat constructor); first | done | fail)) ?_
  refine wc_seq ?_
  refine wc_region ?_
  refine wl_l (lev_box _ rfl rfl rfl fun b1 => ?_)
  refine wl_q (q_assign rfl) rfl ?_
  refine wl_nil ?_
  refine wq_then ?_
  refine wc_seq ?_
  refine wc_region ?_
  refine wl_q (q_fieldAddr (off := 0) (by kernel_rfl) rfl) rfl ?_
  refine wl_q (q_loadC rfl (by kernel_rfl) (by ((repeat constructor); first | done | fail)) (by rfl)) rfl ?_
  refine wl_q (q_move rfl) rfl ?_
  refine wl_q (q_lookupOkI (kt := 3) (et := 3) (by kernel_rfl) (by kernel_rfl) (by unfold zeroIs; kernel_rfl) rfl rfl (by ((repeat constructor); first | done | fail))) rfl ?_
  refine wl_q (q_move rfl) rfl ?_
  refine wl_q (q_extract rfl rfl) rfl ?_
  refine wl_q (q_extract rfl rfl) rfl ?_
  refine wl_q (q_assign rfl) rfl ?_
  refine wl_q (q_assign rfl) rfl ?_
  refine wl_nil ?_
  refine wq_then ?_
  refine wc_seq ?_
  refine wc_region ?_
  refine wl_q (q_move rfl) rfl ?_
  refine wl_q (q_move rfl) rfl ?_
  refine wl_split 15 _ rfl (fun hb15 => ?_) (fun hb15 => ?_)
  · have hb15_ := hb15; try simp only [decide_eq_true_eq, decide_eq_false_iff_not, Bool.not_eq_true', Bool.not_eq_false', Decidable.not_not, Int.not_lt, Int.not_le, Bool.and_eq_true, Bool.or_eq_true] at hb15_
    refine wl_skip 15 rfl (lk_bool rfl hb15) (by intro h; cases h) rfl ?_
    refine wl_skip 15 rfl (lk_bool rfl hb15) (by intro h; cases h) rfl ?_
    refine wl_skip 15 rfl (lk_bool rfl hb15) (by intro h; cases h) rfl ?_
    refine wl_skip 15 rfl (lk_bool rfl hb15) (by intro h; cases h) rfl ?_
    refine wl_skip 15 rfl (lk_bool rfl hb15) (by intro h; cases h) rfl ?_
    refine wl_q (q_pickT rfl hb15 rfl) rfl ?_
    refine wl_q (q_assign rfl) rfl ?_
    refine wl_nil ?_
    refine wq_then ?_
    refine wc_ret ?_
    refine wq_ret rfl (RVs.tmp rfl RVs.nil) (fun w_ hs_ => ?_)
    exact ⟨by unfold thereF; rw [hb15]; rfl, (show sats _ _ ([mpI rk kn, mpI rf fr] ++ F) from Split.use (by repeat (first | exact Split.nil | (apply Split.keep; · ((repeat constructor); first | done | fail)) | (apply Split.take; · ((repeat constructor); first | done | fail)) | apply Split.drop)) hs_).star_put⟩
  · have hb15_ := hb15; try simp only [decide_eq_true_eq, decide_eq_false_iff_not, Bool.not_eq_true', Bool.not_eq_false', Decidable.not_not, Int.not_lt, Int.not_le, Bool.and_eq_true, Bool.or_eq_true] at hb15_
    refine wl_g 15 rfl (lk_bool rfl hb15) (q_fieldAddr (off := 1) (by kernel_rfl) rfl) rfl ?_
    refine wl_g 15 rfl (lk_bool rfl hb15) (q_loadC rfl (by kernel_rfl) (by ((repeat constructor); first | done | fail)) (by rfl)) rfl ?_
    refine wl_g 15 rfl (lk_bool rfl hb15) (q_move rfl) rfl ?_
    refine wl_g 15 rfl (lk_bool rfl hb15) (q_lookupI (kt := 3) (et := 3) (by kernel_rfl) (by kernel_rfl) (by unfold zeroIs; kernel_rfl) rfl rfl (by ((repeat constructor); first | done | fail))) rfl ?_
    refine wl_g 15 rfl (lk_bool rfl hb15) (q_gtr rfl rfl) rfl ?_
    refine wl_q (q_pickF rfl hb15 rfl) rfl ?_
    refine wl_q (q_assign rfl) rfl ?_
    refine wl_nil ?_
    refine wq_then ?_
    refine wc_ret ?_
    refine wq_ret rfl (RVs.tmp rfl RVs.nil) (fun w_ hs_ => ?_)
    exact ⟨by unfold thereF; rw [hb15]; rfl, (show sats _ _ ([mpI rk kn, mpI rf fr] ++ F) from Split.use (by repeat (first | exact Split.nil | (apply Split.keep; · ((repeat constructor); first | done | fail)) | (apply Split.take; · ((repeat constructor); first | done | fail)) | apply Split.drop)) hs_).star_put⟩

set_option maxHeartbeats 400000 in
theorem S_batch_sound (rk rf : Nat) (kn fr : List (Int × Int)) (l : Sl GSpec) (id : Int) : Fn Try.prog 73 [.agg (bookc rk rf l).toArray, .int .i64 id] [star (mpI rk kn) (mpI rf fr)] (fun v_ S_ => v_ = .bool (soundF kn id) ∧ S_ [star (mpI rk kn) (mpI rf fr)]) := by
  refine fn_intro (m := 16) (gs := [(0, .agg (bookc rk rf l).toArray), (1, .int .i64 id)]) Try.func73 rfl rfl rfl rfl (fun t v h => gs_ok (by repeat (first | exact GsOk.nil | refine GsOk.cons (by rfl) ?_)) t v h) (fun F => star (mpI rk kn) (mpI rf fr) :: F) (fun _ => rfl) (fun E F => ?_)
  refine wc_star (by ((repeat constructor); first | done | fail)) ?_
  refine wc_seq ?_
  refine wc_region ?_
  refine wl_l (lev_box _ rfl rfl rfl fun b1 => ?_)
  refine wl_q (q_assign rfl) rfl ?_
  refine wl_nil ?_
  refine wq_then ?_
  refine wc_seq ?_
  refine wc_region ?_
  refine wl_q (q_fieldAddr (off := 0) (by kernel_rfl) rfl) rfl ?_
  refine wl_q (q_loadC rfl (by kernel_rfl) (by ((repeat constructor); first | done | fail)) (by rfl)) rfl ?_
  refine wl_q (q_move rfl) rfl ?_
  refine wl_q (q_lookupI (kt := 3) (et := 3) (by kernel_rfl) (by kernel_rfl) (by unfold zeroIs; kernel_rfl) rfl rfl (by ((repeat constructor); first | done | fail))) rfl ?_
  refine wl_q (q_assign rfl) rfl ?_
  refine wl_nil ?_
  refine wq_then ?_
  refine wc_seq ?_
  refine wc_region ?_
  refine wl_q (q_move rfl) rfl ?_
  refine wl_q (q_neq rfl rfl) rfl ?_
  refine wl_q (q_move rfl) rfl ?_
  refine wl_split 12 _ rfl (fun hb12 => ?_) (fun hb12 => ?_)
  · have hb12_ := hb12; try simp only [decide_eq_true_eq, decide_eq_false_iff_not, Bool.not_eq_true', Bool.not_eq_false', Decidable.not_not, Int.not_lt, Int.not_le, Bool.and_eq_true, Bool.or_eq_true] at hb12_
    refine wl_g 12 rfl (lk_bool rfl hb12) (q_move rfl) rfl ?_
    refine wl_g 12 rfl (lk_bool rfl hb12) (q_neq rfl rfl) rfl ?_
    refine wl_q (q_pickT rfl hb12 rfl) rfl ?_
    refine wl_q (q_assign rfl) rfl ?_
    refine wl_nil ?_
    refine wq_then ?_
    refine wc_ret ?_
    refine wq_ret rfl (RVs.tmp rfl RVs.nil) (fun w_ hs_ => ?_)
    exact ⟨by unfold soundF; rw [hb12]; rfl, (show sats _ _ ([mpI rk kn, mpI rf fr] ++ F) from Split.use (by repeat (first | exact Split.nil | (apply Split.keep; · ((repeat constructor); first | done | fail)) | (apply Split.take; · ((repeat constructor); first | done | fail)) | apply Split.drop)) hs_).star_put⟩
  · have hb12_ := hb12; try simp only [decide_eq_true_eq, decide_eq_false_iff_not, Bool.not_eq_true', Bool.not_eq_false', Decidable.not_not, Int.not_lt, Int.not_le, Bool.and_eq_true, Bool.or_eq_true] at hb12_
    refine wl_skip 12 rfl (lk_bool rfl hb12) (by intro h; cases h) rfl ?_
    refine wl_skip 12 rfl (lk_bool rfl hb12) (by intro h; cases h) rfl ?_
    refine wl_q (q_pickF rfl hb12 rfl) rfl ?_
    refine wl_q (q_assign rfl) rfl ?_
    refine wl_nil ?_
    refine wq_then ?_
    refine wc_ret ?_
    refine wq_ret rfl (RVs.tmp rfl RVs.nil) (fun w_ hs_ => ?_)
    exact ⟨by unfold soundF; rw [hb12]; rfl, (show sats _ _ ([mpI rk kn, mpI rf fr] ++ F) from Split.use (by repeat (first | exact Split.nil | (apply Split.keep; · ((repeat constructor); first | done | fail)) | (apply Split.take; · ((repeat constructor); first | done | fail)) | apply Split.drop)) hs_).star_put⟩

set_option maxHeartbeats 400000 in
theorem S_batch_Check1 (rk rf : Nat) (kn fr : List (Int × Int)) (l : Sl GSpec) (bb : Nat) (x : GSpec) : Fn Try.prog 69 [.agg (encSpec x).toArray, .pointer (some ⟨bb, 0, none⟩)] [star (mpI rk kn) (star (mpI rf fr) (cb bb (bookc rk rf l) 130))] (fun v_ S_ => v_ = .bool (twiceF kn fr x) ∧ S_ [star (mpI rk kn) (star (mpI rf fr) (cb bb (bookc rk rf l) 130))]) := by
  refine fn_intro (m := 23) (gs := [(0, .agg (encSpec x).toArray), (1, .pointer (some ⟨bb, 0, none⟩))]) Try.func69 rfl rfl rfl rfl (fun t v h => gs_ok (by repeat (first | exact GsOk.nil | refine GsOk.cons (by rfl) ?_)) t v h) (fun F => star (mpI rk kn) (star (mpI rf fr) (cb bb (bookc rk rf l) 130)) :: F) (fun _ => rfl) (fun E F => ?_)
  refine wc_star (by ((repeat constructor); first | done | fail)) ?_
  refine wc_star (by ((repeat constructor); first | done | fail)) ?_
  refine wc_seq ?_
  refine wc_region ?_
  refine wl_l (lev_box _ rfl rfl rfl fun b1 => ?_)
  refine wl_q (q_assign rfl) rfl ?_
  refine wl_nil ?_
  refine wq_then ?_
  refine wc_seq ?_
  refine wc_region ?_
  refine wl_q (q_fieldAddr (off := 0) (by kernel_rfl) rfl) rfl ?_
  refine wl_q (q_loadC rfl (by kernel_rfl) (by ((repeat constructor); first | done | fail)) (by rfl)) rfl ?_
  refine wl_q (q_fieldAddr (off := 0) (by kernel_rfl) rfl) rfl ?_
  refine wl_q (q_loadC rfl (by kernel_rfl) (by ((repeat constructor); first | done | fail)) (by rfl)) rfl ?_
  refine wl_q (q_lookupOkI (kt := 3) (et := 3) (by kernel_rfl) (by kernel_rfl) (by unfold zeroIs; kernel_rfl) rfl rfl (by ((repeat constructor); first | done | fail))) rfl ?_
  refine wl_q (q_move rfl) rfl ?_
  refine wl_q (q_extract rfl rfl) rfl ?_
  refine wl_q (q_extract rfl rfl) rfl ?_
  refine wl_q (q_assign rfl) rfl ?_
  refine wl_q (q_assign rfl) rfl ?_
  refine wl_nil ?_
  refine wq_then ?_
  refine wc_seq ?_
  refine wc_region ?_
  refine wl_q (q_move rfl) rfl ?_
  refine wl_q (q_move rfl) rfl ?_
  refine wl_split 15 _ rfl (fun hb15 => ?_) (fun hb15 => ?_)
  · have hb15_ := hb15; try simp only [decide_eq_true_eq, decide_eq_false_iff_not, Bool.not_eq_true', Bool.not_eq_false', Decidable.not_not, Int.not_lt, Int.not_le, Bool.and_eq_true, Bool.or_eq_true] at hb15_
    refine wl_skip 15 rfl (lk_bool rfl hb15) (by intro h; cases h) rfl ?_
    refine wl_skip 15 rfl (lk_bool rfl hb15) (by intro h; cases h) rfl ?_
    refine wl_skip 15 rfl (lk_bool rfl hb15) (by intro h; cases h) rfl ?_
    refine wl_skip 15 rfl (lk_bool rfl hb15) (by intro h; cases h) rfl ?_
    refine wl_skip 15 rfl (lk_bool rfl hb15) (by intro h; cases h) rfl ?_
    refine wl_skip 15 rfl (lk_bool rfl hb15) (by intro h; cases h) rfl ?_
    refine wl_q (q_pickT rfl hb15 rfl) rfl ?_
    refine wl_q (q_assign rfl) rfl ?_
    refine wl_nil ?_
    refine wq_then ?_
    refine wc_ret ?_
    refine wq_ret rfl (RVs.tmp rfl RVs.nil) (fun w_ hs_ => ?_)
    replace hs_ := ent_star (A := mpI rf fr) (B := cb bb (bookc rk rf l) 130) (by ((repeat constructor); first | done | fail)) (by ((repeat constructor); first | done | fail)) w_ hs_
    exact ⟨by unfold twiceF; rw [hb15]; rfl, (show sats _ _ ([mpI rk kn, star (mpI rf fr) (cb bb (bookc rk rf l) 130)] ++ F) from Split.use (by repeat (first | exact Split.nil | (apply Split.keep; · ((repeat constructor); first | done | fail)) | (apply Split.take; · ((repeat constructor); first | done | fail)) | apply Split.drop)) hs_).star_put⟩
  · have hb15_ := hb15; try simp only [decide_eq_true_eq, decide_eq_false_iff_not, Bool.not_eq_true', Bool.not_eq_false', Decidable.not_not, Int.not_lt, Int.not_le, Bool.and_eq_true, Bool.or_eq_true] at hb15_
    refine wl_g 15 rfl (lk_bool rfl hb15) (q_fieldAddr (off := 1) (by kernel_rfl) rfl) rfl ?_
    refine wl_g 15 rfl (lk_bool rfl hb15) (q_loadC rfl (by kernel_rfl) (by ((repeat constructor); first | done | fail)) (by rfl)) rfl ?_
    refine wl_g 15 rfl (lk_bool rfl hb15) (q_fieldAddr (off := 0) (by kernel_rfl) rfl) rfl ?_
    refine wl_g 15 rfl (lk_bool rfl hb15) (q_loadC rfl (by kernel_rfl) (by ((repeat constructor); first | done | fail)) (by rfl)) rfl ?_
    refine wl_g 15 rfl (lk_bool rfl hb15) (q_lookupI (kt := 3) (et := 3) (by kernel_rfl) (by kernel_rfl) (by unfold zeroIs; kernel_rfl) rfl rfl (by ((repeat constructor); first | done | fail))) rfl ?_
    refine wl_g 15 rfl (lk_bool rfl hb15) (q_gtr rfl rfl) rfl ?_
    refine wl_q (q_pickF rfl hb15 rfl) rfl ?_
    refine wl_q (q_assign rfl) rfl ?_
    refine wl_nil ?_
    refine wq_then ?_
    refine wc_ret ?_
    refine wq_ret rfl (RVs.tmp rfl RVs.nil) (fun w_ hs_ => ?_)
    replace hs_ := ent_star (A := mpI rf fr) (B := cb bb (bookc rk rf l) 130) (by ((repeat constructor); first | done | fail)) (by ((repeat constructor); first | done | fail)) w_ hs_
    exact ⟨by unfold twiceF; rw [hb15]; rfl, (show sats _ _ ([mpI rk kn, star (mpI rf fr) (cb bb (bookc rk rf l) 130)] ++ F) from Split.use (by repeat (first | exact Split.nil | (apply Split.keep; · ((repeat constructor); first | done | fail)) | (apply Split.take; · ((repeat constructor); first | done | fail)) | apply Split.drop)) hs_).star_put⟩

set_option maxHeartbeats 400000 in
theorem S_batch_each2 {p : Int → Bool} (f : FuncId) (first cap : List Value) (A : HP) (b3 : Nat) (id : Int) (hp : ∀ id, Fn Try.prog f (first ++ [.int .i64 id] ++ cap) [A] (fun v S => v = .bool (p id) ∧ S [A])) : Fn Try.prog 110 [.int .i64 id, .pointer (some ⟨b3, 0, none⟩)] [star A (cb b3 [.func (.func f) first.toArray cap.toArray] 46)] (fun v_ S_ => v_ = .bool (!(p id)) ∧ S_ [star A (cb b3 [.func (.func f) first.toArray cap.toArray] 46)]) := by
  refine fn_intro (m := 8) (gs := [(0, .int .i64 id), (1, .pointer (some ⟨b3, 0, none⟩))]) Try.func110 rfl rfl rfl rfl (fun t v h => gs_ok (by repeat (first | exact GsOk.nil | refine GsOk.cons (by rfl) ?_)) t v h) (fun F => star A (cb b3 [.func (.func f) first.toArray cap.toArray] 46) :: F) (fun _ => rfl) (fun E F => ?_)
  refine wc_star (by ((repeat constructor); first | done | fail)) ?_
  refine wc_seq ?_
  refine wc_region ?_
  refine wl_q (q_assign rfl) rfl ?_
  refine wl_nil ?_
  refine wq_then ?_
  refine wc_seq ?_
  refine wc_region ?_
  refine wl_q (q_loadC rfl (by kernel_rfl) (by ((repeat constructor); first | done | fail)) (by rfl)) rfl ?_
  refine wl_q (q_move rfl) rfl ?_
  refine wl_l (lev_call (first := first) (cap := cap) (hp id) rfl rfl rfl (by repeat (first | exact Split.nil | (apply Split.keep; · ((repeat constructor); first | done | fail)) | (apply Split.take; · ((repeat constructor); first | done | fail)) | apply Split.drop)) ?_)
  rintro v_ w_ ⟨rfl, hs3⟩
  (try simp only [List.cons_append, List.nil_append] at hs3)
  refine ⟨_, hs3, ?_⟩
  refine wl_q (q_not rfl) rfl ?_
  refine wl_q (q_assign rfl) rfl ?_
  refine wl_nil ?_
  refine wq_then ?_
  refine wc_ret ?_
  refine wq_ret rfl (RVs.tmp rfl RVs.nil) (fun w_ hs_ => ?_)
  exact ⟨rfl, (show sats _ _ ([A, cb b3 [.func (.func f) first.toArray cap.toArray] 46] ++ F) from Split.use (by repeat (first | exact Split.nil | (apply Split.keep; · ((repeat constructor); first | done | fail)) | (apply Split.take; · ((repeat constructor); first | done | fail)) | apply Split.drop)) hs_).star_put⟩

set_option maxHeartbeats 400000 in
theorem S_batch_each1 {p : Int → Bool} (f : FuncId) (first cap : List Value) (A : HP) (b3 : Nat) (l : Sl GSpec) (x : GSpec) (hx : x ∈ l.xs) (hp : ∀ id, Fn Try.prog f (first ++ [.int .i64 id] ++ cap) [A] (fun v S => v = .bool (p id) ∧ S [A])) : Fn Try.prog 109 [.agg (encSpec x).toArray, .pointer (some ⟨b3, 0, none⟩)] [star (star A (cb b3 [.func (.func f) first.toArray cap.toArray] 46)) (per (Rd TSpec l))] (fun v_ S_ => v_ = .bool (x.After.xs.any fun id => !(p id)) ∧ S_ [star (star A (cb b3 [.func (.func f) first.toArray cap.toArray] 46)) (per (Rd TSpec l))]) := by
  refine fn_intro (m := 8) (gs := [(0, .agg (encSpec x).toArray), (1, .pointer (some ⟨b3, 0, none⟩))]) Try.func109 rfl rfl rfl rfl (fun t v h => gs_ok (by repeat (first | exact GsOk.nil | refine GsOk.cons (by rfl) ?_)) t v h) (fun F => star (star A (cb b3 [.func (.func f) first.toArray cap.toArray] 46)) (per (Rd TSpec l)) :: F) (fun _ => rfl) (fun E F => ?_)
  refine wc_star (by ((repeat constructor); first | done | fail)) ?_
  refine wc_entL (ent_per (q := Rd TInt x.After) (.here (q' := Rd TSpec l) (by ((repeat constructor); first | done | fail)) fun M h => okAfter (h.2.2.1 x hx))) ?_
  refine wc_rdF (s := x.After) (by ((repeat constructor); first | done | fail)) fun hcap hbig hok => ?_
  have hbig2 := big_is
  refine wc_seq ?_
  refine wc_region ?_
  refine wl_l (lev_box _ rfl rfl rfl fun b1 => ?_)
  refine wl_q (q_assign rfl) rfl ?_
  refine wl_nil ?_
  refine wq_then ?_
  refine wc_seq ?_
  refine wc_region ?_
  refine wl_q (q_fieldAddr (off := 8) (by kernel_rfl) rfl) rfl ?_
  refine wl_q (q_loadC rfl (by kernel_rfl) (by ((repeat constructor); first | done | fail)) (by rfl)) rfl ?_
  refine wl_q (q_makeFunc rfl rfl) rfl ?_
  refine wl_l (lev_callF (S_slices_ContainsFunc (p := fun id => !(p id)) x.After 110 [] [.pointer (some ⟨b3, 0, none⟩)] (star A (cb b3 [.func (.func f) first.toArray cap.toArray] 46)) (by omega) (fun id _ => S_batch_each2 f first cap A b3 id hp)) rfl rfl (by repeat (first | exact Split.nil | (apply Split.keep; · ((repeat constructor); first | done | fail)) | (apply Split.take; · ((repeat constructor); first | done | fail)) | apply Split.drop)) ?_)
  rintro v_ w_ ⟨rfl, hs6⟩
  (try simp only [List.cons_append, List.nil_append] at hs6)
  refine ⟨_, hs6, ?_⟩
  refine wl_q (q_assign rfl) rfl ?_
  refine wl_nil ?_
  refine wq_then ?_
  refine wc_ret ?_
  refine wq_ret rfl (RVs.tmp rfl RVs.nil) (fun w_ hs_ => ?_)
  exact ⟨rfl, (show sats _ _ ([star A (cb b3 [.func (.func f) first.toArray cap.toArray] 46), per (Rd TSpec l)] ++ F) from Split.use (by repeat (first | exact Split.nil | (apply Split.keep; · ((repeat constructor); first | done | fail)) | (apply Split.take; · ((repeat constructor); first | done | fail)) | apply Split.drop)) hs_).star_put⟩

set_option maxHeartbeats 400000 in
theorem S_batch_each {p : Int → Bool} (f : FuncId) (first cap : List Value) (A : HP) (rk rf : Nat) (l : Sl GSpec) (hl : l.xs.length ≤ 17592186044416) (hp : ∀ id, Fn Try.prog f (first ++ [.int .i64 id] ++ cap) [A] (fun v S => v = .bool (p id) ∧ S [A])) : Fn Try.prog 71 [.agg (bookc rk rf l).toArray, .func (.func f) first.toArray cap.toArray] [per (Rd TSpec l), A] (fun v_ S_ => v_ = .bool (!(l.xs.any fun x => x.After.xs.any fun id => !(p id))) ∧ S_ [A]) := by
  refine fn_intro (m := 10) (gs := [(0, .agg (bookc rk rf l).toArray), (1, .func (.func f) first.toArray cap.toArray)]) Try.func71 rfl rfl rfl rfl (fun t v h => gs_ok (by repeat (first | exact GsOk.nil | refine GsOk.cons (by rfl) ?_)) t v h) (fun F => per (Rd TSpec l) :: A :: F) (fun _ => rfl) (fun E F => ?_)
  refine wc_seq ?_
  refine wc_region ?_
  refine wl_l (lev_box _ rfl rfl rfl fun b1 => ?_)
  refine wl_l (lev_box _ rfl rfl rfl fun b3 => ?_)
  refine wl_q (q_assign rfl) rfl ?_
  refine wl_nil ?_
  refine wq_then ?_
  refine wc_seq ?_
  refine wc_region ?_
  refine wl_q (q_fieldAddr (off := 2) (by kernel_rfl) rfl) rfl ?_
  refine wl_q (q_loadC rfl (by kernel_rfl) (by ((repeat constructor); first | done | fail)) (by rfl)) rfl ?_
  refine wl_q (q_makeFunc rfl rfl) rfl ?_
  refine wl_entL (ent_star (A := A) (B := cb b3 [.func (.func f) first.toArray cap.toArray] 46) (by ((repeat constructor); first | done | fail)) (by ((repeat constructor); first | done | fail))) ?_
  refine wl_entL (fun w hs => (((hs.at (A := per (Rd TSpec l)) (by ((repeat constructor); first | done | fail))).dup).perm (List.Perm.refl _))) ?_
  refine wl_entL (ent_star (A := star A (cb b3 [.func (.func f) first.toArray cap.toArray] 46)) (B := per (Rd TSpec l)) (by ((repeat constructor); first | done | fail)) (by ((repeat constructor); first | done | fail))) ?_
  refine wl_l (lev_callF (S_slices_ContainsFuncS (p := fun x => x.After.xs.any fun id => !(p id)) l 109 [] [.pointer (some ⟨b3, 0, none⟩)] (star (star A (cb b3 [.func (.func f) first.toArray cap.toArray] 46)) (per (Rd TSpec l))) hl (fun x hx => S_batch_each1 f first cap A b3 l x hx hp)) rfl rfl (by repeat (first | exact Split.nil | (apply Split.keep; · ((repeat constructor); first | done | fail)) | (apply Split.take; · ((repeat constructor); first | done | fail)) | apply Split.drop)) ?_)
  rintro v_ w_ ⟨rfl, hs8⟩
  (try simp only [List.cons_append, List.nil_append] at hs8)
  refine ⟨_, hs8, ?_⟩
  refine wl_q (q_not rfl) rfl ?_
  refine wl_q (q_assign rfl) rfl ?_
  refine wl_nil ?_
  refine wq_then ?_
  refine wc_ret ?_
  refine wq_ret rfl (RVs.tmp rfl RVs.nil) (fun w_ hs_ => ?_)
  replace hs_ := (ent_unstar (by ((repeat constructor); first | done | fail))).trans (ent_unstar (by ((repeat constructor); first | done | fail))) w_ hs_
  exact ⟨rfl, Split.use (by repeat (first | exact Split.nil | (apply Split.keep; · ((repeat constructor); first | done | fail)) | (apply Split.take; · ((repeat constructor); first | done | fail)) | apply Split.drop)) hs_⟩

def arcsOf (x : GSpec) : List GArc := x.After.xs.map fun id => ⟨id, x.ID⟩
def arcsF (l : List GSpec) : List GArc := l.flatMap arcsOf
/-- the order of a batch -/
def orderF (l : List GSpec) : List Int := topo (setOf (l.map (·.ID))) (goodA (setOf (l.map (·.ID))) (arcsF l))
theorem arcsF_len {l : List GSpec} {n : Nat} (h : ∀ x ∈ l, x.After.xs.length < n) : (arcsF l).length ≤ l.length * n := by
  induction l with
  | nil => simp [arcsF]
  | cons x r ih =>
    have h1 := ih fun y hy => h y (List.mem_cons_of_mem _ hy)
    have h2 := h x (List.mem_cons_self ..)
    unfold arcsF at *
    simp only [List.flatMap_cons, List.length_append, List.length_cons, Nat.add_mul]
    have : (arcsOf x).length = x.After.xs.length := by simp [arcsOf]
    omega

set_option maxHeartbeats 400000 in
theorem S_batch_Order (l : Sl GSpec) (hl : l.xs.length < 1048576) (hA : ∀ x ∈ l.xs, x.After.xs.length < 1048576) : Fn Try.prog 24 [l.val] [per (Rd TSpec l)] (fun v_ S_ => ∃ s : Sl Int, v_ = .tuple [s.val, .bool (decide (s.xs.length = (setOf (l.xs.map (·.ID))).length))].toArray ∧ s.xs = orderF l.xs ∧ S_ [Own TInt 3 s]) := by
  refine fn_intro (m := 42) (gs := [(0, l.val)]) Try.func24 rfl rfl rfl rfl (fun t v h => gs_ok (by repeat (first | exact GsOk.nil | refine GsOk.cons (by rfl) ?_)) t v h) (fun F => per (Rd TSpec l) :: F) (fun _ => rfl) (fun E F => ?_)
  have hbig2 := big_is
  refine wc_rdF (s := l) (by ((repeat constructor); first | done | fail)) fun hcap hbig hok => ?_
  obtain ⟨M_, hok⟩ := hok
  refine wc_seq ?_
  refine wc_region ?_
  refine wl_q (q_assign rfl) rfl ?_
  refine wl_q (q_assign rfl) rfl ?_
  refine wl_nil ?_
  refine wq_then ?_
  refine wc_seq ?_
  refine wc_region ?_
  refine wl_q (q_assign rfl) rfl ?_
  refine wl_nil ?_
  refine wq_then ?_
  refine wc_seq ?_
  refine wc_region ?_
  refine wl_q (q_assign rfl) rfl ?_
  refine wl_nil ?_
  refine wq_then ?_
  refine wc_seq ?_
  refine wc_seq ?_
  refine wc_entL (ent_own_nil TInt 3) ?_
  refine wc_entL (ent_own_nil TArc 138) ?_
  refine wc_region ?_
  refine wl_q (q_move rfl) rfl ?_
  refine wl_q (q_len (e := 67) (by kernel_rfl) rfl) rfl ?_
  refine wl_q (q_move rfl) rfl ?_
  refine wl_nil ?_
  refine wq_then ?_
  refine wc_block ?_
  refine wc_loop (γ := (Int) × (Sl Int) × (Sl GArc)) (fun g_ => (0 ≤ g_.1) ∧ (g_.1 ≤ l.xs.length) ∧ (g_.2.1.xs = (l.xs.take g_.1.toNat).map (·.ID)) ∧ (g_.2.2.xs = arcsF (l.xs.take g_.1.toNat))) (fun g_ => [(4, g_.2.1.val), (5, g_.2.2.val), (10, l.val), (11, .int .i64 l.xs.length), (12, .int .i64 g_.1)]) (fun g_ => per (Rd TSpec l) :: Own TInt 3 g_.2.1 :: Own TArc 138 g_.2.2 :: F) (fun g_ => ((l.xs.length : Int) - g_.1).toNat) ((0, Sl.nil, Sl.nil)) (⟨(show 0 ≤ (0 : Int) from (by omega)), (show (0 : Int) ≤ l.xs.length from (by omega)), (show (Sl.nil : Sl Int).xs = (l.xs.take (0 : Int).toNat).map (·.ID) from rfl), (show (Sl.nil : Sl GArc).xs = arcsF (l.xs.take (0 : Int).toNat) from rfl)⟩) (by repeat (first | exact Sub.nil | refine Sub.cons (by rfl) ?_)) (Ent.of_split (by repeat (first | exact Split.all | exact Split.nil | (apply Split.keep; · ((repeat constructor); first | done | fail)) | (apply Split.take; · ((repeat constructor); first | done | fail)) | apply Split.drop))) ?_
  rintro ⟨i, ids, arcs⟩ ⟨h0, h1, h2, h3⟩
  replace h0 : 0 ≤ i := h0
  replace h1 : i ≤ l.xs.length := h1
  replace h2 : ids.xs = (l.xs.take i.toNat).map (·.ID) := h2
  replace h3 : arcs.xs = arcsF (l.xs.take i.toNat) := h3
  refine wc_ent (gs := [(4, ids.val), (5, arcs.val), (10, l.val), (11, .int .i64 l.xs.length), (12, .int .i64 i)]) (by repeat (first | exact Sub.nil | refine Sub.cons (by rfl) ?_)) (L' := per (Rd TSpec l) :: Own TInt 3 ids :: Own TArc 138 arcs :: F) (Ent.refl _) ?_
  refine wc_seq ?_
  refine wc_region ?_
  refine wl_q (q_lss rfl rfl) rfl ?_
  refine wl_nil ?_
  refine wq_then ?_
  refine wc_seq ?_
  refine wc_cond _ rfl (fun hc13 => ?_) (fun hc13 => ?_)
  · have hc13_ := hc13; try simp only [decide_eq_true_eq, decide_eq_false_iff_not, Bool.not_eq_true', Bool.not_eq_false', Decidable.not_not, Int.not_lt, Int.not_le, Bool.and_eq_true, Bool.or_eq_true] at hc13_
    obtain ⟨x, hx⟩ : ∃ x, l.xs[i.toNat]? = some x := ⟨_, List.getElem?_eq_getElem (by omega)⟩
    have e1 : l.xs.take (i + 1).toNat = l.xs.take i.toNat ++ [x] := by rw [show (i + 1).toNat = i.toNat + 1 by omega]; exact take_succ' hx
    have hxm := List.mem_of_getElem? hx
    have hxi : inI64 x.ID := (sokB_of (hok x hxm)).1
    have hxl := hA x hxm
    have hq : ids.xs.length = i.toNat := by rw [h2]; simp; omega
    have hq2 : arcs.xs.length ≤ i.toNat * 1048576 := by
      rw [h3]; have := arcsF_len (l := l.xs.take i.toNat) (n := 1048576) (fun y hy => hA y (List.mem_of_mem_take hy))
      rw [show (l.xs.take i.toNat).length = i.toNat by simp; omega] at this; exact this
    have hq3 : i.toNat * 1048576 ≤ 1048575 * 1048576 := Nat.mul_le_mul_right _ (by omega)
    refine wc_skip ?_
    refine wq_then ?_
    refine wc_seq ?_
    refine wc_block ?_
    refine wc_seq ?_
    refine wc_region ?_
    refine wl_q (by first | exact q_indexR (e := 67) (by kernel_rfl) (by kernel_rfl) rfl rfl (by ((repeat constructor); first | done | fail)) (by first | omega | (dsimp only; omega) | (simp only [Int.toNat_natCast, List.length_set, List.length_append, List.length_cons, List.length_nil] at *; omega)) (by first | omega | (dsimp only; omega) | (simp only [Int.toNat_natCast, List.length_set, List.length_append, List.length_cons, List.length_nil] at *; omega)) | exact q_indexO (e := 67) (by kernel_rfl) (by kernel_rfl) rfl rfl (by ((repeat constructor); first | done | fail)) (by first | omega | (dsimp only; omega) | (simp only [Int.toNat_natCast, List.length_set, List.length_append, List.length_cons, List.length_nil] at *; omega)) (by first | omega | (dsimp only; omega) | (simp only [Int.toNat_natCast, List.length_set, List.length_append, List.length_cons, List.length_nil] at *; omega))) rfl ?_
    refine wl_q (by first | exact q_elemRA rfl (by kernel_rfl) (by ((repeat constructor); first | done | fail)) (by assumption) | exact q_elemOA rfl (by kernel_rfl) (by ((repeat constructor); first | done | fail)) (by assumption)) rfl ?_
    refine wl_l (lev_alloc [(.int .i64 0), (.int .i64 0), (.int .u64 0), (.int .u64 0), (.int .i64 0), (.int .i64 0), (.int .i64 0), (.int .i64 0), (.slice none 0 0)] (.agg #[(.int .i64 0), (.int .i64 0), (.int .u64 0), (.int .u64 0), (.int .i64 0), (.int .i64 0), (.int .i64 0), (.int .i64 0), (.slice none 0 0)]) (by kernel_rfl) rfl rfl fun sb => ?_)
    refine wl_l ?_
    first | refine lev_store1 rfl rfl rfl (by kernel_rfl) rfl rfl (by ((repeat constructor); first | done | fail)) (by rfl) ?_ | refine lev_storeA rfl rfl (by ((repeat constructor); first | done | fail)) (by rfl) (by kernel_rfl) (by first | exact TThing.one _ | exact TSpec.one _ | exact TTask.one _ | exact TArc.one _ | exact TBounds.one _ | exact fun u hu => List.all_eq_true.1 (rfl : List.all _ (·.oneCell') = true) u hu) rfl ?_
    refine wl_nil ?_
    refine wq_then ?_
    refine wc_seq ?_
    refine wc_region ?_
    refine wl_q (q_move rfl) rfl ?_
    refine wl_q (q_fieldAddr (off := 0) (by kernel_rfl) rfl) rfl ?_
    refine wl_q (q_loadC rfl (by kernel_rfl) (by ((repeat constructor); first | done | fail)) (by rfl)) rfl ?_
    refine wl_l (lev_buildSlice1 (e := 3) (us := [_]) (z := (.int .i64 0)) (by kernel_rfl) (by kernel_rfl) (by unfold zeroIs; kernel_rfl) rfl rfl rfl rfl rfl fun b12 => ?_)
    refine wl_l (lev_append1 (T := TInt) (e := 3) (z := (.int .i64 0)) (x.ID) (by kernel_rfl) (by unfold zeroIs; kernel_rfl) (by kernel_rfl) rfl rfl 8 (by kernel_rfl) rfl rfl rfl (by ((repeat constructor); first | done | fail)) (by ((repeat constructor); first | done | fail)) rfl (.pure fun _ => hxi) (⟨by simp only [big_is]; omega, by omega, by decide⟩) fun ids2 hids2 => ?_)
    refine wl_q (q_assign rfl) rfl ?_
    refine wl_nil ?_
    refine wq_then ?_
    refine wc_seq ?_
    refine wc_region ?_
    refine wl_q (q_fieldAddr (off := 8) (by kernel_rfl) rfl) rfl ?_
    refine wl_q (q_loadC rfl (by kernel_rfl) (by ((repeat constructor); first | done | fail)) (by rfl)) rfl ?_
    refine wl_q (q_len (e := 3) (by kernel_rfl) rfl) rfl ?_
    refine wl_q (q_move rfl) rfl ?_
    refine wl_entL (ent_per (q := Rd TInt x.After) (.here (q' := Rd TSpec l) (by ((repeat constructor); first | done | fail)) fun M h => okAfter (h.2.2.1 x (List.mem_of_getElem? hx)))) ?_
    refine wl_nil ?_
    refine wq_then ?_
    refine wc_block ?_
    refine wc_loop (γ := (Int) × (Sl GArc)) (fun g_ => (0 ≤ g_.1) ∧ (g_.1 ≤ x.After.xs.length) ∧ (g_.2.xs = arcs.xs ++ (x.After.xs.take g_.1.toNat).map fun id => (⟨id, x.ID⟩ : GArc))) (fun g_ => [(4, ids2.val), (5, g_.2.val), (7, .pointer (some ⟨sb, 0, none⟩)), (10, l.val), (11, .int .i64 l.xs.length), (12, .int .i64 i), (22, x.After.val), (23, .int .i64 x.After.xs.length), (24, .int .i64 g_.1)]) (fun g_ => cb sb (encSpec x) 67 :: per (Rd TSpec l) :: per (Rd TInt x.After) :: Own TInt 3 ids2 :: Own TArc 138 g_.2 :: F) (fun g_ => ((x.After.xs.length : Int) - g_.1).toNat) ((0, arcs)) (⟨(show 0 ≤ (0 : Int) from (by omega)), (show (0 : Int) ≤ x.After.xs.length from (by omega)), (show (arcs : Sl GArc).xs = arcs.xs ++ (x.After.xs.take (0 : Int).toNat).map fun id => (⟨id, x.ID⟩ : GArc) from (by simp))⟩) (by repeat (first | exact Sub.nil | refine Sub.cons (by rfl) ?_)) (Ent.of_split (by repeat (first | exact Split.all | exact Split.nil | (apply Split.keep; · ((repeat constructor); first | done | fail)) | (apply Split.take; · ((repeat constructor); first | done | fail)) | apply Split.drop))) ?_
    rintro ⟨j, arcs1⟩ ⟨k0, k1, k2⟩
    replace k0 : 0 ≤ j := k0
    replace k1 : j ≤ x.After.xs.length := k1
    replace k2 : arcs1.xs = arcs.xs ++ (x.After.xs.take j.toNat).map fun id => (⟨id, x.ID⟩ : GArc) := k2
    refine wc_ent (gs := [(4, ids2.val), (5, arcs1.val), (7, .pointer (some ⟨sb, 0, none⟩)), (10, l.val), (11, .int .i64 l.xs.length), (12, .int .i64 i), (22, x.After.val), (23, .int .i64 x.After.xs.length), (24, .int .i64 j)]) (by repeat (first | exact Sub.nil | refine Sub.cons (by rfl) ?_)) (L' := cb sb (encSpec x) 67 :: per (Rd TSpec l) :: per (Rd TInt x.After) :: Own TInt 3 ids2 :: Own TArc 138 arcs1 :: F) (Ent.refl _) ?_
    refine wc_seq ?_
    refine wc_region ?_
    refine wl_q (q_lss rfl rfl) rfl ?_
    refine wl_nil ?_
    refine wq_then ?_
    refine wc_seq ?_
    refine wc_cond _ rfl (fun hc25 => ?_) (fun hc25 => ?_)
    · have hc25_ := hc25; try simp only [decide_eq_true_eq, decide_eq_false_iff_not, Bool.not_eq_true', Bool.not_eq_false', Decidable.not_not, Int.not_lt, Int.not_le, Bool.and_eq_true, Bool.or_eq_true] at hc25_
      have hx0 := gi_get (l := x.After.xs) (i := j) (by omega) (by omega)
      have e2 : x.After.xs.take (j + 1).toNat = x.After.xs.take j.toNat ++ [gi x.After.xs j] := by rw [show (j + 1).toNat = j.toNat + 1 by omega, List.take_add_one, hx0]; rfl
      have hgi : inI64 (gi x.After.xs j) := (okAfter (hok x hxm)).2.2.1 _ (List.mem_of_getElem? hx0)
      have hq4 : arcs1.xs.length = arcs.xs.length + j.toNat := by rw [k2]; simp; omega
      refine wc_skip ?_
      refine wq_then ?_
      refine wc_seq ?_
      refine wc_block ?_
      refine wc_seq ?_
      refine wc_region ?_
      refine wl_q (by first | exact q_indexR (e := 3) (by kernel_rfl) (by kernel_rfl) rfl rfl (by ((repeat constructor); first | done | fail)) (by first | omega | (dsimp only; omega) | (simp only [Int.toNat_natCast, List.length_set, List.length_append, List.length_cons, List.length_nil] at *; omega)) (by first | omega | (dsimp only; omega) | (simp only [Int.toNat_natCast, List.length_set, List.length_append, List.length_cons, List.length_nil] at *; omega)) | exact q_indexO (e := 3) (by kernel_rfl) (by kernel_rfl) rfl rfl (by ((repeat constructor); first | done | fail)) (by first | omega | (dsimp only; omega) | (simp only [Int.toNat_natCast, List.length_set, List.length_append, List.length_cons, List.length_nil] at *; omega)) (by first | omega | (dsimp only; omega) | (simp only [Int.toNat_natCast, List.length_set, List.length_append, List.length_cons, List.length_nil] at *; omega))) rfl ?_
      refine wl_q (by first | exact q_elemR1 (T := TInt) rfl (by kernel_rfl) (by ((repeat constructor); first | done | fail)) (gi_get (by omega) (by omega)) rfl | exact q_elemO1 (T := TInt) rfl (by kernel_rfl) (by ((repeat constructor); first | done | fail)) (gi_get (by omega) (by omega)) rfl) rfl ?_
      refine wl_q (q_assign rfl) rfl ?_
      refine wl_nil ?_
      refine wq_then ?_
      refine wc_region ?_
      refine wl_q (q_move rfl) rfl ?_
      refine wl_q (q_move rfl) rfl ?_
      refine wl_q (q_fieldAddr (off := 0) (by kernel_rfl) rfl) rfl ?_
      refine wl_q (q_loadC rfl (by kernel_rfl) (by ((repeat constructor); first | done | fail)) (by rfl)) rfl ?_
      refine wl_q (q_build (zs := [(.int .i64 0), (.int .i64 0)]) (z := .agg #[(.int .i64 0), (.int .i64 0)]) (l := [_, _]) [(0, 1), (1, 1)] (by kernel_rfl) (by unfold zeroIs; kernel_rfl) rfl rfl (.cons rfl (us := [_]) rfl rfl rfl (.cons rfl (us := [_]) rfl rfl rfl .nil))) rfl ?_
      refine wl_l (lev_buildSlice1 (e := 138) (us := [_, _]) (z := .agg #[(.int .i64 0), (.int .i64 0)]) (by kernel_rfl) (by kernel_rfl) (by unfold zeroIs; kernel_rfl) rfl rfl rfl rfl rfl fun b26 => ?_)
      refine wl_l (lev_append1 (T := TArc) (e := 138) (z := .agg #[(.int .i64 0), (.int .i64 0)]) ((⟨gi x.After.xs j, x.ID⟩ : GArc)) (by kernel_rfl) (by unfold zeroIs; kernel_rfl) (by kernel_rfl) rfl rfl 16 (by kernel_rfl) rfl rfl rfl (by ((repeat constructor); first | done | fail)) (by ((repeat constructor); first | done | fail)) rfl (.pure fun _ => ⟨hgi, hxi⟩) (⟨by simp only [big_is]; omega, by omega, by decide⟩) fun arcs3 harcs3 => ?_)
      refine wl_q (q_assign rfl) rfl ?_
      refine wl_nil ?_
      refine wq_block_normal ?_
      refine wq_then ?_
      refine wc_region ?_
      refine wl_q (q_add rfl rfl ⟨by omega, by omega⟩) rfl ?_
      refine wl_q (q_move rfl) rfl ?_
      refine wl_nil ?_
      exact wq_meet ((j + 1, arcs3)) (⟨⟨(show 0 ≤ (j + 1 : Int) from (by omega)), (show (j + 1 : Int) ≤ x.After.xs.length from (by omega)), (show (arcs3 : Sl GArc).xs = arcs.xs ++ (x.After.xs.take (j + 1 : Int).toNat).map fun id => (⟨id, x.ID⟩ : GArc) from (by rw [harcs3, k2, e2, List.map_append, List.append_assoc]; rfl))⟩, (show ((x.After.xs.length : Int) - (j + 1 : Int)).toNat < ((x.After.xs.length : Int) - j).toNat from (by omega))⟩) (by repeat (first | exact Sub.nil | refine Sub.cons (by rfl) ?_)) (Ent.of_split (by repeat (first | exact Split.all | exact Split.nil | (apply Split.keep; · ((repeat constructor); first | done | fail)) | (apply Split.take; · ((repeat constructor); first | done | fail)) | apply Split.drop)))
    · have hc25_ := hc25; try simp only [decide_eq_true_eq, decide_eq_false_iff_not, Bool.not_eq_true', Bool.not_eq_false', Decidable.not_not, Int.not_lt, Int.not_le, Bool.and_eq_true, Bool.or_eq_true] at hc25_
      have e2 : x.After.xs.take j.toNat = x.After.xs := by rw [show j.toNat = x.After.xs.length by omega]; simp
      rw [e2] at k2
      refine wc_exit ?_
      refine wq_then_exit ?_
      refine wq_then_exit ?_
      refine wq_block_exit ?_
      refine wq_block_normal ?_
      refine wq_then ?_
      refine wc_region ?_
      refine wl_q (q_add rfl rfl ⟨by omega, by omega⟩) rfl ?_
      refine wl_q (q_move rfl) rfl ?_
      refine wl_nil ?_
      exact wq_meet ((i + 1, ids2, arcs1)) (⟨⟨(show 0 ≤ (i + 1 : Int) from (by omega)), (show (i + 1 : Int) ≤ l.xs.length from (by omega)), (show (ids2 : Sl Int).xs = (l.xs.take (i + 1 : Int).toNat).map (·.ID) from (by rw [hids2, h2, e1, List.map_append]; rfl)), (show (arcs1 : Sl GArc).xs = arcsF (l.xs.take (i + 1 : Int).toNat) from (by rw [k2, e1, h3]; unfold arcsF; rw [List.flatMap_append]; simp [arcsOf]))⟩, (show ((l.xs.length : Int) - (i + 1 : Int)).toNat < ((l.xs.length : Int) - i).toNat from (by omega))⟩) (by repeat (first | exact Sub.nil | refine Sub.cons (by rfl) ?_)) (Ent.of_split (by repeat (first | exact Split.all | exact Split.nil | (apply Split.keep; · ((repeat constructor); first | done | fail)) | (apply Split.take; · ((repeat constructor); first | done | fail)) | apply Split.drop)))
  · have hc13_ := hc13; try simp only [decide_eq_true_eq, decide_eq_false_iff_not, Bool.not_eq_true', Bool.not_eq_false', Decidable.not_not, Int.not_lt, Int.not_le, Bool.and_eq_true, Bool.or_eq_true] at hc13_
    have e0 : l.xs.take i.toNat = l.xs := by rw [show i.toNat = l.xs.length by omega]; simp
    rw [e0] at h2 h3
    refine wc_exit ?_
    refine wq_then_exit ?_
    refine wq_then_exit ?_
    refine wq_block_exit ?_
    refine wq_then ?_
    refine wc_seq ?_
    refine wc_entL (ent_rd (s := ids) (by ((repeat constructor); first | done | fail))) ?_
    refine wc_entL (ent_rd (s := arcs) (by ((repeat constructor); first | done | fail))) ?_
    have hi2 : ids.xs.length < 1099511627776 := by rw [h2, List.length_map]; omega
    have ha2 : arcs.xs.length < 1099511627776 := by rw [h3]; have := arcsF_len hA; have : l.xs.length * 1048576 ≤ 1048575 * 1048576 := Nat.mul_le_mul_right _ (by omega); omega
    refine wc_region ?_
    refine wl_q (q_move rfl) rfl ?_
    refine wl_q (q_move rfl) rfl ?_
    refine wl_l (lev_callF (S_graph_Order ids arcs hi2 ha2) rfl rfl (by repeat (first | exact Split.nil | (apply Split.keep; · ((repeat constructor); first | done | fail)) | (apply Split.take; · ((repeat constructor); first | done | fail)) | apply Split.drop)) ?_)
    rintro v_ w_ ⟨s, rfl, hs3, hs34⟩
    (try simp only [List.cons_append, List.nil_append] at hs34)
    refine ⟨_, hs34, ?_⟩
    refine wl_q (q_extract rfl rfl) rfl ?_
    refine wl_q (q_extract rfl rfl) rfl ?_
    refine wl_q (q_assign rfl) rfl ?_
    refine wl_q (q_assign rfl) rfl ?_
    refine wl_nil ?_
    refine wq_then ?_
    refine wc_ret ?_
    refine wq_ret rfl (RVs.tmp rfl (RVs.tmp rfl RVs.nil)) (fun w_ hs_ => ?_)
    exact ⟨s, by rw [h2]; rfl, by rw [hs3, h2, h3]; rfl, Split.use (by repeat (first | exact Split.nil | (apply Split.keep; · ((repeat constructor); first | done | fail)) | (apply Split.take; · ((repeat constructor); first | done | fail)) | apply Split.drop)) hs_⟩

def thereP (known : List GTask) (l : List GSpec) (id : Int) : Bool := (knF known id).isSome || decide (0 < (cntF l id : Int))
def soundP (known : List GTask) (id : Int) : Bool := decide (¬ (knF known id).getD 0 = 5) && decide (¬ (knF known id).getD 0 = 6)
def twiceP (known : List GTask) (l : List GSpec) (x : GSpec) : Bool := (knF known x.ID).isSome || decide (1 < (cntF l x.ID : Int))
def firstBad (l : List GSpec) : Option Int := (l.map checkF).find? fun e => decide (e ≠ 0)
/-- what batch.Check tells -/
def checkB (room : Int) (known : List GTask) (l : List GSpec) : Int :=
  if l.length = 0 then 1 else match firstBad l with
  | some e => e
  | none => if room < (known.length : Int) + l.length then 9 else if l.any (twiceP known l) = true then 6 else if (l.any fun x => x.After.xs.any fun id => !(thereP known l id)) = true then 7
    else if (l.any fun x => x.After.xs.any fun id => !(soundP known id)) = true then 12 else if (orderF l).length ≠ (setOf (l.map (·.ID))).length then 8 else 0
theorem firstBad_none {l : List GSpec} (h : ∀ (j : Nat) (x : GSpec), l[j]? = some x → checkF x = 0) : firstBad l = none := by
  unfold firstBad
  rw [List.find?_eq_none]
  intro e he
  obtain ⟨x, hx, rfl⟩ := List.mem_map.1 he
  obtain ⟨j, hj, rfl⟩ := List.mem_iff_getElem.1 hx
  have := h j _ (List.getElem?_eq_getElem hj)
  simp [this]
theorem firstBad_some : ∀ {l : List GSpec} {i : Nat} {x : GSpec}, l[i]? = some x → checkF x ≠ 0 → (∀ (j : Nat), j < i → ∀ y, l[j]? = some y → checkF y = 0) → firstBad l = some (checkF x)
  | [], i, x, h, _, _ => by simp at h
  | a :: r, 0, x, h, hx, _ => by
    simp only [List.getElem?_cons_zero, Option.some.injEq] at h
    subst h
    unfold firstBad; simp [hx]
  | a :: r, i + 1, x, h, hx, hj => by
    have h0 := hj 0 (by omega) a rfl
    have ih := firstBad_some (l := r) (i := i) (x := x) (by simpa using h) hx fun j hlt y hy => hj (j + 1) (by omega) y (by simpa using hy)
    unfold firstBad at *
    simp only [List.map_cons, List.find?_cons, h0, ne_eq, not_true, decide_false]
    exact ih
theorem checkF_after {x : GSpec} (h : checkF x = 0) : x.After.xs.length ≤ 8 := by
  unfold checkF at h
  split at h
  · cases h
  · split at h
    · cases h
    · rename_i h2
      have : ¬ (8 : Int) < x.After.xs.length := fun e => h2 (.inl e)
      omega

set_option maxHeartbeats 1000000 in
theorem S_batch_Check (room : Int) (known : Sl GTask) (l : Sl GSpec) (hk : known.xs.length < 1048576) (hl : l.xs.length < 1048576) (hA : ∀ x ∈ l.xs, x.After.xs.length < 1099511627776) : Fn Try.prog 22 [.int .i64 room, known.val, l.val] [per (Rd TTask known), per (Rd TSpec l)] (fun v_ S_ => v_ = .int .i64 (checkB room known.xs l.xs) ∧ S_ []) := by
  refine fn_intro (m := 66) (gs := [(0, .int .i64 room), (1, known.val), (2, l.val)]) Try.func22 rfl rfl rfl rfl (fun t v h => gs_ok (by repeat (first | exact GsOk.nil | refine GsOk.cons (by rfl) ?_)) t v h) (fun F => per (Rd TTask known) :: per (Rd TSpec l) :: F) (fun _ => rfl) (fun E F => ?_)
  have hbig2 := big_is
  refine wc_rdF (s := l) (by ((repeat constructor); first | done | fail)) fun hcap hbig hok => ?_
  obtain ⟨M_, hok⟩ := hok
  refine wc_seq ?_
  refine wc_region ?_
  refine wl_q (q_assign rfl) rfl ?_
  refine wl_nil ?_
  refine wq_then ?_
  refine wc_jumpsE 0 rfl (γ := (Int)) (fun g_ => (¬ l.xs.length = 0) ∧ (0 ≤ g_) ∧ (g_ ≤ l.xs.length) ∧ (∀ j : Nat, (j : Int) < g_ → ∀ y, l.xs[j]? = some y → checkF y = 0)) (fun g_ => [(0, .int .i64 room), (1, known.val), (2, l.val), (7, .int .i64 g_)]) (fun g_ => per (Rd TTask known) :: per (Rd TSpec l) :: F) (fun g_ => ((l.xs.length : Int) - g_).toNat) (fun hround => ?_) ?_
  · skip
    refine wc_seq ?_
    refine wc_seq ?_
    refine wc_region ?_
    refine wl_q (q_move rfl) rfl ?_
    refine wl_q (q_len (e := 67) (by kernel_rfl) rfl) rfl ?_
    refine wl_q (q_eql rfl rfl) rfl ?_
    refine wl_nil ?_
    refine wq_then ?_
    refine wc_cond _ rfl (fun hc15 => ?_) (fun hc15 => ?_)
    · have hc15_ := hc15; try simp only [decide_eq_true_eq, decide_eq_false_iff_not, Bool.not_eq_true', Bool.not_eq_false', Decidable.not_not, Int.not_lt, Int.not_le, Bool.and_eq_true, Bool.or_eq_true] at hc15_
      refine wc_seq ?_
      refine wc_region ?_
      refine wl_q (q_assign rfl) rfl ?_
      refine wl_nil ?_
      refine wq_then ?_
      refine wc_ret ?_
      refine wq_then_ret ?_
      refine wq_jump_ret ?_
      refine wq_ret rfl (RVs.tmp rfl RVs.nil) (fun w_ hs_ => ?_)
      exact ⟨by unfold checkB; rw [if_pos (by omega)]; rfl, Split.use (by repeat (first | exact Split.nil | (apply Split.keep; · ((repeat constructor); first | done | fail)) | (apply Split.take; · ((repeat constructor); first | done | fail)) | apply Split.drop)) hs_⟩
    · have hc15_ := hc15; try simp only [decide_eq_true_eq, decide_eq_false_iff_not, Bool.not_eq_true', Bool.not_eq_false', Decidable.not_not, Int.not_lt, Int.not_le, Bool.and_eq_true, Bool.or_eq_true] at hc15_
      have hne : ¬ l.xs.length = 0 := fun h => hc15_ (by omega)
      refine wc_skip ?_
      refine wq_then ?_
      refine wc_seq ?_
      refine wc_region ?_
      refine wl_q (q_assign rfl) rfl ?_
      refine wl_nil ?_
      refine wq_then ?_
      refine wc_seq ?_
      refine wc_label ?_
      refine wq_then ?_
      exact wc_enter hround (0) (⟨(show ¬ l.xs.length = 0 from hne), (show 0 ≤ (0 : Int) from (by omega)), (show (0 : Int) ≤ l.xs.length from (by omega)), (show ∀ j : Nat, (j : Int) < (0 : Int) → ∀ y, l.xs[j]? = some y → checkF y = 0 from (fun j h => by omega))⟩) (by repeat (first | exact Sub.nil | refine Sub.cons (by rfl) ?_)) (Ent.of_split (by repeat (first | exact Split.all | exact Split.nil | (apply Split.keep; · ((repeat constructor); first | done | fail)) | (apply Split.take; · ((repeat constructor); first | done | fail)) | apply Split.drop)))
  · rintro i ⟨hne, h0, h1, h2⟩
    replace hne : ¬ l.xs.length = 0 := hne
    replace h0 : 0 ≤ i := h0
    replace h1 : i ≤ l.xs.length := h1
    replace h2 : ∀ j : Nat, (j : Int) < i → ∀ y, l.xs[j]? = some y → checkF y = 0 := h2
    refine wc_ent (gs := [(0, .int .i64 room), (1, known.val), (2, l.val), (7, .int .i64 i)]) (by repeat (first | exact Sub.nil | refine Sub.cons (by rfl) ?_)) (L' := per (Rd TTask known) :: per (Rd TSpec l) :: F) (Ent.refl _) ?_
    refine wc_seq ?_
    refine wc_seq ?_
    refine wc_region ?_
    refine wl_q (q_move rfl) rfl ?_
    refine wl_q (q_move rfl) rfl ?_
    refine wl_q (q_len (e := 67) (by kernel_rfl) rfl) rfl ?_
    refine wl_q (q_lss rfl rfl) rfl ?_
    refine wl_nil ?_
    refine wq_then ?_
    refine wc_cond _ rfl (fun hc19 => ?_) (fun hc19 => ?_)
    · have hc19_ := hc19; try simp only [decide_eq_true_eq, decide_eq_false_iff_not, Bool.not_eq_true', Bool.not_eq_false', Decidable.not_not, Int.not_lt, Int.not_le, Bool.and_eq_true, Bool.or_eq_true] at hc19_
      obtain ⟨x, hx⟩ : ∃ x, l.xs[i.toNat]? = some x := ⟨_, List.getElem?_eq_getElem (by omega)⟩
      have hxm := List.mem_of_getElem? hx
      refine wc_seq ?_
      refine wc_seq ?_
      refine wc_region ?_
      refine wl_q (q_move rfl) rfl ?_
      refine wl_q (q_move rfl) rfl ?_
      refine wl_q (by first | exact q_indexR (e := 67) (by kernel_rfl) (by kernel_rfl) rfl rfl (by ((repeat constructor); first | done | fail)) (by first | omega | (dsimp only; omega) | (simp only [Int.toNat_natCast, List.length_set, List.length_append, List.length_cons, List.length_nil] at *; omega)) (by first | omega | (dsimp only; omega) | (simp only [Int.toNat_natCast, List.length_set, List.length_append, List.length_cons, List.length_nil] at *; omega)) | exact q_indexO (e := 67) (by kernel_rfl) (by kernel_rfl) rfl rfl (by ((repeat constructor); first | done | fail)) (by first | omega | (dsimp only; omega) | (simp only [Int.toNat_natCast, List.length_set, List.length_append, List.length_cons, List.length_nil] at *; omega)) (by first | omega | (dsimp only; omega) | (simp only [Int.toNat_natCast, List.length_set, List.length_append, List.length_cons, List.length_nil] at *; omega))) rfl ?_
      refine wl_q (by first | exact q_elemRA rfl (by kernel_rfl) (by ((repeat constructor); first | done | fail)) (by assumption) | exact q_elemOA rfl (by kernel_rfl) (by ((repeat constructor); first | done | fail)) (by assumption)) rfl ?_
      refine wl_entL (ent_per (q := Rd TInt x.After) (.here (q' := Rd TSpec l) (by ((repeat constructor); first | done | fail)) fun M h => okAfter (h.2.2.1 x hxm))) ?_
      refine wl_l (lev_callF (S_task_Check x (sokB_of (hok x hxm)) (hA x hxm)) rfl rfl (by repeat (first | exact Split.nil | (apply Split.keep; · ((repeat constructor); first | done | fail)) | (apply Split.take; · ((repeat constructor); first | done | fail)) | apply Split.drop)) ?_)
      rintro v_ w_ ⟨rfl, hs10⟩
      (try simp only [List.cons_append, List.nil_append] at hs10)
      refine ⟨_, hs10, ?_⟩
      refine wl_q (q_assign rfl) rfl ?_
      refine wl_nil ?_
      refine wq_then ?_
      refine wc_seq ?_
      refine wc_region ?_
      refine wl_q (q_move rfl) rfl ?_
      refine wl_q (q_neq rfl rfl) rfl ?_
      refine wl_nil ?_
      refine wq_then ?_
      refine wc_cond _ rfl (fun hc26 => ?_) (fun hc26 => ?_)
      · have hc26_ := hc26; try simp only [decide_eq_true_eq, decide_eq_false_iff_not, Bool.not_eq_true', Bool.not_eq_false', Decidable.not_not, Int.not_lt, Int.not_le, Bool.and_eq_true, Bool.or_eq_true] at hc26_
        refine wc_seq ?_
        refine wc_region ?_
        refine wl_q (q_move rfl) rfl ?_
        refine wl_q (q_assign rfl) rfl ?_
        refine wl_nil ?_
        refine wq_then ?_
        refine wc_ret ?_
        refine wq_then_ret ?_
        refine wq_then_ret ?_
        refine wq_jump_ret ?_
        refine wq_ret rfl (RVs.tmp rfl RVs.nil) (fun w_ hs_ => ?_)
        exact ⟨by unfold checkB; rw [if_neg (by omega), firstBad_some hx hc26_ (fun j hj => h2 j (by omega))]; rfl, Split.use (by repeat (first | exact Split.nil | (apply Split.keep; · ((repeat constructor); first | done | fail)) | (apply Split.take; · ((repeat constructor); first | done | fail)) | apply Split.drop)) hs_⟩
      · have hc26_ := hc26; try simp only [decide_eq_true_eq, decide_eq_false_iff_not, Bool.not_eq_true', Bool.not_eq_false', Decidable.not_not, Int.not_lt, Int.not_le, Bool.and_eq_true, Bool.or_eq_true] at hc26_
        refine wc_skip ?_
        refine wq_then ?_
        refine wc_seq ?_
        refine wc_region ?_
        refine wl_q (q_move rfl) rfl ?_
        refine wl_q (q_add rfl rfl ⟨by omega, by omega⟩) rfl ?_
        refine wl_q (q_assign rfl) rfl ?_
        refine wl_nil ?_
        refine wq_then ?_
        refine wc_goto ?_
        refine wq_then_goto ?_
        exact wq_jump_goto (i + 1) (⟨⟨(show ¬ l.xs.length = 0 from hne), (show 0 ≤ (i + 1 : Int) from (by omega)), (show (i + 1 : Int) ≤ l.xs.length from (by omega)), (show ∀ j : Nat, (j : Int) < (i + 1 : Int) → ∀ y, l.xs[j]? = some y → checkF y = 0 from (fun j h y hy => by rcases Int.lt_or_le (j : Int) i with h3 | h3; exact h2 j h3 y hy; rw [show j = i.toNat by omega, hx] at hy; simp only [Option.some.injEq] at hy; rw [← hy]; exact hc26_))⟩, (show ((l.xs.length : Int) - (i + 1 : Int)).toNat < ((l.xs.length : Int) - i).toNat from (by omega))⟩) (by repeat (first | exact Sub.nil | refine Sub.cons (by rfl) ?_)) (Ent.of_split (by repeat (first | exact Split.all | exact Split.nil | (apply Split.keep; · ((repeat constructor); first | done | fail)) | (apply Split.take; · ((repeat constructor); first | done | fail)) | apply Split.drop)))
    · have hc19_ := hc19; try simp only [decide_eq_true_eq, decide_eq_false_iff_not, Bool.not_eq_true', Bool.not_eq_false', Decidable.not_not, Int.not_lt, Int.not_le, Bool.and_eq_true, Bool.or_eq_true] at hc19_
      have hfb : firstBad l.xs = none := firstBad_none fun j y hy => h2 j (by have := (List.getElem?_eq_some_iff.1 hy).1; omega) y hy
      have hA8 : ∀ x ∈ l.xs, x.After.xs.length < 1048576 := fun y hy => by
        obtain ⟨j, hj, rfl⟩ := List.mem_iff_getElem.1 hy
        have := checkF_after (h2 j (by omega) _ (List.getElem?_eq_getElem hj))
        omega
      refine wc_skip ?_
      refine wq_then ?_
      refine wc_seq ?_
      refine wc_region ?_
      refine wl_q (q_move rfl) rfl ?_
      refine wl_q (q_move rfl) rfl ?_
      refine wl_l (lev_callF (S_batch_of known l (by omega) (by omega)) rfl rfl (by repeat (first | exact Split.nil | (apply Split.keep; · ((repeat constructor); first | done | fail)) | (apply Split.take; · ((repeat constructor); first | done | fail)) | apply Split.drop)) ?_)
      rintro v_ w_ ⟨rk, rf, kn, fr, rfl, ⟨hkn, hfr⟩, hs15⟩
      have et : twiceF kn fr = twiceP known.xs l.xs := funext fun x => by unfold twiceF twiceP; rw [hkn, hfr]
      have eh : (fun id => !(thereF kn fr id)) = fun id => !(thereP known.xs l.xs id) := funext fun id => by unfold thereF thereP; rw [hkn, hfr]
      have es : (fun id => !(soundF kn id)) = fun id => !(soundP known.xs id) := funext fun id => by unfold soundF soundP; rw [hkn]
      (try simp only [List.cons_append, List.nil_append] at hs15)
      refine ⟨_, hs15, ?_⟩
      refine wl_l (lev_alloc [(.map none), (.map none), (.slice none 0 0)] (.agg #[(.map none), (.map none), (.slice none 0 0)]) (by kernel_rfl) rfl rfl fun bb => ?_)
      refine wl_l ?_
      first | refine lev_store1 rfl rfl rfl (by kernel_rfl) rfl rfl (by ((repeat constructor); first | done | fail)) (by rfl) ?_ | refine lev_storeA rfl rfl (by ((repeat constructor); first | done | fail)) (by rfl) (by kernel_rfl) (by first | exact TThing.one _ | exact TSpec.one _ | exact TTask.one _ | exact TArc.one _ | exact TBounds.one _ | exact fun u hu => List.all_eq_true.1 (rfl : List.all _ (·.oneCell') = true) u hu) rfl ?_
      refine wl_nil ?_
      refine wq_then ?_
      refine wc_seq ?_
      refine wc_region ?_
      refine wl_q (q_makeFunc rfl rfl) rfl ?_
      refine wl_q (q_assign rfl) rfl ?_
      refine wl_nil ?_
      refine wq_then ?_
      refine wc_seq ?_
      refine wc_region ?_
      refine wl_q (q_move rfl) rfl ?_
      refine wl_l (lev_callF (S_batch_Order l hl hA8) rfl rfl (by repeat (first | exact Split.nil | (apply Split.keep; · ((repeat constructor); first | done | fail)) | (apply Split.take; · ((repeat constructor); first | done | fail)) | apply Split.drop)) ?_)
      rintro v_ w_ ⟨s, rfl, hs3, hs21⟩
      (try simp only [List.cons_append, List.nil_append] at hs21)
      refine ⟨_, hs21, ?_⟩
      refine wl_q (q_move rfl) rfl ?_
      refine wl_q (q_extract rfl rfl) rfl ?_
      refine wl_q (q_extract rfl rfl) rfl ?_
      refine wl_q (q_assign rfl) rfl ?_
      refine wl_q (q_assign rfl) rfl ?_
      refine wl_nil ?_
      refine wq_then ?_
      refine wc_seq ?_
      refine wc_block ?_
      refine wc_seq ?_
      refine wc_region ?_
      refine wl_q (q_move rfl) rfl ?_
      refine wl_q (q_len (e := 71) (by kernel_rfl) rfl) rfl ?_
      refine wl_q (q_move rfl) rfl ?_
      refine wl_q (q_len (e := 67) (by kernel_rfl) rfl) rfl ?_
      refine wl_q (q_add rfl rfl ⟨by omega, by omega⟩) rfl ?_
      refine wl_q (q_move rfl) rfl ?_
      refine wl_q (q_gtr rfl rfl) rfl ?_
      refine wl_q (q_assign rfl) rfl ?_
      refine wl_nil ?_
      refine wq_then ?_
      refine wc_cond _ rfl (fun hc39 => ?_) (fun hc39 => ?_)
      · have hc39_ := hc39; try simp only [decide_eq_true_eq, decide_eq_false_iff_not, Bool.not_eq_true', Bool.not_eq_false', Decidable.not_not, Int.not_lt, Int.not_le, Bool.and_eq_true, Bool.or_eq_true] at hc39_
        refine wc_seq ?_
        refine wc_region ?_
        refine wl_q (q_assign rfl) rfl ?_
        refine wl_nil ?_
        refine wq_then ?_
        refine wc_ret ?_
        refine wq_block_ret ?_
        refine wq_then_ret ?_
        refine wq_jump_ret ?_
        refine wq_ret rfl (RVs.tmp rfl RVs.nil) (fun w_ hs_ => ?_)
        exact ⟨by unfold checkB; rw [if_neg hne, hfb]; simp only []; rw [if_pos hc39_]; rfl, Split.use (by repeat (first | exact Split.nil | (apply Split.keep; · ((repeat constructor); first | done | fail)) | (apply Split.take; · ((repeat constructor); first | done | fail)) | apply Split.drop)) hs_⟩
      · have hc39_ := hc39; try simp only [decide_eq_true_eq, decide_eq_false_iff_not, Bool.not_eq_true', Bool.not_eq_false', Decidable.not_not, Int.not_lt, Int.not_le, Bool.and_eq_true, Bool.or_eq_true] at hc39_
        refine wc_seq ?_
        refine wc_region ?_
        refine wl_q (q_move rfl) rfl ?_
        refine wl_q (q_move rfl) rfl ?_
        refine wl_entL (ent_star (A := mpI rf fr) (B := cb bb (bookc rk rf l) 130) (by ((repeat constructor); first | done | fail)) (by ((repeat constructor); first | done | fail))) ?_
        refine wl_entL (ent_star (A := mpI rk kn) (B := star (mpI rf fr) (cb bb (bookc rk rf l) 130)) (by ((repeat constructor); first | done | fail)) (by ((repeat constructor); first | done | fail))) ?_
        refine wl_l (lev_callF (S_slices_ContainsFuncS (p := twiceF kn fr) l 69 [] [.pointer (some ⟨bb, 0, none⟩)] (star (mpI rk kn) (star (mpI rf fr) (cb bb (bookc rk rf l) 130))) (by omega) (fun x _ => S_batch_Check1 rk rf kn fr l bb x)) rfl rfl (by repeat (first | exact Split.nil | (apply Split.keep; · ((repeat constructor); first | done | fail)) | (apply Split.take; · ((repeat constructor); first | done | fail)) | apply Split.drop)) ?_)
        rintro v_ w_ ⟨rfl, hs30⟩
        (try simp only [List.cons_append, List.nil_append] at hs30)
        refine ⟨_, hs30, ?_⟩
        refine wl_q (q_assign rfl) rfl ?_
        refine wl_nil ?_
        refine wq_then ?_
        refine wc_cond _ rfl (fun hc47 => ?_) (fun hc47 => ?_)
        · have hc47_ := hc47; try simp only [decide_eq_true_eq, decide_eq_false_iff_not, Bool.not_eq_true', Bool.not_eq_false', Decidable.not_not, Int.not_lt, Int.not_le, Bool.and_eq_true, Bool.or_eq_true] at hc47_
          refine wc_seq ?_
          refine wc_region ?_
          refine wl_q (q_assign rfl) rfl ?_
          refine wl_nil ?_
          refine wq_then ?_
          refine wc_ret ?_
          refine wq_block_ret ?_
          refine wq_then_ret ?_
          refine wq_jump_ret ?_
          refine wq_ret rfl (RVs.tmp rfl RVs.nil) (fun w_ hs_ => ?_)
          rw [et] at hc47
          exact ⟨by unfold checkB; rw [if_neg hne, hfb]; simp only []; rw [if_neg (by omega), if_pos hc47]; rfl, Split.use (by repeat (first | exact Split.nil | (apply Split.keep; · ((repeat constructor); first | done | fail)) | (apply Split.take; · ((repeat constructor); first | done | fail)) | apply Split.drop)) hs_⟩
        · have hc47_ := hc47; try simp only [decide_eq_true_eq, decide_eq_false_iff_not, Bool.not_eq_true', Bool.not_eq_false', Decidable.not_not, Int.not_lt, Int.not_le, Bool.and_eq_true, Bool.or_eq_true] at hc47_
          refine wc_seq ?_
          refine wc_star (A := mpI rk kn) (B := star (mpI rf fr) (cb bb (bookc rk rf l) 130)) (by ((repeat constructor); first | done | fail)) ?_
          refine wc_star (A := mpI rf fr) (B := cb bb (bookc rk rf l) 130) (by ((repeat constructor); first | done | fail)) ?_
          refine wc_region ?_
          refine wl_q (q_loadCA rfl (by ((repeat constructor); first | done | fail)) (by kernel_rfl)) rfl ?_
          refine wl_q (q_loadCA rfl (by ((repeat constructor); first | done | fail)) (by kernel_rfl)) rfl ?_
          refine wl_q (q_makeFunc rfl rfl) rfl ?_
          refine wl_entL (ent_star (A := mpI rk kn) (B := mpI rf fr) (by ((repeat constructor); first | done | fail)) (by ((repeat constructor); first | done | fail))) ?_
          refine wl_l (lev_callF (S_batch_each (p := thereF kn fr) 72 [.agg (bookc rk rf l).toArray] [] (star (mpI rk kn) (mpI rf fr)) rk rf l (by omega) (fun id => S_batch_there rk rf kn fr l id)) rfl rfl (by repeat (first | exact Split.nil | (apply Split.keep; · ((repeat constructor); first | done | fail)) | (apply Split.take; · ((repeat constructor); first | done | fail)) | apply Split.drop)) ?_)
          rintro v_ w_ ⟨rfl, hs35⟩
          (try simp only [List.cons_append, List.nil_append] at hs35)
          refine ⟨_, hs35, ?_⟩
          refine wl_q (q_not rfl) rfl ?_
          refine wl_q (q_assign rfl) rfl ?_
          refine wl_nil ?_
          refine wq_then ?_
          refine wc_cond _ rfl (fun hc51 => ?_) (fun hc51 => ?_)
          · have hc51_ := hc51; try simp only [decide_eq_true_eq, decide_eq_false_iff_not, Bool.not_eq_true', Bool.not_eq_false', Decidable.not_not, Int.not_lt, Int.not_le, Bool.and_eq_true, Bool.or_eq_true] at hc51_
            refine wc_seq ?_
            refine wc_region ?_
            refine wl_q (q_assign rfl) rfl ?_
            refine wl_nil ?_
            refine wq_then ?_
            refine wc_ret ?_
            refine wq_block_ret ?_
            refine wq_then_ret ?_
            refine wq_jump_ret ?_
            refine wq_ret rfl (RVs.tmp rfl RVs.nil) (fun w_ hs_ => ?_)
            rw [et] at hc47
            rw [eh] at hc51
            exact ⟨by unfold checkB; rw [if_neg hne, hfb]; simp only []; rw [if_neg (by omega), if_neg (by rw [hc47]; decide), if_pos (by simpa using hc51)]; rfl, Split.use (by repeat (first | exact Split.nil | (apply Split.keep; · ((repeat constructor); first | done | fail)) | (apply Split.take; · ((repeat constructor); first | done | fail)) | apply Split.drop)) hs_⟩
          · have hc51_ := hc51; try simp only [decide_eq_true_eq, decide_eq_false_iff_not, Bool.not_eq_true', Bool.not_eq_false', Decidable.not_not, Int.not_lt, Int.not_le, Bool.and_eq_true, Bool.or_eq_true] at hc51_
            refine wc_seq ?_
            refine wc_region ?_
            refine wl_q (q_loadCA rfl (by ((repeat constructor); first | done | fail)) (by kernel_rfl)) rfl ?_
            refine wl_q (q_loadCA rfl (by ((repeat constructor); first | done | fail)) (by kernel_rfl)) rfl ?_
            refine wl_q (q_makeFunc rfl rfl) rfl ?_
            refine wl_l (lev_callF (S_batch_each (p := soundF kn) 73 [.agg (bookc rk rf l).toArray] [] (star (mpI rk kn) (mpI rf fr)) rk rf l (by omega) (fun id => S_batch_sound rk rf kn fr l id)) rfl rfl (by repeat (first | exact Split.nil | (apply Split.keep; · ((repeat constructor); first | done | fail)) | (apply Split.take; · ((repeat constructor); first | done | fail)) | apply Split.drop)) ?_)
            rintro v_ w_ ⟨rfl, hs41⟩
            (try simp only [List.cons_append, List.nil_append] at hs41)
            refine ⟨_, hs41, ?_⟩
            refine wl_q (q_not rfl) rfl ?_
            refine wl_q (q_assign rfl) rfl ?_
            refine wl_nil ?_
            refine wq_then ?_
            refine wc_cond _ rfl (fun hc57 => ?_) (fun hc57 => ?_)
            · have hc57_ := hc57; try simp only [decide_eq_true_eq, decide_eq_false_iff_not, Bool.not_eq_true', Bool.not_eq_false', Decidable.not_not, Int.not_lt, Int.not_le, Bool.and_eq_true, Bool.or_eq_true] at hc57_
              refine wc_seq ?_
              refine wc_region ?_
              refine wl_q (q_assign rfl) rfl ?_
              refine wl_nil ?_
              refine wq_then ?_
              refine wc_ret ?_
              refine wq_block_ret ?_
              refine wq_then_ret ?_
              refine wq_jump_ret ?_
              refine wq_ret rfl (RVs.tmp rfl RVs.nil) (fun w_ hs_ => ?_)
              rw [et] at hc47
              rw [eh] at hc51
              rw [es] at hc57
              exact ⟨by unfold checkB; rw [if_neg hne, hfb]; simp only []; rw [if_neg (by omega), if_neg (by rw [hc47]; decide), if_neg (by simpa using hc51), if_pos (by simpa using hc57)]; rfl, Split.use (by repeat (first | exact Split.nil | (apply Split.keep; · ((repeat constructor); first | done | fail)) | (apply Split.take; · ((repeat constructor); first | done | fail)) | apply Split.drop)) hs_⟩
            · have hc57_ := hc57; try simp only [decide_eq_true_eq, decide_eq_false_iff_not, Bool.not_eq_true', Bool.not_eq_false', Decidable.not_not, Int.not_lt, Int.not_le, Bool.and_eq_true, Bool.or_eq_true] at hc57_
              refine wc_seq ?_
              refine wc_region ?_
              refine wl_q (q_move rfl) rfl ?_
              refine wl_q (q_not rfl) rfl ?_
              refine wl_q (q_assign rfl) rfl ?_
              refine wl_nil ?_
              refine wq_then ?_
              refine wc_cond _ rfl (fun hc63 => ?_) (fun hc63 => ?_)
              · have hc63_ := hc63; try simp only [decide_eq_true_eq, decide_eq_false_iff_not, Bool.not_eq_true', Bool.not_eq_false', Decidable.not_not, Int.not_lt, Int.not_le, Bool.and_eq_true, Bool.or_eq_true] at hc63_
                refine wc_seq ?_
                refine wc_region ?_
                refine wl_q (q_assign rfl) rfl ?_
                refine wl_nil ?_
                refine wq_then ?_
                refine wc_ret ?_
                refine wq_block_ret ?_
                refine wq_then_ret ?_
                refine wq_jump_ret ?_
                refine wq_ret rfl (RVs.tmp rfl RVs.nil) (fun w_ hs_ => ?_)
                rw [et] at hc47
                rw [eh] at hc51
                rw [es] at hc57
                exact ⟨by unfold checkB; rw [if_neg hne, hfb]; simp only []; rw [if_neg (by omega), if_neg (by rw [hc47]; decide), if_neg (by simpa using hc51), if_neg (by simpa using hc57), if_pos (by rw [← hs3]; simpa using hc63)]; rfl, Split.use (by repeat (first | exact Split.nil | (apply Split.keep; · ((repeat constructor); first | done | fail)) | (apply Split.take; · ((repeat constructor); first | done | fail)) | apply Split.drop)) hs_⟩
              · have hc63_ := hc63; try simp only [decide_eq_true_eq, decide_eq_false_iff_not, Bool.not_eq_true', Bool.not_eq_false', Decidable.not_not, Int.not_lt, Int.not_le, Bool.and_eq_true, Bool.or_eq_true] at hc63_
                refine wc_skip ?_
                refine wq_block_normal ?_
                refine wq_then ?_
                refine wc_seq ?_
                refine wc_region ?_
                refine wl_q (q_assign rfl) rfl ?_
                refine wl_nil ?_
                refine wq_then ?_
                refine wc_ret ?_
                refine wq_jump_ret ?_
                refine wq_ret rfl (RVs.tmp rfl RVs.nil) (fun w_ hs_ => ?_)
                rw [et] at hc47
                rw [eh] at hc51
                rw [es] at hc57
                exact ⟨by unfold checkB; rw [if_neg hne, hfb]; simp only []; rw [if_neg (by omega), if_neg (by rw [hc47]; decide), if_neg (by simpa using hc51), if_neg (by simpa using hc57), if_neg (by rw [← hs3]; simpa using hc63)]; rfl, Split.use (by repeat (first | exact Split.nil | (apply Split.keep; · ((repeat constructor); first | done | fail)) | (apply Split.take; · ((repeat constructor); first | done | fail)) | apply Split.drop)) hs_⟩
end Go.Proofs.Ytlkmcdijioiddaa
