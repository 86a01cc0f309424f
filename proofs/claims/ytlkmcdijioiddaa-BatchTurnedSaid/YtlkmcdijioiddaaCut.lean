/- Cuts of lists; append of a list that stays. Not a proof of any statement by itself. -/
import Derived.Test.YtlkmcdijioiddaaLit
namespace Go.Proofs.Ytlkmcdijioiddaa
open Go.RowKit
set_option linter.unusedVariables false
set_option linter.unusedSimpArgs false

def Sl.cut {α : Type} (s : Sl α) (T : Ty α) (lo hi : Nat) : Sl α := ⟨if s.c = lo then s.A else s.A.map (·.add (lo * T.size)), s.c - lo, (s.xs.take hi).drop lo⟩
theorem flat_cut {α : Type} (T : Ty α) : ∀ (l : List α) (lo hi j : Nat) (v : Value), (flat T ((l.take hi).drop lo))[j]? = some v → (flat T l)[lo * T.size + j]? = some v := by
  intro l lo hi j v h
  have e1 : l = l.take hi ++ l.drop hi := (List.take_append_drop hi l).symm
  have e2 : l.take hi = (l.take hi).take lo ++ (l.take hi).drop lo := (List.take_append_drop lo _).symm
  rw [e1, flat_append, e2, flat_append]
  rcases Nat.lt_or_ge (l.take hi).length lo with hlt | hge
  · rw [List.drop_eq_nil_of_le (by omega)] at h; simp [flat] at h
  · have hlen : (flat T ((l.take hi).take lo)).length = lo * T.size := by rw [flat_length, List.length_take, Nat.min_eq_left hge]
    have hj : j < (flat T ((l.take hi).drop lo)).length := by
      rcases Nat.lt_or_ge j (flat T ((l.take hi).drop lo)).length with h' | h'
      · exact h'
      · rw [List.getElem?_eq_none h'] at h; cases h
    rw [List.getElem?_append_left (by simp only [List.length_append, hlen]; omega), List.getElem?_append_right (by omega), hlen]
    rw [show lo * T.size + j - lo * T.size = j by omega]
    exact h
theorem Rd.cut {α : Type} {T : Ty α} {s : Sl α} {M : MH} (h : Rd T s M) {lo hi : Nat} (h1 : lo ≤ hi) (h2 : hi ≤ s.xs.length) : Rd T (s.cut T lo hi) M := by
  obtain ⟨a1, a2, a3, a4⟩ := h
  have hl : ((s.xs.take hi).drop lo).length = hi - lo := by simp; omega
  refine ⟨by show ((s.xs.take hi).drop lo).length ≤ s.c - lo; omega, by show ((s.xs.take hi).drop lo).length ≤ big; omega, fun x hx => a3 x (List.mem_of_mem_take (List.mem_of_mem_drop hx)), ?_⟩
  rcases a4 with a4 | ⟨a, cs, e, fr, b1, b2, b3, b4⟩
  · left; show (s.xs.take hi).drop lo = []; rw [a4]; simp
  · by_cases hc : s.c = lo
    · left
      have : hi = lo := by omega
      subst this
      show (s.xs.take hi).drop hi = []
      apply List.eq_nil_of_length_eq_zero; omega
    · right
      obtain ⟨ab, ao, as⟩ := a
      simp only at b2 b3 b4
      subst b2
      refine ⟨⟨ab, ao + lo * T.size, none⟩, cs, e, fr, ?_, rfl, b3, fun j v hj => ?_⟩
      · show (if s.c = lo then s.A else s.A.map (·.add (lo * T.size))) = _
        rw [if_neg hc, b1]; simp [add_at]
      · have := b4 _ _ (flat_cut T s.xs lo hi j v hj)
        simp only
        rw [Nat.add_assoc]; exact this

section cut
variable {P : Program} {n : Nat} {fs : Fs} {E : Env} {L : List HP} {α : Type} {T : Ty α} {C : Fs → List HP → Prop}
theorem cut_run {t e : TypeId} {s : Sl α} {lo hi : Nat} {l h : Option Value} {w : World} (hu : P.underlying t = some (.slice e)) (hsz : (P.info? e).map (·.size) = some T.size)
    (hl : l = none ∧ lo = 0 ∨ l = some (.int .i64 (lo : Int))) (hh : h = none ∧ hi = s.xs.length ∨ h = some (.int .i64 (hi : Int))) (h1 : lo ≤ hi) (h2 : hi ≤ s.xs.length) (hc : s.xs.length ≤ s.c) :
    (Instr.sliceAt t s.val l h none).run P w = .ok (s.cut T lo hi).val w := by
  obtain ⟨info, hi1, hi2⟩ : ∃ info, P.info? e = some info ∧ info.size = T.size := by
    cases h : P.info? e with
    | none => rw [h] at hsz; cases hsz
    | some info => rw [h] at hsz; exact ⟨info, rfl, by simpa using hsz⟩
  have hlen : ((s.xs.take hi).drop lo).length = hi - lo := by simp; omega
  unfold Instr.sliceAt
  rw [run_bind (run_underlying hu w)]
  simp only []
  unfold Instr.slice Sl.val
  rw [run_bind (run_underlying hu w)]
  simp only []
  have hb : (Instr.sliceBounds true s.xs.length s.c l h none).run P w = .ok (lo, hi, s.c) w := by
    unfold Instr.sliceBounds
    have b1 : (Instr.sliceBound (.int .i64 (hi : Int)) s.c .sliceAcap).run P w = .ok hi w := by
      unfold Instr.sliceBound asIntOf
      show (if 0 ≤ (hi : Int) ∧ (hi : Int) ≤ (s.c : Int) then pure (hi : Int).toNat else boundsPanic .i64 hi s.c .sliceAcap : Sem Nat).run P w = _
      rw [if_pos ⟨by omega, by omega⟩]; rfl
    have b2 : (Instr.sliceBound (.int .i64 (lo : Int)) hi .sliceB).run P w = .ok lo w := by
      unfold Instr.sliceBound asIntOf
      show (if 0 ≤ (lo : Int) ∧ (lo : Int) ≤ (hi : Int) then pure (lo : Int).toNat else boundsPanic .i64 lo hi .sliceB : Sem Nat).run P w = _
      rw [if_pos ⟨by omega, by omega⟩]; rfl
    rcases hh with ⟨rfl, rfl⟩ | rfl <;> rcases hl with ⟨rfl, rfl⟩ | rfl
    · rfl
    · simp only [pure_bind, Option.isSome_none, Bool.false_eq_true, if_false]
      rw [run_bind b2]; rfl
    · simp only [pure_bind, if_true]
      rw [run_bind b1]; rfl
    · simp only [pure_bind, if_true, Option.isSome_none, Bool.false_eq_true, if_false]
      rw [run_bind b1, run_bind b2]; rfl
  rw [run_bind hb]
  simp only []
  have hsz' : (sizeOf e).run P w = .ok T.size w := by simp [sizeOf, typeInfo, hi1, hi2, go_sem]
  rw [run_bind hsz']
  show Result.ok (Value.slice (if s.c = lo then s.A else s.A.map (·.add (lo * T.size))) (hi - lo) (s.c - lo)) w = Result.ok (Value.slice (s.cut T lo hi).A ((s.xs.take hi).drop lo).length (s.cut T lo hi).c) w
  rw [hlen]; rfl
theorem q_cut {t e : TypeId} {x : Operand} {lo hi mx : Option Operand} {s : Sl α} {l h : Nat} (hu : P.underlying t = some (.slice e)) (hsz : (P.info? e).map (·.size) = some T.size) (hx : ev fs x = some s.val)
    (hl : lo = none ∧ l = 0 ∨ ∃ y, lo = some y ∧ ev fs y = some (.int .i64 (l : Int))) (hh : hi = none ∧ h = s.xs.length ∨ ∃ y, hi = some y ∧ ev fs y = some (.int .i64 (h : Int))) (hm : mx = none) (h1 : l ≤ h) (h2 : h ≤ s.xs.length) (hc : ∀ w, sats E w L → s.xs.length ≤ s.c) : QEv P (.slice t x lo hi mx) n fs E L (s.cut T l h).val := fun a w o ho hf hs => by
  subst hm
  unfold execOp; rw [ho]
  show ((Instr.sliceAt t (a.eval x) (lo.map a.eval) (hi.map a.eval) none) >>= fun y => pure (Next.value y)).run P w = _
  rw [hf.ev hx]
  have : (Instr.sliceAt t s.val (lo.map a.eval) (hi.map a.eval) none).run P w = .ok (s.cut T l h).val w := by
    refine cut_run hu hsz ?_ ?_ h1 h2 (hc w hs)
    · rcases hl with ⟨rfl, rfl⟩ | ⟨y, rfl, hy⟩
      · exact .inl ⟨rfl, rfl⟩
      · exact .inr (by simp [hf.ev hy])
    · rcases hh with ⟨rfl, rfl⟩ | ⟨y, rfl, hy⟩
      · exact .inl ⟨rfl, rfl⟩
      · exact .inr (by simp [hf.ev hy])
  rw [run_bind this]; rfl
theorem q_cutL {t e : TypeId} {x y : Operand} {s : Sl α} {R : List HP} {j : Int} (hu : P.underlying t = some (.slice e)) (hsz : (P.info? e).map (·.size) = some T.size) (hx : ev fs x = some s.val) (hy : ev fs y = some (.int .i64 j)) (hat : At (per (Rd T s)) L R) (h0 : 0 ≤ j) (h1 : j ≤ s.xs.length) : QEv P (.slice t x (some y) none none) n fs E L (s.cut T j.toNat s.xs.length).val :=
  q_cut hu hsz hx (.inr ⟨y, rfl, by rw [hy]; congr; omega⟩) (.inl ⟨rfl, rfl⟩) rfl (by omega) (Nat.le_refl _) fun w hs => (hs.at hat).rd_get.1
theorem q_cutH {t e : TypeId} {x y : Operand} {s : Sl α} {R : List HP} {j : Int} (hu : P.underlying t = some (.slice e)) (hsz : (P.info? e).map (·.size) = some T.size) (hx : ev fs x = some s.val) (hy : ev fs y = some (.int .i64 j)) (hat : At (per (Rd T s)) L R) (h0 : 0 ≤ j) (h1 : j ≤ s.xs.length) : QEv P (.slice t x none (some y) none) n fs E L (s.cut T 0 j.toNat).val :=
  q_cut hu hsz hx (.inl ⟨rfl, rfl⟩) (.inr ⟨y, rfl, by rw [hy]; congr; omega⟩) rfl (by omega) (by omega) fun w hs => (hs.at hat).rd_get.1
theorem q_cutLH {t e : TypeId} {x y z : Operand} {s : Sl α} {R : List HP} {j k : Int} (hu : P.underlying t = some (.slice e)) (hsz : (P.info? e).map (·.size) = some T.size) (hx : ev fs x = some s.val) (hy : ev fs y = some (.int .i64 j)) (hz : ev fs z = some (.int .i64 k)) (hat : At (per (Rd T s)) L R) (h0 : 0 ≤ j ∧ j ≤ k) (h1 : k ≤ s.xs.length) : QEv P (.slice t x (some y) (some z) none) n fs E L (s.cut T j.toNat k.toNat).val :=
  q_cut hu hsz hx (.inr ⟨y, rfl, by rw [hy]; congr; omega⟩) (.inr ⟨z, rfl, by rw [hz]; congr; omega⟩) rfl (by omega) (by omega) fun w hs => (hs.at hat).rd_get.1
/-- what stays, a part of it said beside it -/
theorem ent_cut {s : Sl α} {R : List HP} (hat : At (per (Rd T s)) L R) (lo hi : Nat) (h1 : lo ≤ hi) (h2 : hi ≤ s.xs.length) : Ent E L (per (Rd T (s.cut T lo hi)) :: L) := fun w hs => by
  have h3 := (hs.at hat).dup.per_imp (fun M h => h.cut h1 h2)
  exact h3.perm (hat.perm.symm.cons _)
theorem ent_rd {e : TypeId} {s : Sl α} {R : List HP} (hat : At (Own T e s) L R) : Ent E L (per (Rd T s) :: R) := fun w hs => (hs.at hat).own_rd
theorem ent_own_nil (T : Ty α) (e : TypeId) : Ent E L (Own T e (Sl.nil : Sl α) :: L) := fun w hs => hs.own_nil T e
theorem ent_per {q : MH → Prop} (p : PerOf L q) : Ent E L (per q :: L) := fun w hs => by have := p.put (G := []) (by simpa using hs); simpa using this

/-! append of a list that stays -/
theorem append_empty {t ty e : TypeId} {s : Sl α} {A : Option Addr} {c : Nat} {w : World} (ht : P.underlying t = some (.slice e)) (hsz : (P.info? e).map (·.size) = some T.size) (hc : s.xs.length ≤ s.c) (hA : ∀ a, s.A = some a → True) :
    (Builtin.append_ #[t, t] ty #[s.val, .slice A 0 c]).run P w = .ok s.val w := by
  obtain ⟨info, hi1, hi2⟩ : ∃ info, P.info? e = some info ∧ info.size = T.size := by
    cases h : P.info? e with
    | none => rw [h] at hsz; cases hsz
    | some info => rw [h] at hsz; exact ⟨info, rfl, by simpa using hsz⟩
  cases A with
  | none => cases hA' : s.A <;> simp [Builtin.append_, Sl.val, run_underlying ht, sizeOf, typeInfo, hi1, Builtin.lenOf, Builtin.firstCells, go_sem, hc, storeCells, hA']
  | some a => cases hA' : s.A <;> simp [Builtin.append_, Sl.val, run_underlying ht, sizeOf, typeInfo, hi1, Builtin.lenOf, Builtin.firstCells, loadCells, loadCellsFrom, go_sem, hc, storeCells, hA']
theorem lev_appendR {x y : Operand} {t ty e : TypeId} {d : Nat} {s r : Sl α} {R R' : List HP} {z : Value} (ht : P.underlying t = some (.slice e)) (hz : zeroIs P e z) (hsz : (P.info? e).map (·.size) = some T.size) (hzs : z.cells.size = T.size) (hpos : Nat.blt 0 T.size = true) (bytes : Nat) (hby : (P.info? e).map (·.bytes) = some bytes)
    (hx : ev fs x = some s.val) (hy : ev fs y = some r.val) (hd : Nat.blt d n = true)
    (hat : At (Own T e s) L R) (hat2 : At (per (Rd T r)) R R')
    (hb : s.xs.length + r.xs.length ≤ big ∧ (s.xs.length + r.xs.length) * bytes ≤ 140737488355328 ∧ bytes ≤ 512)
    (h : ∀ s' : Sl α, s'.xs = s.xs ++ r.xs → C ((d, s'.val) :: fs) (Own T e s' :: R)) : LEv P (.call ⟨.builtin .append, [x, y].toArray, [t, t].toArray⟩) ty (some d) n fs E L C := fun a w o ho hty hdst hf hs K Q hK => by
  have hs1 := (hs.at hat)
  have hs2 : sats E w (per (Rd T r) :: Own T e s :: R') := (hs1.perm (hat2.perm.cons _)).perm (List.Perm.swap _ _ _)
  have hr := hs2.rd_get
  have key : ∃ (s' : Sl α) (w' : World), (Builtin.append_ [t, t].toArray o.type [s.val, r.val].toArray).run P w = .ok s'.val w' ∧ s'.xs = s.xs ++ r.xs ∧ sats E w' (Own T e s' :: R) := by
    by_cases he : r.xs = []
    · refine ⟨s, w, ?_, by rw [he]; simp, hs1⟩
      have := append_empty (P := P) (T := T) (t := t) (ty := o.type) (e := e) (s := s) (A := r.A) (c := r.c) (w := w) ht hsz hs1.own_get.1 (fun _ _ => trivial)
      unfold Sl.val at this ⊢
      rw [he]; exact this
    · obtain ⟨hA, hsp⟩ := hr.2.2.1 he
      have hs3 : sats E w (Own T e s :: per (fun M => ∀ y ∈ r.xs, T.ok M y) :: R) := by
        have h1 : sats E w (per (Rd T r) :: per (Rd T r) :: Own T e s :: R') := hs2.dup
        have h2 : sats E w (per (fun M => ∀ y ∈ r.xs, T.ok M y) :: per (Rd T r) :: Own T e s :: R') := h1.per_imp fun M h => h.2.2.1
        refine h2.perm ?_
        have q1 : (per (Rd T r) :: Own T e s :: R').Perm (Own T e s :: R) := (List.Perm.swap _ _ _).trans (hat2.perm.symm.cons _)
        exact (q1.cons _).trans (.swap _ _ _)
      obtain ⟨s', w', h1, h2, h3⟩ := append_run (ad := r.a0) (c := r.c) (ty := o.type) (ys := r.xs) ht hz hsz hzs (by simpa using hpos) ⟨bytes, hby, hb.2.2, hb.2.1⟩ hs3 hr.2.2.2 hb.1
      refine ⟨s', w', ?_, h2, h3⟩
      have e1 : r.val = .slice (some r.a0) r.xs.length r.c := by unfold Sl.val; rw [hA]
      rw [e1]; exact h1
  obtain ⟨s', w', k1, k2, k3⟩ := key
  unfold Oper.wp
  have he : (execOp a.eval o).run P w = .ok (.value s'.val) w' := by
    rw [execOp_builtin a.eval ho]
    show ((Builtin.append_ [t, t].toArray o.type [a.eval x, a.eval y].toArray) >>= fun y => pure (Next.value y)).run P w = _
    rw [hf.ev hx, hf.ev hy, run_bind k1]; rfl
  rw [he]
  show K (a.put o.dst s'.val) w'
  rw [hdst]
  exact hK _ _ (h s' k2) _ _ (hf.put hd _) k3
end cut
end Go.Proofs.Ytlkmcdijioiddaa
