/- Maps from ints to ints; literals as lists. Not a proof of any statement by itself. -/
import Derived.Test.YtlkmcdijioiddaaApi
namespace Go.Proofs.Ytlkmcdijioiddaa
open Go.RowKit
set_option linter.unusedVariables false
set_option linter.unusedSimpArgs false

def encKV (l : List (Int × Int)) : List (Int × Value) := l.map fun p => (p.1, .int .i64 p.2)
def mpI (r : Nat) (l : List (Int × Int)) : HP := mp r (encKV l)
theorem aget_enc (k : Int) : ∀ l : List (Int × Int), aget (encKV l) k = (aget l k).map (fun v => Value.int .i64 v)
  | [] => rfl
  | (j, v) :: l => by
    have ih := aget_enc k l
    show (if k = j then some (Value.int .i64 v) else aget (encKV l) k) = Option.map _ (if k = j then some v else aget l k)
    rw [ih]; split <;> rfl
theorem aset_enc (k v : Int) : ∀ l : List (Int × Int), aset (encKV l) k (.int .i64 v) = encKV (aset l k v)
  | [] => rfl
  | (j, u) :: l => by
    have ih := aset_enc k v l
    show (if k = j then (j, Value.int .i64 v) :: encKV l else (j, Value.int .i64 u) :: aset (encKV l) k (.int .i64 v)) = encKV (if k = j then (j, v) :: l else (j, u) :: aset l k v)
    rw [ih]; split <;> rfl
theorem adel_enc (k : Int) : ∀ l : List (Int × Int), adel (encKV l) k = encKV (adel l k)
  | [] => rfl
  | (j, u) :: l => by
    have ih := adel_enc k l
    show (if k = j then encKV l else (j, Value.int .i64 u) :: adel (encKV l) k) = encKV (if k = j then l else (j, u) :: adel l k)
    rw [ih]; split <;> rfl
theorem aget_aset {β : Type} (l : List (Int × β)) (k : Int) (v : β) (j : Int) : aget (aset l k v) j = if j = k then some v else aget l j := by
  induction l with
  | nil => simp [aset, aget]
  | cons p l ih =>
    obtain ⟨i, u⟩ := p
    unfold aset
    by_cases hki : k = i
    · subst hki
      simp only [if_true, aget]
      by_cases hj : j = k
      · simp [hj]
      · simp [hj]
    · simp only [if_neg hki, aget]
      by_cases hj : j = i
      · subst hj; have hjk : ¬ j = k := fun e => hki e.symm; simp [hjk]
      · simp only [if_neg hj]; exact ih
theorem aget_adel {β : Type} (l : List (Int × β)) (h : (akeys l).Nodup) (k : Int) (j : Int) : aget (adel l k) j = if j = k then none else aget l j := by
  induction l with
  | nil => simp [adel, aget]
  | cons p l ih =>
    obtain ⟨i, u⟩ := p
    simp only [akeys, List.map_cons, List.nodup_cons] at h
    obtain ⟨h1, h2⟩ := h
    unfold adel
    by_cases hki : k = i
    · subst hki
      simp only [if_true, aget]
      by_cases hj : j = k
      · subst hj
        simp only [if_true]
        have : ∀ l : List (Int × β), j ∉ l.map (·.1) → aget l j = none := by
          intro l
          induction l with
          | nil => intro _; rfl
          | cons q l ih2 =>
            intro hm
            simp only [List.map_cons, List.mem_cons, not_or] at hm
            obtain ⟨a, b⟩ := q
            simp only [aget, if_neg hm.1]; exact ih2 hm.2
        exact this l h1
      · simp [hj]
    · simp only [if_neg hki, aget]
      by_cases hj : j = i
      · subst hj; have hjk : ¬ j = k := fun e => hki e.symm; simp [hjk]
      · simp only [if_neg hj]; exact ih h2
theorem aget_mem {β : Type} {l : List (Int × β)} {k : Int} {v : β} (h : aget l k = some v) : (k, v) ∈ l := by
  induction l with
  | nil => cases h
  | cons p l ih =>
    obtain ⟨j, u⟩ := p
    unfold aget at h
    split at h
    · rename_i e; subst e; simp only [Option.some.injEq] at h; subst h; exact List.mem_cons_self ..
    · exact List.mem_cons_of_mem _ (ih h)
theorem aget_isSome {β : Type} {l : List (Int × β)} {k : Int} : (aget l k).isSome = true ↔ k ∈ akeys l := by
  induction l with
  | nil => simp [aget, akeys]
  | cons p l ih =>
    obtain ⟨j, u⟩ := p
    unfold aget
    by_cases hk : k = j
    · simp [hk, akeys]
    · simp only [if_neg hk, akeys, List.map_cons, List.mem_cons, hk, false_or]; exact ih
theorem length_akeys {β : Type} (l : List (Int × β)) : (akeys l).length = l.length := by simp [akeys]

section mapI
variable {P : Program} {n : Nat} {fs : Fs} {E : Env} {L : List HP} {C : Fs → List HP → Prop} {α : Type} {T : Ty α} {ops : Array Oper} {Q : Exit → Act → World → Prop}
theorem q_lookupI {t kt et : TypeId} {x i : Operand} {r : Nat} {l : List (Int × Int)} {R : List HP} {k : Int} (hu : P.underlying t = some (.map kt et)) (hk : P.underlying kt = some (.int .i64)) (hz : zeroIs P et (.int .i64 0)) (hx : ev fs x = some (.map (some r))) (hi : ev fs i = some (.int .i64 k)) (hat : At (mpI r l) L R) :
    QEv P (.lookup t x i false) n fs E L (.int .i64 ((aget l k).getD 0)) := by
  have := q_lookup (n := n) (E := E) (.int .i64 0) hu hk hz hx hi (show At (mp r (encKV l)) L R from hat)
  rw [aget_enc] at this
  cases h : aget l k with
  | none => rw [h] at this; exact this
  | some v => rw [h] at this; exact this
theorem q_lookupOkI {t kt et : TypeId} {x i : Operand} {r : Nat} {l : List (Int × Int)} {R : List HP} {k : Int} (hu : P.underlying t = some (.map kt et)) (hk : P.underlying kt = some (.int .i64)) (hz : zeroIs P et (.int .i64 0)) (hx : ev fs x = some (.map (some r))) (hi : ev fs i = some (.int .i64 k)) (hat : At (mpI r l) L R) :
    QEv P (.lookup t x i true) n fs E L (.tuple [.int .i64 ((aget l k).getD 0), .bool (aget l k).isSome].toArray) := by
  have := q_lookupOk (n := n) (E := E) (.int .i64 0) hu hk hz hx hi (show At (mp r (encKV l)) L R from hat)
  rw [aget_enc] at this
  cases h : aget l k with
  | none => rw [h] at this; exact this
  | some v => rw [h] at this; exact this
theorem q_lenMI {x : Operand} {t kt et : TypeId} {r : Nat} {l : List (Int × Int)} {R : List HP} (hu : P.underlying t = some (.map kt et)) (hx : ev fs x = some (.map (some r))) (hat : At (mpI r l) L R) : QEv P (.call ⟨.builtin .len, [x].toArray, [t].toArray⟩) n fs E L (.int .i64 (l.length : Int)) := by
  have := q_lenM (P := P) (n := n) (E := E) hu hx (show At (mp r (encKV l)) L R from hat)
  simpa [encKV] using this
theorem lev_mapUpdateI {t kt et ty : TypeId} {x i y : Operand} {dst : Option Nat} {r : Nat} {l : List (Int × Int)} {L' : List HP} {k v : Int} (hu : P.underlying t = some (.map kt et)) (hk : P.underlying kt = some (.int .i64)) (hx : ev fs x = some (.map (some r))) (hi : ev fs i = some (.int .i64 k)) (hy : ev fs y = some (.int .i64 v)) (hd : dst = none) (hup : Upd (mpI r l) (mpI r (aset l k v)) L L') (hC : C fs L') :
    LEv P (.mapUpdate t x i y) ty dst n fs E L C :=
  lev_mapUpdate (l := encKV l) hu hk hx hi hy hd (by rw [aset_enc]; exact hup) hC
theorem lev_makeMapI {t ty : TypeId} {d : Nat} (hd : Nat.blt d n = true) (h : ∀ r, C ((d, .map (some r)) :: fs) (mpI r [] :: L)) : LEv P (.makeMap t none) ty (some d) n fs E L C := lev_makeMap hd h
theorem lev_deleteI {x i : Operand} {t kt et ty : TypeId} {ats : Array TypeId} {dst : Option Nat} {r : Nat} {l : List (Int × Int)} {L' : List HP} {k : Int} (ha : ats[0]? = some t) (hu : P.underlying t = some (.map kt et)) (hk : P.underlying kt = some (.int .i64)) (hx : ev fs x = some (.map (some r))) (hi : ev fs i = some (.int .i64 k)) (hd : okD dst n = true) (hup : Upd (mpI r l) (mpI r (adel l k)) L L') (hC : C (bindD dst (.tuple #[]) fs) L') :
    LEv P (.call ⟨.builtin .delete, [x, i].toArray, ats⟩) ty dst n fs E L C :=
  lev_delete (l := encKV l) ha hu hk hx hi hd (by rw [adel_enc]; exact hup) hC
theorem sats.mpI_nodup {r : Nat} {l : List (Int × Int)} {w : World} (hs : sats E w (mpI r l :: L)) : (akeys l).Nodup := by
  obtain ⟨es, clock, _, _, _, _, h⟩ := mp_blk hs
  have : akeys (encKV l) = akeys l := by simp [akeys, encKV, Function.comp]
  rw [← this]; exact h

/-! a literal's block as a list -/
theorem lit_own {w : World} {b m : Nat} {l : List Value} {e : TypeId} (ys : List α) (hs : sats E w (cb b l e :: L)) (hl : l = flat T ys) (hm : ys.length = m) (hb : m ≤ big) (hok : ∀ M, ∀ y ∈ ys, T.ok M y) : sats E w (Own T e ⟨some ⟨b, 0, none⟩, m, ys⟩ :: L) := by
  refine hs.imp fun h hh => ⟨by show ys.length ≤ m; omega, by show m ≤ _; have := big_is; omega, by show ys.length ≤ big; omega, hok _, .inr ⟨b, l.toArray, rfl, hh, ?_, ?_⟩⟩
  · show l.toArray.size = m * T.size
    simp [hl, flat_length, hm]
  · show l.toArray.toList.take (ys.length * T.size) = flat T ys
    simp only [hl]
    rw [List.take_of_length_le (by rw [flat_length]; exact Nat.le_refl _)]
theorem ent_litO {b m : Nat} {l : List Value} {e : TypeId} {R : List HP} (ys : List α) (hat : At (cb b l e) L R) (hl : l = flat T ys) (hm : ys.length = m) (hb : m ≤ big) (hok : ∀ M, ∀ y ∈ ys, T.ok M y) : Ent E L (Own T e ⟨some ⟨b, 0, none⟩, m, ys⟩ :: R) := fun w hs => lit_own ys (hs.at hat) hl hm hb hok
theorem ent_litR {b m : Nat} {l : List Value} {e : TypeId} {R : List HP} (ys : List α) (hat : At (cb b l e) L R) (hl : l = flat T ys) (hm : ys.length = m) (hb : m ≤ big) (hok : ∀ M, ∀ y ∈ ys, T.ok M y) : Ent E L (per (Rd T ⟨some ⟨b, 0, none⟩, m, ys⟩) :: R) := fun w hs => (lit_own ys (hs.at hat) hl hm hb hok).own_rd
theorem wb_entL {LS : List HP} {Pr : List Nat} {k : Nat} {listed : Array Bool} {L' : List HP} (x : Ent E L L') (h : WB P ops Q LS Pr k listed n fs E L') : WB P ops Q LS Pr k listed n fs E L := fun a w hf hs => h a w hf (x w hs)
theorem wb_open {LS : List HP} {Pr : List Nat} {k : Nat} {listed : Array Bool} (h : ∀ w, sats E w L → ∃ L', sats E w L' ∧ WB P ops Q LS Pr k listed n fs E L') : WB P ops Q LS Pr k listed n fs E L := fun a w hf hs => let ⟨L', h1, h2⟩ := h w hs; h2 a w hf h1

/-! an element of a list of one's own is written -/
theorem flat_set (T : Ty α) : ∀ (l : List α) (i : Nat) (x : α), i < l.length → flat T (l.set i x) = (flat T l).take (i * T.size) ++ T.enc x ++ (flat T l).drop (i * T.size + T.size)
  | [], i, x, h => by simp at h
  | y :: r, 0, x, h => by
    simp only [List.set_cons_zero, flat, Nat.zero_mul, List.take_zero, List.nil_append, Nat.zero_add]
    rw [List.drop_append, T.len, List.drop_eq_nil_of_le (by rw [T.len]; exact Nat.le_refl _)]; simp
  | y :: r, i + 1, x, h => by
    have ih := flat_set T r i x (by simpa using h)
    simp only [List.set_cons_succ, flat, ih]
    have e1 : (i + 1) * T.size = (T.enc y).length + i * T.size := by rw [T.len, Nat.add_mul]; omega
    rw [e1, Nat.add_assoc, List.take_length_add_append, List.drop_length_add_append]
    simp
theorem lev_storeElem {t ty e : TypeId} {x y : Operand} {dst : Option Nat} {s : Sl α} {L' : List HP} {v : Value} {i : Nat} (p : α) (h : ev fs x = some (.pointer (some (s.a0.add (i * T.size))))) (hv : ev fs y = some v) (hcells : v.cells = (T.enc p).toArray) (ht : szB P t T.size = true)
    (hd : dst = none) (hi : i < s.xs.length) (hu : Upd (Own T e s) (Own T e ⟨s.A, s.c, s.xs.set i p⟩) L L') (hok : ∀ M, T.ok M p) (hC : C fs L') : LEv P (.store t x y) ty dst n fs E L C := fun a w o ho hty hdst hf hs K Q hK => by
  obtain ⟨R, p1, p2⟩ := hu.perms
  have hs1 : sats E w (Own T e s :: R) := hs.perm p1
  have hne : s.xs ≠ [] := by intro e; rw [e] at hi; simp at hi
  obtain ⟨hA, hsp⟩ := hs1.own_get.2.2.1 hne
  obtain ⟨en, hs', x1⟩ := hs1
  obtain ⟨hh, tt, rfl, ⟨h1, h2, h3, h4, h5⟩, sb, c, x2⟩ := satsL_cons x1
  rcases h5 with ⟨h6, h7⟩ | ⟨g, cs, h6, h7, h8, h9⟩
  · rw [h6] at hA; cases hA
  · have ha0 : s.a0 = ⟨g, 0, none⟩ := by simp [Sl.a0, h6]
    have hsz : s.xs.length * T.size ≤ cs.size := by rw [h8]; exact Nat.mul_le_mul_right _ h1
    have hib : i * T.size + T.size ≤ s.xs.length * T.size := by have := Nat.mul_le_mul_right T.size hi; rw [Nat.succ_mul] at this; exact this
    -- the block alone, what stays of the rest beside it
    have hg0 : sats E w (blk g (.cells cs e (0, 0)) :: (fun q => q = immP hh) :: R) := by
      refine ⟨en, P1 g (.cells cs e (0, 0), false) :: immP hh :: tt, P1_self _ _, ?_, ?_, rfl, ?_, ?_, x2⟩
      · intro k o' b hk; obtain ⟨rfl, hk2⟩ := P1_some hk; simp only [Prod.mk.injEq] at hk2; rw [← hk2.1]; exact sb _ _ _ h7
      · intro q hq k o' b o2 b2 hk hk2
        obtain ⟨rfl, hk3⟩ := P1_some hk
        rcases List.mem_cons.1 hq with rfl | hq
        · obtain ⟨hk4, _⟩ := immP_some hk2; rw [h7] at hk4; cases hk4
        · exact absurd (c q hq _ _ _ _ _ h7 hk2).1 (by simp)
      · intro k o' b hk; exact sb _ _ _ (immP_some hk).1
      · intro q hq k o' b o2 b2 hk hk2
        obtain ⟨hk3, rfl⟩ := immP_some hk
        exact c q hq _ _ _ _ _ hk3 hk2
    obtain ⟨w', hr, hs2⟩ := storeCells_blk (P := P) (T.enc p) 0 (i * T.size) cs w _ hg0 (by rw [T.len]; omega) (T.one p)
    have hs3 : sats E w' (Own T e ⟨s.A, s.c, s.xs.set i p⟩ :: R) := by
      obtain ⟨en', hs'', y1⟩ := hs2
      obtain ⟨b1, t1, rfl, z1, z2, z3, y2⟩ := satsL_cons y1
      obtain ⟨b2, t2, rfl, rfl, u2, u3, y3⟩ := satsL_cons y2
      have z1' : b1 g = some (_, false) := z1
      refine ⟨en', (fun k => if k = g then some (.cells (cs.toList.take (i * T.size + 0) ++ T.enc p ++ cs.toList.drop (i * T.size + 0 + (T.enc p).length)).toArray e (0, 0), false) else immP hh k) :: t2, ?_, ?_, ?_, y3⟩
      · refine ⟨by simpa using h1, h2, by simpa using h3, ?_, .inr ⟨g, _, h6, by simp; rfl, ?_, ?_⟩⟩
        · intro q hq
          have hle : MLe (imm hh) (imm (fun k => if k = g then some (.cells (cs.toList.take (i * T.size + 0) ++ T.enc p ++ cs.toList.drop (i * T.size + 0 + (T.enc p).length)).toArray e (0, 0), false) else immP hh k)) := fun k o' hk => by
            have hk' := imm_some hk
            have hne : k ≠ g := fun e => by subst e; rw [h7] at hk'; cases hk'
            have : immP hh k = some (o', true) := by unfold immP; rw [hk']
            simp only [imm, if_neg hne, this]
          rcases List.mem_or_eq_of_mem_set hq with hq | hq
          · exact T.mono _ _ q hle (h4 q hq)
          · rw [hq]; exact hok _
        · have hcs : cs.size = s.c * T.size := h8
          show (List.toArray _).size = s.c * T.size
          simp only [List.size_toArray, List.length_append, List.length_take, List.length_drop, T.len, Nat.add_zero, Array.length_toList]
          rw [Nat.min_eq_left (by omega)]; omega
        · rw [flat_set T s.xs i p hi, ← h9]
          simp only [List.length_set, T.len, Nat.add_zero]
          have hl : (cs.toList).length = cs.size := by simp
          have e0 : s.xs.length * T.size = (List.take (i * T.size) cs.toList ++ T.enc p).length + (s.xs.length * T.size - (i * T.size + T.size)) := by
            simp only [List.length_append, List.length_take, T.len, hl]; rw [Nat.min_eq_left (by omega)]; omega
          conv => lhs; rw [e0, ← List.append_assoc, List.take_length_add_append]
          congr 1
          · congr 1
            rw [List.take_take, Nat.min_eq_left (by omega)]
          · rw [List.drop_take]
      · intro k o' b hk
        by_cases hkg : k = g
        · subst hkg; simp only [if_true, Option.some.injEq, Prod.mk.injEq] at hk; rw [← hk.1]; exact z2 _ _ _ z1'
        · simp only [if_neg hkg] at hk; exact u2 _ _ _ hk
      · intro q hq k o' b o2 b2' hk hk2
        by_cases hkg : k = g
        · subst hkg; exact absurd (z3 q (List.mem_cons_of_mem _ hq) _ _ _ _ _ z1' hk2).1 (by simp)
        · simp only [if_neg hkg] at hk; exact u3 q hq _ _ _ _ _ hk hk2
    unfold Oper.wp
    have he : (execOp a.eval o).run P w = .ok .skip w' := by
      unfold execOp; rw [ho]
      show ((Instr.storeAt t (a.eval x) (a.eval y)) >>= fun _ => pure Next.skip).run P w = _
      rw [hf.ev h, hf.ev hv]
      have : (Instr.storeAt t (.pointer (some (s.a0.add (i * T.size)))) v).run P w = .ok () w' := by
        unfold Instr.storeAt Instr.sureAddr
        show (storeVar t (s.a0.add (i * T.size)) v).run P w = _
        rw [ha0, add_at, Nat.zero_add]
        unfold storeVar
        rw [run_bind (szB_run ht w), hcells]
        simp only [List.size_toArray, T.len, ne_eq, not_true, if_false]
        exact hr
      rw [run_bind this]; rfl
    rw [he]
    show K (a.put o.dst undef) w'
    rw [hdst, hd]
    exact hK _ _ hC _ _ hf (hs3.perm p2.symm)
end mapI
end Go.Proofs.Ytlkmcdijioiddaa
