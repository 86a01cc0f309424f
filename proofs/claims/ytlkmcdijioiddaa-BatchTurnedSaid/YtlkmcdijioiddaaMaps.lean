/- Maps with int keys of one's own, in the words of the walk. Not a proof of any statement by itself. -/
import Derived.Test.YtlkmcdijioiddaaMem
namespace Go.Proofs.Ytlkmcdijioiddaa
open Go.RowKit
set_option linter.unusedVariables false
set_option linter.unusedSimpArgs false

def aget {β : Type} (l : List (Int × β)) (k : Int) : Option β := match l with
  | [] => none
  | (j, v) :: r => if k = j then some v else aget r k
def aset {β : Type} (l : List (Int × β)) (k : Int) (v : β) : List (Int × β) := match l with
  | [] => [(k, v)]
  | (j, u) :: r => if k = j then (j, v) :: r else (j, u) :: aset r k v
def adel {β : Type} (l : List (Int × β)) (k : Int) : List (Int × β) := match l with
  | [] => []
  | (j, u) :: r => if k = j then r else (j, u) :: adel r k
def akeys {β : Type} (l : List (Int × β)) : List Int := l.map (·.1)

/-- the map in block r holds these keys and values, in the order in which they came -/
def mp (r : Nat) (l : List (Int × Value)) : HP := fun h => ∃ es clock, h r = some (.map es clock, false) ∧ es.toList.map (fun e => (e.key, e.val)) = l.map (fun p => (Value.int .i64 p.1, p.2)) ∧ (es.toList.map (·.born)).Pairwise (· < ·) ∧ (∀ e ∈ es.toList, e.born < clock) ∧ (akeys l).Nodup
/-- no map, or one that holds these -/
def mpO (r : Option Nat) (l : List (Int × Value)) : HP := match r with
  | none => pure' (l = [])
  | some r => mp r l

theorem mp_blk {r : Nat} {l : List (Int × Value)} {E : Env} {w : World} {R : List HP} (hs : sats E w (mp r l :: R)) : ∃ es clock, sats E w (blk r (.map es clock) :: R) ∧ es.toList.map (fun e => (e.key, e.val)) = l.map (fun p => (Value.int .i64 p.1, p.2)) ∧ (es.toList.map (·.born)).Pairwise (· < ·) ∧ (∀ e ∈ es.toList, e.born < clock) ∧ (akeys l).Nodup := by
  obtain ⟨en, hs', x⟩ := hs
  obtain ⟨h, t, rfl, ⟨es, clock, a1, a2⟩, sb, c, x⟩ := satsL_cons x
  exact ⟨es, clock, ⟨en, h :: t, a1, sb, c, x⟩, a2⟩
theorem blk_mp {r : Nat} {l : List (Int × Value)} {E : Env} {w : World} {R : List HP} {es : Array MapEntry} {clock : Nat} (hs : sats E w (blk r (.map es clock) :: R)) (h : es.toList.map (fun e => (e.key, e.val)) = l.map (fun p => (Value.int .i64 p.1, p.2)) ∧ (es.toList.map (·.born)).Pairwise (· < ·) ∧ (∀ e ∈ es.toList, e.born < clock) ∧ (akeys l).Nodup) : sats E w (mp r l :: R) :=
  hs.imp fun g hg => ⟨es, clock, hg, h⟩

theorem findNow_int (k : Int) : ∀ (es : List MapEntry) (l : List (Int × Value)) (i : Nat), es.map (fun e => (e.key, e.val)) = l.map (fun p => (Value.int .i64 p.1, p.2)) →
    Instr.findNow (.int .i64) (.int .i64 k) es i = some (((l.findIdx? (fun p => decide (k = p.1))).map fun j => (i + j, ((l[j]?).map (·.2)).getD undef)))
  | [], [], i, _ => rfl
  | [], _ :: _, i, h => by cases h
  | _ :: _, [], i, h => by cases h
  | e :: es, (j, v) :: l, i, h => by
    simp only [List.map_cons, List.cons.injEq, Prod.mk.injEq] at h
    obtain ⟨⟨h1, h2⟩, h3⟩ := h
    unfold Instr.findNow
    rw [h1]
    simp only [Instr.sameNow, if_true]
    by_cases hk : k = j
    · subst hk
      simp [List.findIdx?_cons, h2]
    · have hb : (k == j) = false := by simpa using hk
      simp only [hb]
      rw [findNow_int k es l (i + 1) h3]
      simp only [List.findIdx?_cons, decide_eq_true_eq, if_neg hk, Option.map_map]
      congr 1
      cases List.findIdx? (fun p => decide (k = p.fst)) l with
      | none => rfl
      | some j => simp [Function.comp]; omega
theorem findIdx_aget (k : Int) : ∀ (l : List (Int × Value)), (l.findIdx? (fun p => decide (k = p.1))).map (fun j => ((l[j]?).map (·.2)).getD undef) = aget l k
  | [] => rfl
  | (j, v) :: l => by
    unfold aget
    by_cases hk : k = j
    · simp [List.findIdx?_cons, hk]
    · simp only [List.findIdx?_cons, decide_eq_true_eq, if_neg hk, Option.map_map]
      rw [← findIdx_aget k l]
      cases List.findIdx? (fun p => decide (k = p.fst)) l with
      | none => rfl
      | some j => simp [Function.comp]
theorem aset_idx (k : Int) (v : Value) : ∀ (l : List (Int × Value)), aset l k v = match l.findIdx? (fun p => decide (k = p.1)) with
    | some j => l.modify j (fun p => (p.1, v))
    | none => l ++ [(k, v)]
  | [] => rfl
  | (j, u) :: l => by
    unfold aset
    by_cases hk : k = j
    · simp [List.findIdx?_cons, hk]
    · simp only [List.findIdx?_cons, decide_eq_true_eq, if_neg hk]
      rw [aset_idx k v l]
      cases List.findIdx? (fun p => decide (k = p.fst)) l with
      | none => rfl
      | some j => simp
theorem adel_idx (k : Int) : ∀ (l : List (Int × Value)), adel l k = match l.findIdx? (fun p => decide (k = p.1)) with
    | some j => l.eraseIdx j
    | none => l
  | [] => rfl
  | (j, u) :: l => by
    unfold adel
    by_cases hk : k = j
    · simp [List.findIdx?_cons, hk]
    · simp only [List.findIdx?_cons, decide_eq_true_eq, if_neg hk]
      rw [adel_idx k l]
      cases List.findIdx? (fun p => decide (k = p.fst)) l with
      | none => rfl
      | some j => simp
theorem findIdx_key {k : Int} {l : List (Int × Value)} {j : Nat} (h : l.findIdx? (fun p => decide (k = p.1)) = some j) : ∃ v, l[j]? = some (k, v) := by
  have h1 := List.findIdx?_eq_some_iff_getElem.1 h
  obtain ⟨hlt, hp, _⟩ := h1
  refine ⟨(l[j]).2, ?_⟩
  rw [List.getElem?_eq_getElem hlt]
  have : k = (l[j]).1 := by simpa using hp
  rw [this]
theorem akeys_aset {β : Type} (k : Int) (v : β) : ∀ (l : List (Int × β)), akeys (aset l k v) = if k ∈ akeys l then akeys l else akeys l ++ [k]
  | [] => by simp [aset, akeys]
  | (j, u) :: l => by
    have ih := akeys_aset k v l
    unfold aset
    by_cases hk : k = j
    · simp [hk, akeys]
    · simp only [if_neg hk]
      simp only [akeys, List.map_cons, List.mem_cons, hk, false_or] at ih ⊢
      rw [ih]
      by_cases hm : k ∈ List.map (fun x => x.fst) l <;> simp [hm]
theorem akeys_adel_sub {β : Type} (k : Int) : ∀ (l : List (Int × β)), (akeys (adel l k)).Sublist (akeys l)
  | [] => .slnil
  | (j, u) :: l => by
    unfold adel
    by_cases hk : k = j
    · simp only [hk, if_true, akeys, List.map_cons]; exact List.sublist_cons_self ..
    · simp only [if_neg hk, akeys, List.map_cons]; exact (akeys_adel_sub k l).cons_cons _
theorem nodup_aset {β : Type} {l : List (Int × β)} (h : (akeys l).Nodup) (k : Int) (v : β) : (akeys (aset l k v)).Nodup := by
  rw [akeys_aset]
  split
  · exact h
  · rename_i hk
    exact List.nodup_append.2 ⟨h, by simp, fun a ha b hb e => by simp at hb; subst hb; subst e; exact hk ha⟩
theorem nodup_adel {β : Type} {l : List (Int × β)} (h : (akeys l).Nodup) (k : Int) : (akeys (adel l k)).Nodup := h.sublist (akeys_adel_sub k l)

theorem map_eraseIdx' {α β : Type} (f : α → β) : ∀ (l : List α) (j : Nat), (l.eraseIdx j).map f = (l.map f).eraseIdx j
  | [], _ => rfl
  | _ :: _, 0 => rfl
  | a :: l, j + 1 => by simp [map_eraseIdx' f l j]
section maps
variable {P : Program} {n : Nat} {fs : Fs} {E : Env} {L : List HP} {C : Fs → List HP → Prop}

theorem checkKey_int {b : Bool} {t : TypeId} {k : Int} {w : World} (hu : P.underlying t = some (.int .i64)) : (Instr.checkKey b 10000 t (.int .i64 k)).run P w = .ok () w := by
  show (Instr.checkKey b (9999 + 1) t (.int .i64 k)).run P w = _
  unfold Instr.checkKey
  rw [run_bind (run_underlying hu w)]; rfl
theorem getObj_run {r : Nat} {o : Obj} {w : World} (h : w.heap[r]? = some o) (hc : ∀ c e f, o ≠ .cells c e f) : (getObj r).run P w = .ok o w := by
  unfold getObj Sem.run
  rw [h]
  cases o <;> first | rfl | (exact absurd rfl (hc _ _ _))
theorem findKey_run {t : TypeId} {k : Int} {w : World} {es : List MapEntry} {l : List (Int × Value)} (hu : P.underlying t = some (.int .i64)) (h : es.map (fun e => (e.key, e.val)) = l.map (fun p => (Value.int .i64 p.1, p.2))) :
    (Instr.findKey t (.int .i64 k) es).run P w = .ok ((l.findIdx? (fun p => decide (k = p.1))).map fun j => (j, ((l[j]?).map (·.2)).getD undef)) w := by
  unfold Instr.findKey
  rw [run_bind (run_underlying hu w), findNow_int k es l 0 h]
  simp only [Nat.zero_add]; rfl
def zeroIs (P : Program) (t : TypeId) (z : Value) : Prop := (P.info? t).bind (·.zero) = some z
theorem zero_run {t : TypeId} {z : Value} (hz : zeroIs P t z) (w : World) : (zeroValue t).run P w = .ok z w := by
  unfold zeroIs at hz
  cases hi : P.info? t with
  | none => rw [hi] at hz; cases hz
  | some i =>
    rw [hi] at hz
    have hz2 : i.zero = some z := hz
    unfold zeroValue
    have : (typeInfo t).run P w = .ok i w := by simp [typeInfo, hi, go_sem]
    rw [run_bind this]; simp only [hz2]; rfl
theorem lookup_run {t kt et : TypeId} {r : Nat} {l : List (Int × Value)} {k : Int} {z : Value} {ok : Bool} {w : World} {R : List HP} (hu : P.underlying t = some (.map kt et)) (hk : P.underlying kt = some (.int .i64)) (hz : zeroIs P et z) (hs : sats E w (mp r l :: R)) :
    (Instr.lookup t (.map (some r)) (.int .i64 k) ok).run P w = .ok (if ok then .tuple #[(aget l k).getD z, .bool (aget l k).isSome] else (aget l k).getD z) w := by
  obtain ⟨es, clock, hb, h1, h2⟩ := mp_blk hs
  have hg := getObj_run (P := P) hb.blk_get (fun _ _ _ h => by cases h)
  unfold Instr.lookup
  rw [run_bind (run_underlying hu w)]
  simp only []
  rw [run_bind hg]
  simp only [pure_bind]
  rw [run_bind (checkKey_int hk), run_bind (findKey_run hk h1), ← findIdx_aget]
  cases l.findIdx? (fun p => decide (k = p.1)) with
  | none =>
    simp only [Option.map_none]
    rw [run_bind (zero_run hz w)]
    cases ok <;> rfl
  | some j => simp only [Option.map_some]; cases ok <;> rfl
theorem q_lookup {t kt et : TypeId} {x i : Operand} {r : Nat} {l : List (Int × Value)} {R : List HP} {k : Int} (z : Value) (hu : P.underlying t = some (.map kt et)) (hk : P.underlying kt = some (.int .i64)) (hz : zeroIs P et z) (hx : ev fs x = some (.map (some r))) (hi : ev fs i = some (.int .i64 k)) (hat : At (mp r l) L R) :
    QEv P (.lookup t x i false) n fs E L ((aget l k).getD z) := fun a w o ho hf hs => by
  unfold execOp; rw [ho]
  show ((Instr.lookup t (a.eval x) (a.eval i) false) >>= fun y => pure (Next.value y)).run P w = _
  rw [hf.ev hx, hf.ev hi, run_bind (lookup_run hu hk hz (hs.at hat))]; rfl
theorem q_lookupOk {t kt et : TypeId} {x i : Operand} {r : Nat} {l : List (Int × Value)} {R : List HP} {k : Int} (z : Value) (hu : P.underlying t = some (.map kt et)) (hk : P.underlying kt = some (.int .i64)) (hz : zeroIs P et z) (hx : ev fs x = some (.map (some r))) (hi : ev fs i = some (.int .i64 k)) (hat : At (mp r l) L R) :
    QEv P (.lookup t x i true) n fs E L (.tuple [(aget l k).getD z, .bool (aget l k).isSome].toArray) := fun a w o ho hf hs => by
  unfold execOp; rw [ho]
  show ((Instr.lookup t (a.eval x) (a.eval i) true) >>= fun y => pure (Next.value y)).run P w = _
  rw [hf.ev hx, hf.ev hi, run_bind (lookup_run hu hk hz (hs.at hat))]; rfl
theorem q_lenM {x : Operand} {t kt et : TypeId} {r : Nat} {l : List (Int × Value)} {R : List HP} (hu : P.underlying t = some (.map kt et)) (hx : ev fs x = some (.map (some r))) (hat : At (mp r l) L R) : QEv P (.call ⟨.builtin .len, [x].toArray, [t].toArray⟩) n fs E L (.int .i64 (l.length : Int)) := fun a w o ho hf hs => by
  rw [execOp_builtin a.eval ho]
  show ((Builtin.len_ [t].toArray o.type [a.eval x].toArray) >>= fun y => pure (Next.value y)).run P w = _
  rw [hf.ev hx]
  obtain ⟨es, clock, hb, h1, h2⟩ := mp_blk (hs.at hat)
  have hg := getObj_run (P := P) hb.blk_get (fun _ _ _ h => by cases h)
  have hl : es.size = l.length := by have := congrArg List.length h1; simpa using this
  have : (Builtin.len_ [t].toArray o.type [Value.map (some r)].toArray).run P w = .ok (.int .i64 (l.length : Int)) w := by
    unfold Builtin.len_
    simp only [List.getElem?_toArray, List.getElem?_cons_zero]
    rw [run_bind (run_underlying hu w)]
    simp only []
    rw [run_bind hg]
    simp only [hl]; rfl
  rw [run_bind this]; rfl

theorem lev_of_run {op : Op} {ty : TypeId} {dst : Option Nat} (f : (Operand → Value) → Sem Next) (hop : ∀ (ρ : Operand → Value) (o : Oper), o.op = op → execOp ρ o = f ρ)
    (hd : okD dst n = true)
    (h : ∀ a w, Frs n a fs → sats E w L → ∃ v w' L', ((f a.eval).run P w = .ok (.value v) w' ∨ (v = undef ∧ (f a.eval).run P w = .ok .skip w')) ∧ sats E w' L' ∧ C (bindD dst v fs) L') : LEv P op ty dst n fs E L C := fun a w o ho hty hdst hf hs K Q hK => by
  obtain ⟨v, w', L', h1, h2, h3⟩ := h a w hf hs
  unfold Oper.wp
  rw [hop _ _ ho]
  rcases h1 with h1 | ⟨rfl, h1⟩
  · rw [h1]
    show K (a.put o.dst v) w'
    rw [hdst]; exact hK _ _ h3 _ _ (hf.putD hd v) h2
  · rw [h1]
    show K (a.put o.dst undef) w'
    rw [hdst]; exact hK _ _ h3 _ _ (hf.putD hd undef) h2
theorem setObj_run {r : Nat} {o o' : Obj} {w : World} (h : w.heap[r]? = some o) (hc : ∀ c e f, o ≠ .cells c e f) : (setObj r o').run P w = .ok () { w with heap := w.heap.setIfInBounds r o' } := by
  unfold setObj Sem.run
  rw [h]
  cases o <;> first | rfl | (exact absurd rfl (hc _ _ _))
theorem sats.setObj {r : Nat} {o o' : Obj} {w : World} {R : List HP} (hs : sats E w (blk r o :: R)) : sats E { w with heap := w.heap.setIfInBounds r o' } (blk r o' :: R) := by
  have hb := hs.blk_get
  have hlt : r < w.heap.size := (Array.getElem?_eq_some_iff.1 hb).1
  refine hs.upd rfl rfl rfl ?_ fun k hk y hy => ?_
  · simp [hlt]
  · show (w.heap.setIfInBounds r o')[k]? = _
    rw [Array.getElem?_setIfInBounds_ne (fun e => hk e.symm)]; exact hy
theorem upd_run {t kt et : TypeId} {r : Nat} {l : List (Int × Value)} {k : Int} {v : Value} {w : World} {R : List HP} (hu : P.underlying t = some (.map kt et)) (hk : P.underlying kt = some (.int .i64)) (hs : sats E w (mp r l :: R)) :
    ∃ w', (Instr.mapUpdate t (.map (some r)) (.int .i64 k) v).run P w = .ok () w' ∧ sats E w' (mp r (aset l k v) :: R) := by
  obtain ⟨es, clock, hb, h1, h2, h3, h4⟩ := mp_blk hs
  have hbg := hb.blk_get
  have hg := getObj_run (P := P) hbg (fun _ _ _ h => by cases h)
  have hlen : es.size = l.length := by have := congrArg List.length h1; simpa using this
  unfold Instr.mapUpdate
  rw [run_bind (run_underlying hu w)]
  simp only []
  rw [run_bind hg]
  simp only []
  rw [run_bind (checkKey_int hk), run_bind (findKey_run hk h1), aset_idx]
  have hnd := nodup_aset h4 k v
  rw [aset_idx] at hnd
  cases hi : l.findIdx? (fun p => decide (k = p.1)) with
  | none =>
    rw [hi] at hnd
    simp only [Option.map_none]
    refine ⟨_, setObj_run hbg (fun _ _ _ h => by cases h), blk_mp hb.setObj ⟨?_, ?_, ?_, hnd⟩⟩
    · simp [h1]
    · simp only [Array.toList_push, List.map_append, List.map_cons, List.map_nil]
      exact List.pairwise_append.2 ⟨h2, by simp, fun a ha b hb => by
        simp at hb; subst hb
        obtain ⟨e, he, rfl⟩ := List.mem_map.1 ha
        exact h3 e he⟩
    · intro e he
      simp only [Array.toList_push, List.mem_append, List.mem_singleton] at he
      rcases he with he | rfl
      · exact Nat.lt_succ_of_lt (h3 e he)
      · exact Nat.lt_succ_self _
  | some j =>
    rw [hi] at hnd
    simp only [Option.map_some]
    obtain ⟨u, hj⟩ := findIdx_key hi
    have hjlt : j < es.size := by rw [hlen]; exact (List.getElem?_eq_some_iff.1 hj).1
    have hkey : ((es[j]?).map (·.key)).getD (.int .i64 k) = .int .i64 k := by
      have h5 : (es.toList.map (fun e => (e.key, e.val)))[j]? = some (Value.int .i64 k, u) := by rw [h1]; simp [hj]
      simp only [List.getElem?_map, Array.getElem?_toList] at h5
      cases h6 : es[j]? with
      | none => rfl
      | some e => rw [h6] at h5; simp at h5; simp [h5.1]
    have hks : (Instr.keyThatStays (((es[j]?).map (·.key)).getD (.int .i64 k)) (.int .i64 k)).run P w = .ok (.int .i64 k) w := by
      rw [hkey]
      unfold Instr.keyThatStays
      have : Instr.sameBits 10000 (.int .i64 k) (.int .i64 k) = true := by simp [Instr.sameBits]
      rw [if_pos this]; rfl
    rw [run_bind hks]
    refine ⟨_, setObj_run hbg (fun _ _ _ h => by cases h), blk_mp hb.setObj ⟨?_, ?_, ?_, hnd⟩⟩
    · apply List.ext_getElem?
      intro i
      have h5 : (es.toList.map (fun e => (e.key, e.val)))[i]? = (l.map (fun p => (Value.int .i64 p.1, p.2)))[i]? := by rw [h1]
      simp only [List.getElem?_map, Array.getElem?_toList, Array.getElem?_modify, List.getElem?_modify] at h5 ⊢
      by_cases hji : j = i
      · subst hji
        rw [hj] at h5 ⊢
        cases h6 : es[j]? with
        | none => rw [h6] at h5; cases h5
        | some e => simp
      · simp [hji, h5]
    · have : (es.modify j fun e => { e with key := Value.int .i64 k, val := v }).toList.map (·.born) = es.toList.map (·.born) := by
        apply List.ext_getElem?
        intro i
        simp only [List.getElem?_map, Array.getElem?_toList, Array.getElem?_modify]
        by_cases hji : j = i
        · subst hji; cases es[j]? <;> simp
        · simp [hji]
      rw [this]; exact h2
    · intro e he
      have hb' : e.born ∈ (es.modify j fun e => { e with key := Value.int .i64 k, val := v }).toList.map (·.born) := List.mem_map.2 ⟨e, he, rfl⟩
      have : (es.modify j fun e => { e with key := Value.int .i64 k, val := v }).toList.map (·.born) = es.toList.map (·.born) := by
        apply List.ext_getElem?
        intro i
        simp only [List.getElem?_map, Array.getElem?_toList, Array.getElem?_modify]
        by_cases hji : j = i
        · subst hji; cases es[j]? <;> simp
        · simp [hji]
      rw [this] at hb'
      obtain ⟨e', he', h6⟩ := List.mem_map.1 hb'
      rw [← h6]; exact h3 e' he'
theorem Upd.put {A A' : HP} {L' : List HP} (hu : Upd A A' L L') {w w' : World} (hs : sats E w L) (h : ∀ R, sats E w (A :: R) → sats E w' (A' :: R)) : sats E w' L' := by
  obtain ⟨R, p1, p2⟩ := hu.perms
  exact (h R (hs.perm p1)).perm p2.symm
theorem lev_mapUpdate {t kt et ty : TypeId} {x i y : Operand} {dst : Option Nat} {r : Nat} {l : List (Int × Value)} {L' : List HP} {k : Int} {v : Value} (hu : P.underlying t = some (.map kt et)) (hk : P.underlying kt = some (.int .i64)) (hx : ev fs x = some (.map (some r))) (hi : ev fs i = some (.int .i64 k)) (hy : ev fs y = some v) (hd : dst = none) (hup : Upd (mp r l) (mp r (aset l k v)) L L') (hC : C fs L') :
    LEv P (.mapUpdate t x i y) ty dst n fs E L C :=
  lev_of_run (fun ρ => (do Instr.mapUpdate t (ρ x) (ρ i) (ρ y); pure .skip)) (fun ρ o ho => by unfold execOp; rw [ho]) (by rw [hd]; rfl) fun a w hf hs => by
    obtain ⟨R, p1, p2⟩ := hup.perms
    obtain ⟨w', h1, h2⟩ := upd_run (k := k) (v := v) hu hk (hs.perm p1)
    refine ⟨undef, w', L', .inr ⟨rfl, ?_⟩, h2.perm p2.symm, by rw [hd]; exact hC⟩
    rw [hf.ev hx, hf.ev hi, hf.ev hy, run_bind h1]; rfl
theorem lev_makeMap {t ty : TypeId} {d : Nat} (hd : Nat.blt d n = true) (h : ∀ r, C ((d, .map (some r)) :: fs) (mp r [] :: L)) : LEv P (.makeMap t none) ty (some d) n fs E L C :=
  lev_of_run (fun ρ => (do pure (.value (← Instr.makeMap t none)))) (fun ρ o ho => by unfold execOp; rw [ho]; rfl) hd fun a w hf hs =>
    ⟨.map (some w.heap.size), w.alloc (.map #[] 0), _, .inl rfl, blk_mp (hs.alloc _) ⟨rfl, by simp, by simp, by simp [akeys]⟩, h _⟩
theorem lev_delete {x i : Operand} {t kt et ty : TypeId} {ats : Array TypeId} {dst : Option Nat} {r : Nat} {l : List (Int × Value)} {L' : List HP} {k : Int} (ha : ats[0]? = some t) (hu : P.underlying t = some (.map kt et)) (hk : P.underlying kt = some (.int .i64)) (hx : ev fs x = some (.map (some r))) (hi : ev fs i = some (.int .i64 k)) (hd : okD dst n = true) (hup : Upd (mp r l) (mp r (adel l k)) L L') (hC : C (bindD dst (.tuple #[]) fs) L') :
    LEv P (.call ⟨.builtin .delete, [x, i].toArray, ats⟩) ty dst n fs E L C := fun a w o ho hty hdst hf hs K Q hK => by
  obtain ⟨R, p1, p2⟩ := hup.perms
  obtain ⟨es, clock, hb, h1, h2, h3, h4⟩ := mp_blk (hs.perm p1)
  have hbg := hb.blk_get
  have hg := getObj_run (P := P) hbg (fun _ _ _ h => by cases h)
  have key : ∃ w', (Builtin.delete_ ats o.type #[.map (some r), .int .i64 k]).run P w = .ok (.tuple #[]) w' ∧ sats E w' (mp r (adel l k) :: R) := by
    unfold Builtin.delete_
    rw [ha]
    simp only [List.getElem?_toArray, List.getElem?_cons_zero, List.getElem?_cons_succ]
    rw [run_bind (run_underlying hu w)]
    simp only []
    have hnd := nodup_adel h4 k
    rw [adel_idx] at hnd ⊢
    cases hf' : l.findIdx? (fun p => decide (k = p.1)) with
    | none =>
      rw [hf'] at hnd
      refine ⟨{ w with heap := w.heap.setIfInBounds r (.map es clock) }, ?_, blk_mp hb.setObj ⟨h1, h2, h3, hnd⟩⟩
      rw [run_bind hg]
      simp only []
      rw [run_bind (checkKey_int hk), run_bind (findKey_run hk h1), hf']
      simp only [Option.map_none]
      rw [run_bind (setObj_run hbg (fun _ _ _ h => by cases h))]; rfl
    | some j =>
      rw [hf'] at hnd
      refine ⟨{ w with heap := w.heap.setIfInBounds r (.map (es.eraseIdxIfInBounds j) clock) }, ?_, blk_mp hb.setObj ⟨?_, ?_, ?_, hnd⟩⟩
      · rw [run_bind hg]
        simp only []
        rw [run_bind (checkKey_int hk), run_bind (findKey_run hk h1), hf']
        simp only [Option.map_some]
        rw [run_bind (setObj_run hbg (fun _ _ _ h => by cases h))]; rfl
      · simp only [Array.toList_eraseIdxIfInBounds, map_eraseIdx', h1]
      · simp only [Array.toList_eraseIdxIfInBounds, map_eraseIdx']
        exact h2.sublist (List.eraseIdx_sublist ..)
      · intro e he
        simp only [Array.toList_eraseIdxIfInBounds] at he
        exact h3 e ((List.eraseIdx_sublist ..).subset he)
  obtain ⟨w', k1, k2⟩ := key
  unfold Oper.wp
  have he : (execOp a.eval o).run P w = .ok (.value (.tuple #[])) w' := by
    rw [execOp_builtin a.eval ho]
    show ((Builtin.delete_ ats o.type [a.eval x, a.eval i].toArray) >>= fun y => pure (Next.value y)).run P w = _
    rw [hf.ev hx, hf.ev hi, run_bind k1]; rfl
  rw [he]
  show K (a.put o.dst (.tuple #[])) w'
  rw [hdst]
  exact hK _ _ hC _ _ (hf.putD hd _) (k2.perm p2.symm)
end maps
end Go.Proofs.Ytlkmcdijioiddaa
