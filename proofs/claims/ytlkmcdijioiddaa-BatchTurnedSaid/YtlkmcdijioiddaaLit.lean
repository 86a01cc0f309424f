/- Literals of slices and structs; append; cuts. Not a proof of any statement by itself. -/
import Derived.Test.YtlkmcdijioiddaaApp
namespace Go.Proofs.Ytlkmcdijioiddaa
open Go.RowKit
set_option linter.unusedVariables false
set_option linter.unusedSimpArgs false

/-- some cells are laid over others -/
def over (l : List Value) (off : Nat) (us : List Value) : List Value := l.take off ++ us ++ l.drop (off + us.length)
theorem over_length {l us : List Value} {off : Nat} (h : off + us.length ≤ l.length) : (over l off us).length = l.length := by simp [over]; omega
theorem foldset (off : Nat) : ∀ (us : List Value) (m : Nat) (l : List Value), off + m + us.length ≤ l.length →
    (us.zipIdx m).foldl (fun (cs : Array Value) (p : Value × Nat) => cs.setIfInBounds (off + p.2) p.1) l.toArray = (over l (off + m) us).toArray
  | [], m, l, h => by simp [over]
  | u :: us, m, l, h => by
    simp only [List.length_cons] at h
    simp only [List.zipIdx_cons, List.foldl_cons, List.setIfInBounds_toArray]
    rw [foldset off us (m + 1) (l.set (off + m) u) (by simp; omega)]
    congr 1
    unfold over
    have hlt : off + m < l.length := by omega
    rw [show off + (m + 1) = (off + m) + 1 by omega]
    rw [List.take_set, List.drop_set_of_lt (by omega), List.take_succ_eq_append_getElem hlt, List.set_append_right _ _ (by simp; omega)]
    have : off + m - (List.take (off + m) l).length = 0 := by simp; omega
    rw [this]
    simp only [List.set_cons_zero, List.append_assoc, List.cons_append, List.nil_append, List.length_cons]
    rw [show off + m + 1 + us.length = off + m + (us.length + 1) by omega]
theorem fill_step {place : Nat → Option (Nat × Nat)} {l us : List Value} {v : Value} {i off size : Nat} {rest : List (Nat × Value)} (hp : place i = some (off, size)) (hv : v.cells = us.toArray) (hs : us.length = size) (hl : off + size ≤ l.length) :
    Instr.fill place l.toArray ((i, v) :: rest) = Instr.fill place (over l off us).toArray rest := by
  have h1 : ¬ ((decide ((us.toArray).size ≠ size) || decide (off + (us.toArray).size > (l.toArray).size)) = true) := by
    simp only [List.size_toArray, hs, Bool.or_eq_true, decide_eq_true_eq, not_or]
    exact ⟨by simp, by omega⟩
  have h2 := foldset off us 0 l (by omega)
  simp only [Nat.add_zero] at h2
  conv => lhs; unfold Instr.fill
  simp only [hp, hv]
  rw [if_neg h1, ← h2, ← Array.foldl_toList]
  simp
/-- a list's parts, one after the other -/
inductive Parts (size : Nat) : Nat → List Value → List Value → Prop
  | nil {k : Nat} : Parts size k [] []
  | cons {k : Nat} {v : Value} {us : List Value} {vs ws : List Value} (hv : v.cells = us.toArray) (hs : us.length = size) (r : Parts size (k + 1) vs ws) : Parts size k (v :: vs) (us ++ ws)
def enumV (k : Nat) : List Value → List (Nat × Value)
  | [] => []
  | v :: r => (k, v) :: enumV (k + 1) r
def enumO (k : Nat) : List Operand → List (Nat × Operand)
  | [] => []
  | x :: r => (k, x) :: enumO (k + 1) r
theorem enumO_map (ρ : Operand → Value) : ∀ (xs : List Operand) (k : Nat), (enumO k xs).map (fun p => (p.1, ρ p.2)) = enumV k (xs.map ρ)
  | [], _ => rfl
  | x :: r, k => by simp [enumO, enumV, enumO_map ρ r (k + 1)]
theorem fill_parts {size : Nat} : ∀ {vs ws : List Value} {k : Nat}, Parts size k vs ws → ∀ (done rest : List Value), done.length = k * size → rest.length = vs.length * size →
    Instr.fill (fun i => some (i * size, size)) (done ++ rest).toArray (enumV k vs) = some (done ++ ws).toArray := by
  intro vs ws k h
  induction h with
  | nil => intro done rest h1 h2; simp at h2; subst h2; rfl
  | cons hv hs r ih =>
    rename_i k v us vs ws
    intro done rest h1 h2
    simp only [List.length_cons, Nat.add_mul, Nat.one_mul] at h2
    unfold enumV
    rw [fill_step rfl hv hs (by simp; omega)]
    have e1 : over (done ++ rest) (k * size) us = (done ++ us) ++ rest.drop size := by
      unfold over
      rw [← h1, List.take_left, List.append_assoc, hs]
      rw [List.append_assoc]
      congr 2
      rw [List.drop_append]
      rw [List.drop_eq_nil_of_le (by omega)]
      simp
    rw [e1, ih (done ++ us) (rest.drop size) (by simp [h1, hs, Nat.add_mul]) (by simp; omega)]
    simp
theorem parts_length {size : Nat} {vs ws : List Value} {k : Nat} (h : Parts size k vs ws) : ws.length = vs.length * size := by
  induction h with
  | nil => simp
  | cons hv hs r ih => simp [ih, hs, Nat.add_mul]; omega

/-- something that stays, out of what is there -/
inductive PerOf (L : List HP) : (MH → Prop) → Prop
  | pure {q : MH → Prop} (h : ∀ M, q M) : PerOf L q
  | here {q q' : MH → Prop} {R : List HP} (h : At (per q') L R) (i : ∀ M, q' M → q M) : PerOf L q
  | and {q q1 q2 : MH → Prop} (a : PerOf L q1) (b : PerOf L q2) (m1 : ∀ M M', MLe M M' → q1 M → q1 M') (m2 : ∀ M M', MLe M M' → q2 M → q2 M') (i : ∀ M, q1 M → q2 M → q M) : PerOf L q
theorem sats.per_put {E : Env} {w : World} {L : List HP} {q : MH → Prop} (hs : sats E w L) (h : ∀ M, q M) : sats E w (per q :: L) := (hs.pure_put (p := True) trivial).imp fun g _ => h _
theorem PerOf.put {E : Env} {w : World} {L : List HP} {q : MH → Prop} (p : PerOf L q) : ∀ {G : List HP}, sats E w (L ++ G) → sats E w (per q :: (L ++ G)) := by
  induction p with
  | pure h => intro G hs; exact hs.per_put h
  | here h i =>
    rename_i q q' R
    intro G hs
    have h1 : sats E w (per q' :: (R ++ G)) := hs.perm (h.perm.append_right G)
    have h2 : sats E w (per q' :: (L ++ G)) := h1.dup.perm (((h.perm.append_right G).symm).cons _)
    exact h2.per_imp i
  | and a b m1 m2 i ih1 ih2 =>
    rename_i q q1 q2
    intro G hs
    have h1 := ih1 hs
    have h2 : sats E w (L ++ (per q1 :: G)) := h1.perm List.perm_middle.symm
    have h3 := ih2 h2
    have h4 : sats E w (per q2 :: per q1 :: (L ++ G)) := h3.perm (List.perm_middle.cons _)
    have h5 := h4.per_and m2 m1
    exact h5.per_imp fun M hM => i M hM.2 hM.1
section lit
variable {P : Program} {n : Nat} {fs : Fs} {E : Env} {L : List HP} {α : Type} {T : Ty α} {C : Fs → List HP → Prop}

theorem lev_buildSlice {t ty e : TypeId} {len size : Nat} {xs : List Operand} {vs ws : List Value} {z : Value} {d : Nat} (hu : P.underlying t = some (.slice e)) (hsz : szB P e size = true) (hz : zeroIs P e z) (hlen : xs.length = len) (hbig : Nat.ble (len * size) 16777216 = true) (hv : evs fs xs = some vs) (hp : Parts size 0 vs ws) (hd : Nat.blt d n = true)
    (h : ∀ b, C ((d, .slice (some ⟨b, 0, none⟩) len len) :: fs) (cb b ws e :: L)) : LEv P (.buildSlice t len (enumO 0 xs).toArray) ty (some d) n fs E L C :=
  lev_of_run (fun ρ => (do pure (.value (← Instr.buildSlice t len ((enumO 0 xs).toArray.map fun (i, x) => (i, ρ x)))))) (fun ρ o ho => by unfold execOp; rw [ho]) hd fun a w hf hs => by
    have hvs := hf.evs hv
    have hbig' : ¬ len * size > 16777216 := by have := Nat.le_of_ble_eq_true hbig; omega
    have hlv : vs.length = len := by rw [← hvs]; simpa using hlen
    refine ⟨_, w.alloc (.cells ws.toArray e), _, .inl ?_, hs.alloc _, h _⟩
    have e1 : ((enumO 0 xs).toArray.map fun (p : Nat × Operand) => (p.1, a.eval p.2)) = (enumV 0 vs).toArray := by
      rw [List.map_toArray, enumO_map, hvs]
    show ((Instr.buildSlice t len ((enumO 0 xs).toArray.map fun (p : Nat × Operand) => (p.1, a.eval p.2))) >>= fun y => pure (Next.value y)).run P w = _
    rw [e1]
    have key : (Instr.buildSlice t len (enumV 0 vs).toArray).run P w = .ok (.slice (some ⟨w.heap.size, 0, none⟩) len len) (w.alloc (.cells ws.toArray e)) := by
      unfold Instr.buildSlice
      rw [run_bind (run_underlying hu w)]
      simp only []
      rw [run_bind (szB_run hsz w), if_neg hbig']
      have hfill : ∀ zc : Array Value, Instr.fill (fun i => some (i * size, size)) ((Array.range (len * size)).map (fun i => zc[i % zc.size]!)) (enumV 0 vs) = some ws.toArray := fun zc => by
        have := fill_parts hp [] ((Array.range (len * size)).map (fun i => zc[i % zc.size]!)).toList (by simp) (by simp [hlv])
        simp only [List.nil_append, Array.toArray_toList] at this
        exact this
      by_cases h0 : len * size = 0
      · rw [if_pos h0]
        simp only [pure_bind, hfill]
        rfl
      · rw [if_neg h0, run_bind (zero_run hz w)]
        simp only [pure_bind, hfill]
        rfl
    rw [run_bind key]; rfl
/-- one element -/
theorem lev_buildSlice1 {t ty e : TypeId} {size : Nat} {x : Operand} {v : Value} {us : List Value} {z : Value} {d : Nat} (hu : P.underlying t = some (.slice e)) (hsz : szB P e size = true) (hz : zeroIs P e z) (hbig : Nat.ble (1 * size) 16777216 = true) (hv : ev fs x = some v) (hc : v.cells = us.toArray) (hl : us.length = size) (hd : Nat.blt d n = true)
    (h : ∀ b, C ((d, .slice (some ⟨b, 0, none⟩) 1 1) :: fs) (cb b us e :: L)) : LEv P (.buildSlice t 1 [(0, x)].toArray) ty (some d) n fs E L C :=
  lev_buildSlice (xs := [x]) (vs := [v]) (ws := us ++ []) hu hsz hz rfl hbig (by simp [evs, hv]) (.cons hc hl .nil) hd (by simpa using h)

/-! structs -/
def placesB (P : Program) (t : TypeId) (l : List (Nat × Nat)) : Bool := match P.underlying t with
  | some (.struct fs) => decide (fs.toList.map (fun f => (f.offset, ((P.info? f.type).map (·.size)).getD 0)) = l) && fs.toList.all (fun f => (P.info? f.type).isSome)
  | _ => false
inductive Filled (pl : List (Nat × Nat)) : List Value → List (Nat × Value) → List Value → Prop
  | nil {l : List Value} : Filled pl l [] l
  | cons {l l' us : List Value} {i off size : Nat} {v : Value} {r : List (Nat × Value)} (hp : pl[i]? = some (off, size)) (hv : v.cells = us.toArray) (hs : us.length = size) (hl : Nat.ble (off + size) l.length = true) (k : Filled pl (over l off us) r l') : Filled pl l ((i, v) :: r) l'
theorem fill_filled {pl : List (Nat × Nat)} {l l' : List Value} {ps : List (Nat × Value)} (h : Filled pl l ps l') : Instr.fill (fun i => (pl.toArray)[i]?) l.toArray ps = some l'.toArray := by
  induction h with
  | nil => rfl
  | cons hp hv hs hl k ih => rw [fill_step (by simpa using hp) hv hs (Nat.le_of_ble_eq_true hl)]; exact ih
def evp (fs : Fs) : List (Nat × Operand) → Option (List (Nat × Value))
  | [] => some []
  | (i, x) :: r => match ev fs x, evp fs r with
    | some v, some vs => some ((i, v) :: vs)
    | _, _ => none
theorem Frs.evp {a : Act} (h : Frs n a fs) : ∀ {l : List (Nat × Operand)} {vs : List (Nat × Value)}, evp fs l = some vs → l.map (fun p => (p.1, a.eval p.2)) = vs
  | [], vs, e => by simpa [Go.Proofs.Ytlkmcdijioiddaa.evp] using e
  | (i, x) :: r, vs, e => by
    unfold Go.Proofs.Ytlkmcdijioiddaa.evp at e
    split at e
    · rename_i v us h1 h2
      simp only [Option.some.injEq] at e
      rw [List.map_cons, h.ev h1, h.evp h2, e]
    · cases e
theorem q_build {t : TypeId} {parts : List (Nat × Operand)} {vs : List (Nat × Value)} {z : Value} {zs l : List Value} (pl : List (Nat × Nat)) (hpl : placesB P t pl = true) (hz : zeroIs P t z) (hzc : z.cells = zs.toArray) (hv : evp fs parts = some vs) (hf' : Filled pl zs vs l) : QEv P (.build t parts.toArray) n fs E L (.agg l.toArray) := fun a w o ho hf hs => by
  have hvs := hf.evp hv
  unfold execOp; rw [ho]
  show ((Instr.build t (parts.toArray.map fun (p : Nat × Operand) => (p.1, a.eval p.2))) >>= fun y => pure (Next.value y)).run P w = _
  rw [List.map_toArray, hvs]
  unfold placesB at hpl
  split at hpl
  · rename_i fields hu
    simp only [Bool.and_eq_true, decide_eq_true_eq] at hpl
    obtain ⟨h1, h2⟩ := hpl
    have hm : (fields.mapM (fun f => do pure (f.offset, ← sizeOf f.type) : Field → Sem (Nat × Nat))).run P w = .ok pl.toArray w := by
      have key : ∀ (fl : List Field), fl.all (fun f => (P.info? f.type).isSome) = true → (fl.mapM (fun f => do pure (f.offset, ← sizeOf f.type) : Field → Sem (Nat × Nat))).run P w = .ok (fl.map (fun f => (f.offset, ((P.info? f.type).map (·.size)).getD 0))) w := by
        intro fl
        induction fl with
        | nil => intro _; rfl
        | cons f r ih =>
          intro hall
          simp only [List.all_cons, Bool.and_eq_true] at hall
          obtain ⟨i, hi⟩ := Option.isSome_iff_exists.1 hall.1
          have h3 : (do pure (f.offset, ← sizeOf f.type) : Sem (Nat × Nat)).run P w = .ok (f.offset, i.size) w := by
            have : (sizeOf f.type).run P w = .ok i.size w := by simp [sizeOf, typeInfo, hi, go_sem]
            rw [run_bind this]; rfl
          rw [List.mapM_cons, run_bind h3, run_bind (ih hall.2)]
          simp [hi, pure, Sem.run]
      have := key fields.toList h2
      rw [h1] at this
      rw [show fields = fields.toList.toArray by simp, List.mapM_toArray]
      show (((fields.toList.mapM (fun f => do pure (f.offset, ← sizeOf f.type) : Field → Sem (Nat × Nat))) >>= fun x => pure x.toArray : Sem (Array (Nat × Nat)))).run P w = _
      rw [run_bind this]; rfl
    have hb : (Instr.build t vs.toArray).run P w = .ok (.agg l.toArray) w := by
      unfold Instr.build
      rw [run_bind (zero_run hz w)]
      simp only []
      rw [run_bind (run_underlying hu w)]
      simp only []
      rw [run_bind hm]
      simp only [hzc]
      rw [fill_filled hf']
      rfl
    rw [run_bind hb]; rfl
  · cases hpl

/-! append -/
theorem lev_append1 {x y : Operand} {t ty e e0 : TypeId} {d : Nat} {s : Sl α} {R R' : List HP} {b c : Nat} {l : List Value} {z : Value} (p : α) (ht : P.underlying t = some (.slice e)) (hz : zeroIs P e z) (hsz : (P.info? e).map (·.size) = some T.size) (hzs : z.cells.size = T.size) (hpos : Nat.blt 0 T.size = true) (bytes : Nat) (hby : (P.info? e).map (·.bytes) = some bytes)
    (hx : ev fs x = some s.val) (hy : ev fs y = some (.slice (some ⟨b, 0, none⟩) 1 c)) (hd : Nat.blt d n = true)
    (hat : At (Own T e s) L R) (hat2 : At (cb b l e0) R R') (hl : l = T.enc p) (hok : PerOf R' (fun M => T.ok M p))
    (hb : s.xs.length + 1 ≤ big ∧ (s.xs.length + 1) * bytes ≤ 140737488355328 ∧ bytes ≤ 512)
    (h : ∀ s' : Sl α, s'.xs = s.xs ++ [p] → C ((d, s'.val) :: fs) (Own T e s' :: R')) : LEv P (.call ⟨.builtin .append, [x, y].toArray, [t, t].toArray⟩) ty (some d) n fs E L C := fun a w o ho hty hdst hf hs K Q hK => by
  have hs1 := (hs.at hat)
  have hs2 : sats E w (cb b l e0 :: R') := (hs1.drop).at hat2
  have hcells : ∀ j u, (flat T [p])[j]? = some u → w.cell? ((⟨b, 0, none⟩ : Addr).add j) = some u := fun j u hj => by
    rw [add_at, Nat.zero_add]
    refine cb_cell At.here hs2 ?_
    rw [hl]; simpa [flat] using hj
  have hs3 : sats E w (Own T e s :: per (fun M => ∀ y ∈ [p], T.ok M y) :: R') := by
    have p1 : sats E w (Own T e s :: cb b l e0 :: R') := hs1.perm (hat2.perm.cons _)
    have p2 : sats E w (Own T e s :: R') := (p1.perm (List.Perm.swap _ _ _)).drop
    have p3 : sats E w (R' ++ [Own T e s]) := p2.perm (by have := List.perm_middle (a := Own T e s) (l₁ := R') (l₂ := []); simpa using this.symm)
    have p4 := hok.put p3
    have p5 : sats E w (per (fun M => ∀ y ∈ [p], T.ok M y) :: (R' ++ [Own T e s])) := p4.per_imp fun M hM y hy => by simp at hy; subst hy; exact hM
    refine p5.perm ?_
    have q1 : (R' ++ [Own T e s]).Perm (Own T e s :: R') := by simp
    exact (q1.cons _).trans (.swap _ _ _)
  obtain ⟨s', w', hr, hxs, hs'⟩ := append_run (ad := ⟨b, 0, none⟩) (c := c) (ty := o.type) (ys := [p]) ht hz hsz hzs (by simpa using hpos) ⟨bytes, hby, hb.2.2, by simpa using hb.2.1⟩ hs3 hcells (by simpa using hb.1)
  unfold Oper.wp
  have he : (execOp a.eval o).run P w = .ok (.value s'.val) w' := by
    rw [execOp_builtin a.eval ho]
    show ((Builtin.append_ [t, t].toArray o.type [a.eval x, a.eval y].toArray) >>= fun y => pure (Next.value y)).run P w = _
    rw [hf.ev hx, hf.ev hy]
    have hr' : (Builtin.append_ [t, t].toArray o.type [s.val, Value.slice (some ⟨b, 0, none⟩) 1 c].toArray).run P w = .ok s'.val w' := hr
    rw [run_bind hr']; rfl
  rw [he]
  show K (a.put o.dst s'.val) w'
  rw [hdst]
  exact hK _ _ (h s' (by simpa using hxs)) _ _ (hf.put hd _) hs'
end lit
end Go.Proofs.Ytlkmcdijioiddaa
