/- The law BatchTurned, plain. Not a proof of any statement by itself. -/
import Derived.Test.YtlkmcdijioiddaaGraphC
import Derived.Test.YtlkmcdijioiddaaBFull
namespace Go.Proofs.Ytlkmcdijioiddaa
set_option linter.unusedVariables false
set_option linter.unusedSimpArgs false
/-- when a batch is admitted -/
structure admits (room : Int) (known : List GTask) (l : List GSpec) : Prop where
  ne : l ≠ []
  ok : ∀ x ∈ l, checkF x = 0
  fits : (known.length : Int) + l.length ≤ room
  once : ∀ x ∈ l, twiceP known l x = false
  there : ∀ x ∈ l, ∀ id ∈ x.After.xs, thereP known l id = true
  sound : ∀ x ∈ l, ∀ id ∈ x.After.xs, soundP known id = true
  all : (orderF l).length = (setOf (l.map (·.ID))).length
theorem firstBad_iff {l : List GSpec} : firstBad l = none ↔ ∀ x ∈ l, checkF x = 0 := by
  constructor
  · intro h x hx
    unfold firstBad at h
    rw [List.find?_eq_none] at h
    have := h (checkF x) (List.mem_map.2 ⟨x, hx, rfl⟩)
    simpa using this
  · intro h
    exact firstBad_none fun j x hx => h x (List.mem_of_getElem? hx)
theorem any_no {α : Type} {l : List α} {p : α → Bool} : ¬ l.any p = true ↔ ∀ x ∈ l, p x = false := by
  rw [Bool.not_eq_true, List.any_eq_false]
  exact ⟨fun h x hx => by simpa using h x hx, fun h x hx => by rw [h x hx]; decide⟩
theorem any2_no {l : List GSpec} {p : Int → Bool} : ¬ (l.any fun x => x.After.xs.any fun id => !(p id)) = true ↔ ∀ x ∈ l, ∀ id ∈ x.After.xs, p id = true := by
  rw [any_no]
  constructor
  · intro h x hx id hid
    have h1 := h x hx
    rw [List.any_eq_false] at h1
    have := h1 id hid
    simpa using this
  · intro h x hx
    rw [List.any_eq_false]
    intro id hid
    rw [h x hx id hid]; decide
theorem checkB_iff {room : Int} {known : List GTask} {l : List GSpec} : checkB room known l = 0 ↔ admits room known l := by
  constructor
  · intro h
    unfold checkB at h
    split at h
    · cases h
    · rename_i h1
      split at h
      · rename_i e he
        unfold firstBad at he
        have := List.find?_some he
        simp at this
        exact absurd h this
      · rename_i hfb
        split at h
        · cases h
        · rename_i h2
          split at h
          · cases h
          · rename_i h3
            split at h
            · cases h
            · rename_i h4
              split at h
              · cases h
              · rename_i h5
                split at h
                · cases h
                · rename_i h6
                  exact ⟨fun e => h1 (by rw [e]; rfl), firstBad_iff.1 hfb, by omega, any_no.1 h3, any2_no.1 h4, any2_no.1 h5, Classical.byContradiction fun h7 => h6 h7⟩
  · rintro ⟨h1, h2, h3, h4, h5, h6, h7⟩
    unfold checkB
    have e1 : ¬ l.length = 0 := fun e => h1 (List.eq_nil_of_length_eq_zero e)
    rw [if_neg e1, firstBad_iff.2 h2]
    simp only []
    rw [if_neg (by omega), if_neg (any_no.2 h4), if_neg (any2_no.2 h5), if_neg (any2_no.2 h6), if_neg (by rw [h7]; simp)]
theorem cntF_perm {l l' : List GSpec} (h : l.Perm l') (id : Int) : cntF l id = cntF l' id := (h.map _).count_eq id
theorem setOf_perm {l l' : List Int} (h : ∀ x, x ∈ l ↔ x ∈ l') : setOf l = setOf l' := rising_ext (setOf_rising l) (setOf_rising l') fun x => mem_setOf.trans ((h x).trans mem_setOf.symm)
theorem ids_perm {l l' : List GSpec} (h : l.Perm l') : setOf (l.map (·.ID)) = setOf (l'.map (·.ID)) := setOf_perm fun x => (h.map _).mem_iff
theorem arcsF_perm {l l' : List GSpec} (h : l.Perm l') : (arcsF l).Perm (arcsF l') := h.flatMap_right _
theorem orderF_perm {l l' : List GSpec} (h : l.Perm l') : orderF l = orderF l' := by
  unfold orderF
  rw [ids_perm h]
  exact topo_perm ((arcsF_perm h).filter _)
theorem admits_perm {room : Int} {known : List GTask} {l l' : List GSpec} (h : l.Perm l') (a : admits room known l) : admits room known l' where
  ne := fun e => a.ne (by rw [e] at h; exact h.eq_nil)
  ok := fun x hx => a.ok x (h.mem_iff.2 hx)
  fits := by rw [← h.length_eq]; exact a.fits
  once := fun x hx => by have := a.once x (h.mem_iff.2 hx); unfold twiceP at *; rw [← cntF_perm h]; exact this
  there := fun x hx id hid => by have := a.there x (h.mem_iff.2 hx) id hid; unfold thereP at *; rw [← cntF_perm h]; exact this
  sound := fun x hx => a.sound x (h.mem_iff.2 hx)
  all := by rw [← orderF_perm h, ← ids_perm h]; exact a.all
theorem admits_nodup {room : Int} {known : List GTask} {l : List GSpec} (a : admits room known l) : (l.map (·.ID)).Nodup := by
  rw [List.nodup_iff_count]
  intro id
  by_cases h : id ∈ l.map (·.ID)
  · obtain ⟨x, hx, rfl⟩ := List.mem_map.1 h
    have := a.once x hx
    unfold twiceP at this
    rw [Bool.or_eq_false_iff, decide_eq_false_iff_not] at this
    have h2 := this.2
    unfold cntF at h2
    omega
  · rw [List.count_eq_zero.2 h]; omega
theorem setOf_len {l : List Int} (h : l.Nodup) : (setOf l).length = l.length :=
  Nat.le_antisymm (setOf_length l) (nodup_sub_length h fun x hx => mem_setOf.2 hx)
theorem admits_len {room : Int} {known : List GTask} {l : List GSpec} (a : admits room known l) : (orderF l).length = l.length := by
  rw [a.all, setOf_len (admits_nodup a), List.length_map]
/-- the batch without the spec of one ID -/
def dropId (l : List GSpec) (z : Int) : List GSpec := l.filter fun x => decide (x.ID ≠ z)
theorem mem_dropId {l : List GSpec} {z : Int} {x : GSpec} : x ∈ dropId l z ↔ x ∈ l ∧ x.ID ≠ z := by unfold dropId; rw [List.mem_filter]; simp
theorem mem_arcsF {l : List GSpec} {c : GArc} : c ∈ arcsF l ↔ ∃ x ∈ l, c.From ∈ x.After.xs ∧ c.To = x.ID := by
  unfold arcsF arcsOf
  rw [List.mem_flatMap]
  constructor
  · rintro ⟨x, hx, hc⟩
    obtain ⟨id, hid, rfl⟩ := List.mem_map.1 hc
    exact ⟨x, hx, hid, rfl⟩
  · rintro ⟨x, hx, h1, h2⟩
    refine ⟨x, hx, List.mem_map.2 ⟨c.From, h1, ?_⟩⟩
    cases c; simp only at h2; rw [h2]
theorem cntF_pos {l : List GSpec} {id : Int} : (0 < (cntF l id : Int)) ↔ ∃ x ∈ l, x.ID = id := by
  unfold cntF
  rw [Int.natCast_pos, List.count_pos_iff, List.mem_map]
theorem mem_good {l : List GSpec} {c : GArc} : c ∈ goodA (setOf (l.map (·.ID))) (arcsF l) ↔ c ∈ arcsF l ∧ c.From ∈ l.map (·.ID) ∧ c.To ∈ l.map (·.ID) := by
  unfold goodA
  rw [List.mem_filter]
  simp only [Bool.and_eq_true, decide_eq_true_eq, mem_setOf]
/-- nothing comes after the last one -/
theorem last_after {room : Int} {known : List GTask} {l : List GSpec} (a : admits room known l) {p : List Int} {z : Int} (hz : orderF l = p ++ [z]) {x : GSpec} (hx : x ∈ l) : z ∉ x.After.xs := fun hm => by
  obtain ⟨h1, h2, h3⟩ := topo_props (setOf (l.map (·.ID))) (goodA (setOf (l.map (·.ID))) (arcsF l))
  have ho : topo (setOf (l.map (·.ID))) (goodA (setOf (l.map (·.ID))) (arcsF l)) = p ++ [z] := hz
  rw [ho] at h1 h2 h3
  have hzn : z ∈ l.map (·.ID) := mem_setOf.1 (h2 z (by simp))
  have hxn : x.ID ∈ l.map (·.ID) := List.mem_map.2 ⟨x, hx, rfl⟩
  -- x stands in the order
  have hxo : x.ID ∈ p ++ [z] := by
    by_cases hq : x.ID ∈ p ++ [z]
    · exact hq
    · have h4 := nodup_sub_length (l := x.ID :: (p ++ [z])) (m := setOf (l.map (·.ID))) (List.nodup_cons.2 ⟨hq, h1⟩) fun y hy => by
        rcases List.mem_cons.1 hy with rfl | hy
        · exact mem_setOf.2 hxn
        · exact h2 y hy
      have h5 := a.all
      rw [hz] at h5
      simp only [List.length_cons] at h4
      omega
  obtain ⟨q, s, e⟩ := List.append_of_mem hxo
  have harc : (⟨z, x.ID⟩ : GArc) ∈ goodA (setOf (l.map (·.ID))) (arcsF l) := mem_good.2 ⟨mem_arcsF.2 ⟨x, hx, hm, rfl⟩, hzn, hxn⟩
  have hq : z ∈ q := h3 q x.ID s e _ harc rfl
  -- z stands twice
  rcases List.eq_nil_or_concat s with rfl | ⟨s', y, rfl⟩
  · obtain ⟨e1, e2⟩ := List.append_inj' e (by simp)
    subst e1
    rw [List.nodup_append] at h1
    exact h1.2.2 z hq z (by simp) rfl
  · have he2 : p ++ [z] = (q ++ x.ID :: s') ++ [y] := by rw [e]; simp
    obtain ⟨e1, e2⟩ := List.append_inj' he2 (by simp)
    rw [List.nodup_append] at h1
    exact h1.2.2 z (by rw [e1]; exact List.mem_append_left _ hq) z (by simp) rfl
theorem forward_sub {g g' : List GArc} {o : List Int} (h : forward g o) (hs : ∀ c ∈ g', c ∈ g) : forward g' o := fun p n s e c hc ht => h p n s e c (hs c hc) ht
theorem forward_front {g : List GArc} {p t : List Int} (h : forward g (p ++ t)) : forward g p := fun q n s e c hc ht => h q n (s ++ t) (by rw [e]; simp) c hc ht
theorem admits_drop {room : Int} {known : List GTask} {l : List GSpec} (a : admits room known l) {p : List Int} {z : Int} (hz : orderF l = p ++ [z]) (h1 : l.length ≠ 1) : admits room known (dropId l z) := by
  have hnd := admits_nodup a
  have hcnt : ∀ id, cntF (dropId l z) id ≤ cntF l id := fun id => List.Sublist.count_le _ (List.Sublist.map _ (List.filter_sublist ..))
  have hlen : (dropId l z).length ≤ l.length := List.length_filter_le ..
  obtain ⟨t1, t2, t3⟩ := topo_props (setOf (l.map (·.ID))) (goodA (setOf (l.map (·.ID))) (arcsF l))
  have ho : topo (setOf (l.map (·.ID))) (goodA (setOf (l.map (·.ID))) (arcsF l)) = p ++ [z] := hz
  rw [ho] at t1 t2 t3
  refine ⟨fun e => ?_, fun x hx => a.ok x (mem_dropId.1 hx).1, by have := a.fits; omega, fun x hx => ?_, fun x hx id hid => ?_, fun x hx => a.sound x (mem_dropId.1 hx).1, ?_⟩
  · -- all specs would be z's
    have hall : ∀ x ∈ l, x.ID = z := fun x hx => by
      by_cases hxz : x.ID = z
      · exact hxz
      · have : x ∈ dropId l z := mem_dropId.2 ⟨hx, hxz⟩
        rw [e] at this; cases this
    have h2 := nodup_sub_length (l := l.map (·.ID)) (m := [z]) hnd fun y hy => by
      obtain ⟨x, hx, rfl⟩ := List.mem_map.1 hy
      rw [hall x hx]; simp
    simp only [List.length_map, List.length_cons, List.length_nil] at h2
    have h3 : l.length ≠ 0 := fun e => a.ne (List.eq_nil_of_length_eq_zero e)
    omega
  · have h2 := a.once x (mem_dropId.1 hx).1
    unfold twiceP at *
    rw [Bool.or_eq_false_iff, decide_eq_false_iff_not] at *
    exact ⟨h2.1, by have := hcnt x.ID; omega⟩
  · have hxl := (mem_dropId.1 hx).1
    have h2 := a.there x hxl id hid
    have hne : id ≠ z := fun e => last_after a hz hxl (e ▸ hid)
    unfold thereP at *
    rw [Bool.or_eq_true, decide_eq_true_eq] at *
    rcases h2 with h2 | h2
    · exact .inl h2
    · obtain ⟨y, hy, e⟩ := cntF_pos.1 h2
      exact .inr (cntF_pos.2 ⟨y, mem_dropId.2 ⟨hy, by rw [e]; exact hne⟩, e⟩)
  · unfold orderF
    rw [topo_full (rising_nodup (setOf_rising _)) (fun c hc => mem_setOf.2 (mem_good.1 hc).2.1)]
    refine ⟨p ++ [z], fun y hy => ?_, forward_sub t3 fun c hc => ?_⟩
    · have hy2 : y ∈ (dropId l z).map (·.ID) := mem_setOf.1 hy
      obtain ⟨x, hx, rfl⟩ := List.mem_map.1 hy2
      have hxl := (mem_dropId.1 hx).1
      by_cases hq : x.ID ∈ p ++ [z]
      · exact hq
      · have h4 := nodup_sub_length (l := x.ID :: (p ++ [z])) (m := setOf (l.map (·.ID))) (List.nodup_cons.2 ⟨hq, t1⟩) fun y hy => by
          rcases List.mem_cons.1 hy with rfl | hy
          · exact mem_setOf.2 (List.mem_map.2 ⟨x, hxl, rfl⟩)
          · exact t2 y hy
        have h5 := a.all
        rw [hz] at h5
        simp only [List.length_cons] at h4
        omega
    · obtain ⟨c1, c2, c3⟩ := mem_good.1 hc
      obtain ⟨x, hx, e1, e2⟩ := mem_arcsF.1 c1
      refine mem_good.2 ⟨mem_arcsF.2 ⟨x, (mem_dropId.1 hx).1, e1, e2⟩, ?_, ?_⟩
      · obtain ⟨y, hy, e⟩ := List.mem_map.1 c2; exact List.mem_map.2 ⟨y, (mem_dropId.1 hy).1, e⟩
      · obtain ⟨y, hy, e⟩ := List.mem_map.1 c3; exact List.mem_map.2 ⟨y, (mem_dropId.1 hy).1, e⟩
end Go.Proofs.Ytlkmcdijioiddaa
