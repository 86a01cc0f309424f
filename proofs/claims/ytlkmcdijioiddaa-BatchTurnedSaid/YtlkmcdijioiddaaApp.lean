/- append onto a list of one's own; literals. Not a proof of any statement by itself. -/
import Derived.Test.YtlkmcdijioiddaaMaps
import Derived.Maps.AppendAt
namespace Go.Proofs.Ytlkmcdijioiddaa
open Go.RowKit
set_option linter.unusedVariables false
set_option linter.unusedSimpArgs false

section app
variable {P : Program} {n : Nat} {fs : Fs} {E : Env} {L : List HP} {α : Type} {T : Ty α} {C : Fs → List HP → Prop}

theorem own_row {w : World} {e : TypeId} {s : Sl α} {R : List HP} (hs : sats E w (Own T e s :: R)) : w.ownsRow 0 e T.size s.val s.xs.length (flat T s.xs) := by
  obtain ⟨en, hs', x⟩ := hs
  obtain ⟨h, t, rfl, ⟨h1, h2, h3, h4, h5⟩, sb, c, x⟩ := satsL_cons x
  refine ⟨flat_length T s.xs, ?_⟩
  rcases h5 with ⟨h6, h7⟩ | ⟨g, cs, h6, h7, h8, h9⟩
  · have : s.xs.length = 0 := by omega
    refine .inl ⟨?_, this⟩
    unfold Sl.val; rw [h6, h7, this]
  · refine .inr ⟨g, s.c, cs, by unfold Sl.val; rw [h6], Nat.zero_le _, sb _ _ _ h7, h1, by show s.c ≤ 9223372036854775807; exact h2, h8, h9⟩
theorem own_block {w : World} {e : TypeId} {s : Sl α} {R : List HP} {h : PH} {t : List PH} (hx : Own T e s h) : s.val.ownBlock = none ∨ ∃ g o, s.val.ownBlock = some g ∧ h g = some (o, false) := by
  obtain ⟨h1, h2, h3, h4, h5⟩ := hx
  rcases h5 with ⟨h6, h7⟩ | ⟨g, cs, h6, h7, h8, h9⟩
  · left; unfold Sl.val; rw [h6]; rfl
  · right; exact ⟨g, _, by unfold Sl.val; rw [h6]; rfl, h7⟩
theorem own_append {w w' : World} {e : TypeId} {s : Sl α} {ys : List α} {R : List HP} {v' : Value} (hs : sats E w (Own T e s :: per (fun M => ∀ y ∈ ys, T.ok M y) :: R))
    (ho : w'.ownsRow 0 e T.size v' (s.xs.length + ys.length) (flat T s.xs ++ flat T ys)) (hg : w.grownBy w' s.val.ownBlock) (hat : v'.ownBlock = s.val.ownBlock ∨ v'.ownBlock = some w.heap.size)
    (hbig : s.xs.length + ys.length ≤ big) : ∃ s' : Sl α, v' = s'.val ∧ s'.xs = s.xs ++ ys ∧ sats E w' (Own T e s' :: R) := by
  obtain ⟨en, hs', x⟩ := hs
  obtain ⟨h, t, rfl, hown, sb, c, x⟩ := satsL_cons x
  obtain ⟨hp, t, rfl, hper, sbp, cp, x⟩ := satsL_cons x
  have hblk := own_block (w := w) (R := R) (t := t) hown
  obtain ⟨h1, h2, h3, h4, h5⟩ := hown
  have chp : Pcomp h hp := c hp (List.mem_cons_self ..)
  -- what stays, of both
  have hjoin : ∀ k o b, Pjoin (immP h) (immP hp) k = some (o, b) → b = true ∧ (h k = some (o, true) ∨ hp k = some (o, true)) := by
    intro k o b hk
    unfold Pjoin at hk
    cases hh : immP h k with
    | none => rw [hh] at hk; have hk' : immP hp k = some (o, b) := by simpa using hk
              obtain ⟨a1, a2⟩ := immP_some hk'; exact ⟨a2, .inr a1⟩
    | some y => rw [hh] at hk
                have hk' : y = (o, b) := by simpa using hk
                subst hk'
                obtain ⟨a1, a2⟩ := immP_some hh; exact ⟨a2, .inl a1⟩
  have hle1 : MLe (imm h) (imm (Pjoin (immP h) (immP hp))) := fun k o hk => by
    have hk' := imm_some hk
    have : immP h k = some (o, true) := by unfold immP; rw [hk']
    unfold imm Pjoin; rw [this]; rfl
  have hle2 : MLe (imm hp) (imm (Pjoin (immP h) (immP hp))) := fun k o hk => by
    have hk' := imm_some hk
    have hpk : immP hp k = some (o, true) := by unfold immP; rw [hk']
    unfold imm Pjoin
    cases hh : immP h k with
    | none => rw [hpk]; rfl
    | some y =>
      obtain ⟨o2, b2⟩ := y
      obtain ⟨a1, a2⟩ := immP_some hh
      obtain ⟨_, _, a3⟩ := chp k _ _ _ _ a1 hk'
      subst a2; subst a3; rfl
  have hkeep : ∀ (k : Nat) (o : Obj), w.heap[k]? = some o → s.val.ownBlock ≠ some k → w'.heap[k]? = some o := fun k o hk hne => by
    rw [hg.block k (Array.getElem?_eq_some_iff.1 hk).1 (fun e => hne e.symm)]; exact hk
  have hneI : ∀ k o, h k = some (o, true) → s.val.ownBlock ≠ some k := fun k o hk hne => by
    rcases hblk with hb | ⟨g, o', hb, hgo⟩
    · rw [hb] at hne; cases hne
    · rw [hb] at hne; simp only [Option.some.injEq] at hne; subst hne; rw [hk] at hgo; cases hgo
  have hneO : ∀ (q : PH), Pcomp h q → ∀ k o b, q k = some (o, b) → s.val.ownBlock ≠ some k := fun q cq k o b hk hne => by
    rcases hblk with hb | ⟨g, o', hb, hgo⟩
    · rw [hb] at hne; cases hne
    · rw [hb] at hne; simp only [Option.some.injEq] at hne; subst hne
      exact absurd (cq _ _ _ _ _ hgo hk).1 (by simp)
  have hframe : satsL w' R t := by
    have : ∀ {L : List HP} {ts : List PH}, (∀ q ∈ ts, Pcomp h q) → satsL w L ts → satsL w' L ts := by
      intro L
      induction L with
      | nil => intro ts _ y; cases ts with
        | nil => trivial
        | cons _ _ => exact y.elim
      | cons A L ih =>
        intro ts hc y
        obtain ⟨q, ts, rfl, y1, y2, y3, y4⟩ := satsL_cons y
        exact ⟨y1, fun k o b hk => hkeep k o (y2 _ _ _ hk) (hneO q (hc q (List.mem_cons_self ..)) k o b hk), y3, ih (fun q hq => hc q (List.mem_cons_of_mem _ hq)) y4⟩
    exact this (fun q hq => c q (List.mem_cons_of_mem _ hq)) x
  have henv : w'.os = E.os ∧ w'.tape = E.tape ∧ w'.output = E.output := ⟨hg.os.trans en.1, hg.tape.trans en.2.1, hg.output.trans en.2.2⟩
  have hsubI : Psub (Pjoin (immP h) (immP hp)) w' := fun k o b hk => by
    obtain ⟨_, hk2 | hk2⟩ := hjoin k o b hk
    · exact hkeep k o (sb _ _ _ hk2) (hneI k o hk2)
    · exact hkeep k o (sbp _ _ _ hk2) (hneO hp chp k o _ hk2)
  have hcompI : ∀ q ∈ t, Pcomp (Pjoin (immP h) (immP hp)) q := fun q hq k o b o' b' hk hk' => by
    obtain ⟨rfl, hk2 | hk2⟩ := hjoin k o b hk
    · exact c q (List.mem_cons_of_mem _ hq) k _ _ _ _ hk2 hk'
    · exact cp q hq k _ _ _ _ hk2 hk'
  have hoks : ∀ y ∈ s.xs ++ ys, T.ok (imm (Pjoin (immP h) (immP hp))) y := fun y hy => by
    rcases List.mem_append.1 hy with hy | hy
    · exact T.mono _ _ y hle1 (h4 y hy)
    · exact T.mono _ _ y hle2 (hper y hy)
  rcases ho.2 with ⟨rfl, hn0⟩ | ⟨g, cap, cur, rfl, _, hgh, hnc, hcm, hcs, htake⟩
  · have e1 : s.xs.length = 0 := by omega
    have e2 : ys.length = 0 := by omega
    refine ⟨⟨none, 0, s.xs ++ ys⟩, by unfold Sl.val; simp [e1, e2], rfl, henv, Pjoin (immP h) (immP hp) :: t, ⟨by simp [e1, e2], by show 0 ≤ _; omega, by simp [e1, e2], hoks, .inl ⟨rfl, rfl⟩⟩, hsubI, hcompI, hframe⟩
  · refine ⟨⟨some ⟨g, 0, none⟩, cap, s.xs ++ ys⟩, by unfold Sl.val; simp, rfl, henv, (fun k => if k = g then some (.cells cur e (0, 0), false) else Pjoin (immP h) (immP hp) k) :: t, ?_, ?_, ?_, hframe⟩
    · have hneg : ∀ k o, imm (Pjoin (immP h) (immP hp)) k = some o → k ≠ g := fun k o hk hkg => by
        subst hkg
        have hk1 := imm_some hk
        rcases hat with ha | ha
        · have ha' : s.val.ownBlock = some k := by rw [← ha]; rfl
          obtain ⟨_, hk2 | hk2⟩ := hjoin k o true hk1
          · exact hneI k o hk2 ha'
          · exact hneO hp chp k o _ hk2 ha'
        · have ha' : k = w.heap.size := by simpa [Value.ownBlock] using ha
          obtain ⟨_, hk2 | hk2⟩ := hjoin k o true hk1
          · have := (Array.getElem?_eq_some_iff.1 (sb _ _ _ hk2)).1; omega
          · have := (Array.getElem?_eq_some_iff.1 (sbp _ _ _ hk2)).1; omega
      refine ⟨by simp; exact hnc, by show cap ≤ 9223372036854775807; exact hcm, by simp; exact hbig, fun y hy => T.mono _ _ y (fun k o hk => ?_) (hoks y hy), .inr ⟨g, cur, rfl, by simp, hcs, ?_⟩⟩
      · have hk1 := imm_some hk
        simp only [imm, if_neg (hneg k o hk), hk1]
      · rw [flat_append]; simp only [List.length_append]; exact htake
    · intro k o b hk
      by_cases hkg : k = g
      · subst hkg; simp only [if_true, Option.some.injEq, Prod.mk.injEq] at hk; rw [← hk.1]; exact hgh
      · simp only [if_neg hkg] at hk; exact hsubI _ _ _ hk
    · intro q hq k o b o' b' hk hk'
      by_cases hkg : k = g
      · subst hkg
        exfalso
        rcases hat with ha | ha
        · have ha' : s.val.ownBlock = some k := by rw [← ha]; rfl
          exact hneO q (c q (List.mem_cons_of_mem _ hq)) k o' b' hk' ha'
        · have ha' : k = w.heap.size := by simpa [Value.ownBlock] using ha
          have := (Array.getElem?_eq_some_iff.1 (satsL_sub x q hq _ _ _ hk')).1; omega
      · simp only [if_neg hkg] at hk; exact hcompI q hq k o b o' b' hk hk'

/-- append onto a list of one's own, of what lies in memory -/
theorem append_run {w : World} {e t ty : TypeId} {s : Sl α} {ys : List α} {R : List HP} {z : Value} {ad : Addr} {c : Nat} (ht : P.underlying t = some (.slice e)) (hz : zeroIs P e z) (hsz : (P.info? e).map (·.size) = some T.size) (hzs : z.cells.size = T.size) (hpos : 0 < T.size) (hby : ∃ b, (P.info? e).map (·.bytes) = some b ∧ b ≤ 512 ∧ (s.xs.length + ys.length) * b ≤ 140737488355328)
    (hs : sats E w (Own T e s :: per (fun M => ∀ y ∈ ys, T.ok M y) :: R)) (hsrc : ∀ j u, (flat T ys)[j]? = some u → w.cell? (ad.add j) = some u) (hbig : s.xs.length + ys.length ≤ big) :
    ∃ (s' : Sl α) (w' : World), (Builtin.append_ #[t, t] ty #[s.val, .slice (some ad) ys.length c]).run P w = .ok s'.val w' ∧ s'.xs = s.xs ++ ys ∧ sats E w' (Own T e s' :: R) := by
  obtain ⟨b, hb1, _, hb2⟩ := hby
  cases hi : P.info? e with
  | none => rw [hi] at hb1; cases hb1
  | some i =>
    rw [hi] at hb1 hsz
    unfold zeroIs at hz
    rw [hi] at hz
    have hown := own_row hs
    obtain ⟨v', w', hr, h2, h3, _, h5⟩ := run_append_own_at (P := P) w 0 t ty e i z T.size b ht hi hz (by simpa using hsz) (by simpa using hb1) hzs hpos s.val s.xs.length _ hown ad ys.length c (flat T ys) (flat_length T ys) hsrc (flat_one T ys)
      (by show _ ≤ 9223372036854775807; simp only [big_is] at hbig; omega) hb2 (Nat.zero_le _)
    obtain ⟨s', rfl, hx, hs'⟩ := own_append hs h2 h3 h5 hbig
    exact ⟨s', w', hr, hx, hs'⟩
end app
end Go.Proofs.Ytlkmcdijioiddaa
