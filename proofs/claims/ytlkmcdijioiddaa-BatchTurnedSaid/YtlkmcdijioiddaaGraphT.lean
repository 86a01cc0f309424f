/- The order of a graph, plain: the heap's way comes to the same as taking the least ready node, over and over. Not a proof of any statement by itself. -/
import Derived.Test.YtlkmcdijioiddaaHeapA
import Derived.Test.YtlkmcdijioiddaaGraphM
import Derived.Test.YtlkmcdijioiddaaCompact
namespace Go.Proofs.Ytlkmcdijioiddaa
set_option linter.unusedVariables false
set_option linter.unusedSimpArgs false
def readyL (nodes : List Int) (g : List GArc) (out : List Int) : List Int := nodes.filter fun n => !decide (n ∈ out) && decide (indeg g out n = 0)
def topoF (nodes : List Int) (g : List GArc) : Nat → List Int → List Int
  | 0, out => out
  | k + 1, out => match (readyL nodes g out).head? with
    | none => out
    | some n => topoF nodes g k (out ++ [n])
def topo (nodes : List Int) (g : List GArc) : List Int := topoF nodes g nodes.length []
theorem mem_ready {nodes : List Int} {g : List GArc} {out : List Int} {n : Int} : n ∈ readyL nodes g out ↔ n ∈ nodes ∧ n ∉ out ∧ indeg g out n = 0 := by
  unfold readyL; simp [List.mem_filter]
theorem rising_filter {l : List Int} (h : rising l) (p : Int → Bool) : rising (l.filter p) := List.Pairwise.filter p h
theorem head_least {l : List Int} (h : rising l) {n : Int} (hn : n ∈ l) (hm : ∀ m ∈ l, n ≤ m) : l.head? = some n := by
  cases l with
  | nil => cases hn
  | cons a r =>
    have h1 := hm a (List.mem_cons_self ..)
    rcases List.mem_cons.1 hn with e | e
    · rw [e]; rfl
    · have := (List.pairwise_cons.1 h).1 n e; omega
theorem nodup_sub_length : ∀ {l m : List Int}, l.Nodup → (∀ x ∈ l, x ∈ m) → l.length ≤ m.length
  | [], m, _, _ => Nat.zero_le _
  | a :: r, m, h, hs => by
    obtain ⟨h1, h2⟩ := List.nodup_cons.1 h
    have ha := hs a (List.mem_cons_self ..)
    have ih := nodup_sub_length (l := r) (m := m.erase a) h2 fun x hx => by
      have hne : x ≠ a := fun e => h1 (e ▸ hx)
      exact (List.mem_erase_of_ne hne).2 (hs x (List.mem_cons_of_mem _ hx))
    have hl := List.length_erase_of_mem ha
    have hp : 0 < m.length := List.length_pos_of_mem ha
    simp only [List.length_cons]; omega
theorem rising_nodup {l : List Int} (h : rising l) : l.Nodup := h.imp fun h => by omega
theorem indeg_pop {g : List GArc} {out : List Int} {n : Int} (hn : n ∉ out) (m : Int) : indeg g out m = indeg g (out ++ [n]) m + (tosA g n).count m := by
  unfold indeg tosA
  induction g with
  | nil => rfl
  | cons a g ih =>
    simp only [List.filter_cons, List.mem_append, List.mem_singleton]
    by_cases hf : a.From = n
    · have ho : a.From ∉ out := by rw [hf]; exact hn
      by_cases ht : a.To = m
      · simp only [hf, ht, hn, decide_true, decide_false, Bool.not_false, Bool.and_true, if_true, or_true, Bool.not_true, Bool.and_false, Bool.false_eq_true, if_false, List.length_cons, List.map_cons, List.count_cons, beq_self_eq_true]
        simp only [List.mem_append, List.mem_singleton] at ih
        omega
      · have hb : (a.To == m) = false := by simpa using ht
        simp only [hf, ht, hn, decide_true, decide_false, Bool.false_and, Bool.false_eq_true, if_false, if_true, List.map_cons, List.count_cons, hb]
        simp only [List.mem_append, List.mem_singleton] at ih
        omega
    · by_cases ht : a.To = m
      · by_cases ho : a.From ∈ out
        · simp only [hf, ht, ho, decide_true, decide_false, true_or, Bool.not_true, Bool.and_false, Bool.false_eq_true, if_false]
          simp only [List.mem_append, List.mem_singleton] at ih
          omega
        · simp only [hf, ht, ho, decide_true, decide_false, or_self, Bool.not_false, Bool.and_self, Bool.and_true, if_true, Bool.false_eq_true, if_false, List.length_cons]
          simp only [List.mem_append, List.mem_singleton] at ih
          omega
      · simp only [hf, ht, decide_false, Bool.false_and, Bool.false_eq_true, if_false]
        simp only [List.mem_append, List.mem_singleton] at ih
        omega
/-- what holds while a graph is gone through -/
structure ordI (nodes : List Int) (g : List GArc) (out rest : List Int) (l : List GThing) (kv fr : List (Int × Int)) : Prop where
  hp : hpR l kv
  ks : ∀ x ∈ l, x.key = 0 ∧ x.seq = x.id
  ids : ∀ m, (∃ x ∈ l, x.id = m) ↔ m ∈ nodes ∧ m ∉ out ∧ indeg g out m + rest.count m = 0
  fr : ∀ m, (aget fr m).getD 0 = ((indeg g out m + rest.count m : Nat) : Int)
  outz : ∀ m ∈ out, indeg g out m + rest.count m = 0
  nd : out.Nodup
  sub : ∀ m ∈ out, m ∈ nodes
  top : topoF nodes g (nodes.length - out.length) out = topo nodes g
  rs : ∀ m ∈ rest, m ∈ nodes
theorem perm_ids {l l' : List GThing} {x : GThing} (h : l.Perm (x :: l')) (m : Int) : (∃ y ∈ l, y.id = m) ↔ (x.id = m ∨ ∃ y ∈ l', y.id = m) := by
  constructor
  · rintro ⟨y, hy, e⟩
    rcases List.mem_cons.1 (h.mem_iff.1 hy) with rfl | hy
    · exact .inl e
    · exact .inr ⟨y, hy, e⟩
  · rintro (e | ⟨y, hy, e⟩)
    · exact ⟨x, h.mem_iff.2 (List.mem_cons_self ..), e⟩
    · exact ⟨y, h.mem_iff.2 (List.mem_cons_of_mem _ hy), e⟩
theorem hp_ids_nodup {l : List GThing} {kv : List (Int × Int)} (h : placedAll l kv) : (l.map (·.id)).Nodup := by
  rw [List.nodup_iff_pairwise_ne, List.pairwise_iff_getElem]
  intro i j hi hj hij e
  simp only [List.length_map] at hi hj
  simp only [List.getElem_map] at e
  have e1 := h.1 i hi
  have e2 := h.1 j hj
  have g1 : gt l i = l[i] := by have := gt_get hi; rw [List.getElem?_eq_getElem hi] at this; simpa using this.symm
  have g2 : gt l j = l[j] := by have := gt_get hj; rw [List.getElem?_eq_getElem hj] at this; simpa using this.symm
  rw [g1, e, ← g2, e2] at e1
  simp only [Option.some.injEq] at e1; omega
theorem ordI.len {nodes : List Int} {g : List GArc} {out rest : List Int} {l : List GThing} {kv fr : List (Int × Int)} (h : ordI nodes g out rest l kv fr) : l.length ≤ nodes.length ∧ out.length ≤ nodes.length := by
  refine ⟨?_, nodup_sub_length h.nd h.sub⟩
  have := nodup_sub_length (hp_ids_nodup h.hp.2) (m := nodes) fun x hx => by
    obtain ⟨y, hy, e⟩ := List.mem_map.1 hx
    exact ((h.ids x).1 ⟨y, hy, e⟩).1
  simpa using this
theorem ordI.noneAt {nodes : List Int} {g : List GArc} {out rest : List Int} {l : List GThing} {kv fr : List (Int × Int)} (h : ordI nodes g out rest l kv fr) {m : Int} (hm : ¬ (m ∈ nodes ∧ m ∉ out ∧ indeg g out m + rest.count m = 0)) : aget kv m = none := by
  cases hk : aget kv m with
  | none => rfl
  | some p => exact absurd ((h.ids m).1 ((h.hp.mem m).1 (by rw [hk]; rfl))) hm
theorem ordI.stop {nodes : List Int} {g : List GArc} {out : List Int} {kv fr : List (Int × Int)} (h : ordI nodes g out [] [] kv fr) : out = topo nodes g := by
  rw [← h.top]
  have hr : readyL nodes g out = [] := by
    cases hq : readyL nodes g out with
    | nil => rfl
    | cons a r =>
      have ha : a ∈ readyL nodes g out := by rw [hq]; exact List.mem_cons_self ..
      obtain ⟨h1, h2, h3⟩ := mem_ready.1 ha
      obtain ⟨x, hx, _⟩ := (h.ids a).2 ⟨h1, h2, by simpa using h3⟩
      cases hx
  cases nodes.length - out.length with
  | zero => rfl
  | succ k => unfold topoF; rw [hr]; rfl
theorem ordI.pop {nodes : List Int} {g : List GArc} {out : List Int} {l : List GThing} {kv fr : List (Int × Int)} (hr : rising nodes) (hg : ∀ a ∈ g, a.To ∈ nodes) (h : ordI nodes g out [] l kv fr) (hnd : (akeys kv).Nodup) (hne : l ≠ []) :
    ordI nodes g (out ++ [headId l]) (tosA g (headId l)) (popF l kv).1 (popF l kv).2 fr ∧ headId l ∈ nodes ∧ headId l ∉ out := by
  obtain ⟨x, x1, x2, x3, x4, x5⟩ := pop_spec h.hp hnd hne
  have hready := (h.ids (headId l)).1 ⟨x, x1, x2⟩
  obtain ⟨r1, r2, r3⟩ := hready
  simp only [List.count_nil, Nat.add_zero] at r3
  have hleast : ∀ m ∈ readyL nodes g out, headId l ≤ m := by
    intro m hm
    obtain ⟨m1, m2, m3⟩ := mem_ready.1 hm
    obtain ⟨y, hy, rfl⟩ := (h.ids m).2 ⟨m1, m2, by simpa using m3⟩
    have h3 := x3 y hy
    rw [ahead_no] at h3
    obtain ⟨a1, a2⟩ := h.ks y hy
    obtain ⟨b1, b2⟩ := h.ks x x1
    rw [a1, a2, b1, b2] at h3
    rw [← x2]; omega
  have hhead := head_least (rising_filter hr _) (mem_ready.2 ⟨r1, r2, r3⟩) hleast
  have hlt : out.length < nodes.length := by
    have := nodup_sub_length (l := out ++ [headId l]) (m := nodes) (by
      rw [List.nodup_append]; exact ⟨h.nd, by simp, fun a ha b hb e => by simp at hb; subst hb; subst e; exact r2 ha⟩) (fun y hy => by
      rcases List.mem_append.1 hy with hy | hy
      · exact h.sub y hy
      · simp only [List.mem_singleton] at hy; rw [hy]; exact r1)
    simp only [List.length_append, List.length_cons, List.length_nil] at this; omega
  have hpop : ∀ m, indeg g out m = indeg g (out ++ [headId l]) m + (tosA g (headId l)).count m := indeg_pop r2
  refine ⟨⟨x5, fun y hy => h.ks y (x4.mem_iff.2 (List.mem_cons_of_mem _ hy)), fun m => ?_, fun m => ?_, fun m hm => ?_, ?_, fun m hm => ?_, ?_, fun m hm => ?_⟩, r1, r2⟩
  · have hi := h.ids m
    rw [perm_ids x4] at hi
    simp only [List.count_nil, Nat.add_zero] at hi
    rw [← hpop m]
    have hnx : ¬ ∃ y ∈ (popF l kv).1, y.id = x.id := by
      rintro ⟨y, hy, e⟩
      have hnd2 := (x4.map (·.id)).nodup_iff.1 (hp_ids_nodup h.hp.2)
      simp only [List.map_cons, List.nodup_cons, List.mem_map, not_exists, not_and] at hnd2
      exact hnd2.1 y hy e
    rw [x2] at hi hnx
    constructor
    · intro hy
      obtain ⟨i1, i2, i3⟩ := hi.1 (.inr hy)
      refine ⟨i1, fun hm => ?_, i3⟩
      rcases List.mem_append.1 hm with hm | hm
      · exact i2 hm
      · simp only [List.mem_singleton] at hm; subst hm; exact hnx hy
    · rintro ⟨i1, i2, i3⟩
      rcases hi.2 ⟨i1, fun hm => i2 (List.mem_append_left _ hm), i3⟩ with e | e
      · exact absurd (by rw [← e]; simp) i2
      · exact e
  · rw [← hpop m]; have := h.fr m; simpa using this
  · rw [← hpop m]
    rcases List.mem_append.1 hm with hm | hm
    · have := h.outz m hm; simpa using this
    · simp only [List.mem_singleton] at hm; rw [hm]; exact r3
  · rw [List.nodup_append]; exact ⟨h.nd, by simp, fun a ha b hb e => by simp at hb; subst hb; subst e; exact r2 ha⟩
  · rcases List.mem_append.1 hm with hm | hm
    · exact h.sub m hm
    · simp only [List.mem_singleton] at hm; rw [hm]; exact r1
  · rw [← h.top]
    have e : nodes.length - out.length = nodes.length - (out ++ [headId l]).length + 1 := by simp; omega
    rw [e]
    conv => rhs; unfold topoF
    unfold readyL at hhead ⊢
    rw [hhead]
  · unfold tosA at hm
    obtain ⟨a, ha, rfl⟩ := List.mem_map.1 hm
    exact hg a (List.mem_filter.1 ha).1
theorem count_cons_self' (m : Int) (r : List Int) (k : Int) : (m :: r).count k = r.count k + if k = m then 1 else 0 := by
  rw [List.count_cons]
  by_cases e : k = m
  · subst e; simp
  · have : (m == k) = false := by simpa using fun e2 => e e2.symm
    simp [this, e]
theorem ordI.frStep {nodes : List Int} {g : List GArc} {out rest : List Int} {l : List GThing} {kv fr : List (Int × Int)} {m : Int} (h : ordI nodes g out (m :: rest) l kv fr) : ∀ k, (aget (aset fr m ((aget fr m).getD 0 - 1)) k).getD 0 = ((indeg g out k + rest.count k : Nat) : Int) := by
  intro k
  have h1 := h.fr k
  rw [count_cons_self'] at h1
  rw [aget_aset]
  by_cases e : k = m
  · subst e
    rw [if_pos rfl, Option.getD_some, h1, if_pos rfl]; omega
  · rw [if_neg e, h1, if_neg e, Nat.add_zero]
theorem ordI.notOut {nodes : List Int} {g : List GArc} {out rest : List Int} {l : List GThing} {kv fr : List (Int × Int)} {m : Int} (h : ordI nodes g out (m :: rest) l kv fr) : m ∉ out := fun hm => by
  have := h.outz m hm
  rw [count_cons_self', if_pos rfl] at this; omega
/-- it has more ahead of it -/
theorem ordI.step0 {nodes : List Int} {g : List GArc} {out rest : List Int} {l : List GThing} {kv fr : List (Int × Int)} {m : Int} (h : ordI nodes g out (m :: rest) l kv fr) (hz : (aget fr m).getD 0 - 1 ≠ 0) : ordI nodes g out rest l kv (aset fr m ((aget fr m).getD 0 - 1)) := by
  have hm := h.frStep m
  rw [aget_aset, if_pos rfl, Option.getD_some] at hm
  refine ⟨h.hp, h.ks, fun k => ?_, h.frStep, fun k hk => ?_, h.nd, h.sub, h.top, fun k hk => h.rs k (List.mem_cons_of_mem _ hk)⟩
  · have h1 := h.ids k
    rw [h1, count_cons_self']
    by_cases e : k = m
    · subst e
      rw [if_pos rfl]
      constructor
      · rintro ⟨_, _, h4⟩; omega
      · rintro ⟨_, _, h4⟩; omega
    · rw [if_neg e]; rfl
  · have h1 := h.outz k hk
    rw [count_cons_self'] at h1; omega
/-- it has nothing ahead of it any more -/
theorem ordI.step1 {nodes : List Int} {g : List GArc} {out rest : List Int} {l : List GThing} {kv fr : List (Int × Int)} {m : Int} (h : ordI nodes g out (m :: rest) l kv fr) (hz : (aget fr m).getD 0 - 1 = 0) :
    aget kv m = none ∧ ordI nodes g out rest (putF l kv ⟨m, 0, m⟩).1 (putF l kv ⟨m, 0, m⟩).2 (aset fr m ((aget fr m).getD 0 - 1)) := by
  have hm := h.frStep m
  rw [aget_aset, if_pos rfl, Option.getD_some] at hm
  have hn : aget kv m = none := h.noneAt (by
    rintro ⟨_, _, h4⟩
    rw [count_cons_self', if_pos rfl] at h4; omega)
  obtain ⟨p1, p2⟩ := put_new (x := ⟨m, 0, m⟩) h.hp hn
  refine ⟨hn, p1, fun y hy => ?_, fun k => ?_, h.frStep, fun k hk => ?_, h.nd, h.sub, h.top, fun k hk => h.rs k (List.mem_cons_of_mem _ hk)⟩
  · rcases List.mem_cons.1 (p2.mem_iff.1 hy) with rfl | hy
    · exact ⟨rfl, rfl⟩
    · exact h.ks y hy
  · rw [perm_ids p2, h.ids k, count_cons_self']
    by_cases e : k = m
    · subst e
      rw [if_pos rfl]
      constructor
      · intro _; exact ⟨h.rs k (List.mem_cons_self ..), h.notOut, by omega⟩
      · intro _; exact .inl rfl
    · rw [if_neg e]
      have : ¬ m = k := fun e2 => e e2.symm
      simp only [this, false_or, Nat.add_zero]
  · have h1 := h.outz k hk
    rw [count_cons_self'] at h1; omega
/-- the first nodes -/
structure ordS (nodes : List Int) (g : List GArc) (done : List Int) (l : List GThing) (kv : List (Int × Int)) : Prop where
  hp : hpR l kv
  ks : ∀ x ∈ l, x.key = 0 ∧ x.seq = x.id
  ids : ∀ m, (∃ x ∈ l, x.id = m) ↔ m ∈ done ∧ indeg g [] m = 0
theorem ordS_nil (nodes : List Int) (g : List GArc) : ordS nodes g [] [] [] := ⟨hpR_nil, fun x h => (by cases h), fun m => ⟨fun ⟨x, h, _⟩ => (by cases h), fun h => (by cases h.1)⟩⟩
theorem ordS.no {nodes : List Int} {g : List GArc} {done : List Int} {l : List GThing} {kv : List (Int × Int)} (h : ordS nodes g done l kv) {n : Int} (hz : ¬ indeg g [] n = 0) : ordS nodes g (done ++ [n]) l kv :=
  ⟨h.hp, h.ks, fun m => by
    rw [h.ids m, List.mem_append, List.mem_singleton]
    constructor
    · rintro ⟨a, b⟩; exact ⟨.inl a, b⟩
    · rintro ⟨a | a, b⟩
      · exact ⟨a, b⟩
      · subst a; exact absurd b hz⟩
theorem ordS.yes {nodes : List Int} {g : List GArc} {done : List Int} {l : List GThing} {kv : List (Int × Int)} (h : ordS nodes g done l kv) {n : Int} (hd : n ∉ done) (hz : indeg g [] n = 0) :
    aget kv n = none ∧ ordS nodes g (done ++ [n]) (putF l kv ⟨n, 0, n⟩).1 (putF l kv ⟨n, 0, n⟩).2 := by
  have hn : aget kv n = none := by
    cases hk : aget kv n with
    | none => rfl
    | some p => exact absurd ((h.ids n).1 ((h.hp.mem n).1 (by rw [hk]; rfl))).1 hd
  obtain ⟨p1, p2⟩ := put_new (x := ⟨n, 0, n⟩) h.hp hn
  refine ⟨hn, p1, fun y hy => ?_, fun m => ?_⟩
  · rcases List.mem_cons.1 (p2.mem_iff.1 hy) with rfl | hy
    · exact ⟨rfl, rfl⟩
    · exact h.ks y hy
  · rw [perm_ids p2, h.ids m, List.mem_append, List.mem_singleton]
    constructor
    · rintro (e | ⟨a, b⟩)
      · have e' : n = m := e
        subst e'; exact ⟨.inr rfl, hz⟩
      · exact ⟨.inl a, b⟩
    · rintro ⟨a | a, b⟩
      · exact .inr ⟨a, b⟩
      · exact .inl a.symm
theorem ordS.go {nodes : List Int} {g : List GArc} {l : List GThing} {kv fr : List (Int × Int)} (h : ordS nodes g nodes l kv) (hf : ∀ n, (aget fr n).getD 0 = (indeg g [] n : Int)) : ordI nodes g [] [] l kv fr :=
  ⟨h.hp, h.ks, fun m => by rw [h.ids m]; simp, fun m => by rw [hf m]; simp, fun m hm => (by cases hm), List.nodup_nil, fun m hm => (by cases hm), rfl, fun m hm => (by cases hm)⟩
theorem ordS.len {nodes : List Int} {g : List GArc} {done : List Int} {l : List GThing} {kv : List (Int × Int)} (h : ordS nodes g done l kv) : l.length ≤ done.length := by
  have := nodup_sub_length (hp_ids_nodup h.hp.2) (m := done) fun x hx => by
    obtain ⟨y, hy, e⟩ := List.mem_map.1 hx
    exact ((h.ids x).1 ⟨y, hy, e⟩).1
  simpa using this
end Go.Proofs.Ytlkmcdijioiddaa
