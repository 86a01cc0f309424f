/- slices.Sort at lists of numbers: the shelf's contract, in the words of the walk. Not a proof of any statement by itself. -/
import Derived.Shelf.Sort.Plain
import Derived.Shelf.Slices.In.SortNone
import Derived.Ground.Names2Prog
import Derived.Test.YtlkmcdijioiddaaProg
import Derived.Test.YtlkmcdijioiddaaMore
namespace Go.Proofs.Ytlkmcdijioiddaa
open Go.Shelf Go.RowKit Go.Sort
set_option linter.unusedVariables false
set_option linter.unusedSimpArgs false
def laysSort_ren : Go.Shelf.Ren := ⟨fun | 189 => 78 | 125 => 117 | 257 => 116 | 128 => 146 | 129 => 147 | 294 => 137 | 295 => 138 | 296 => 139 | 297 => 140 | 298 => 141 | 299 => 142 | 216 => 143 | 300 => 144 | 301 => 145 | 328 => 159 | 329 => 160 | 330 => 161 | 331 => 162 | 332 => 163 | 215 => 164 | 343 => 170 | n => n, fun | 28 => 27 | 3 => 3 | 46 => 189 | 0 => 0 | 51 => 214 | 53 => 63 | 4 => 4 | 183 => 207 | 182 => 206 | 131 => 123 | 5 => 5 | 9 => 9 | 218 => 227 | 222 => 231 | 228 => 234 | 229 => 235 | n => n, fun | n => n⟩
theorem laysSort : Go.Proofs.Lays.n189 Try.prog laysSort_ren := {
  mixed := by kernel_rfl
  f125 := Try.func117.trans (congrArg some (by kernel_rfl))
  f128 := Try.func146.trans (congrArg some (by kernel_rfl))
  f129 := Try.func147.trans (congrArg some (by kernel_rfl))
  f189 := Try.func78.trans (congrArg some (by kernel_rfl))
  f215 := Try.func164.trans (congrArg some (by kernel_rfl))
  f216 := Try.func143.trans (congrArg some (by kernel_rfl))
  f257 := Try.func116.trans (congrArg some (by kernel_rfl))
  f294 := Try.func137.trans (congrArg some (by kernel_rfl))
  f295 := Try.func138.trans (congrArg some (by kernel_rfl))
  f296 := Try.func139.trans (congrArg some (by kernel_rfl))
  f297 := Try.func140.trans (congrArg some (by kernel_rfl))
  f298 := Try.func141.trans (congrArg some (by kernel_rfl))
  f299 := Try.func142.trans (congrArg some (by kernel_rfl))
  f300 := Try.func144.trans (congrArg some (by kernel_rfl))
  f301 := Try.func145.trans (congrArg some (by kernel_rfl))
  f328 := Try.func159.trans (congrArg some (by kernel_rfl))
  f329 := Try.func160.trans (congrArg some (by kernel_rfl))
  f330 := Try.func161.trans (congrArg some (by kernel_rfl))
  f331 := Try.func162.trans (congrArg some (by kernel_rfl))
  f332 := Try.func163.trans (congrArg some (by kernel_rfl))
  f343 := Try.func170.trans (congrArg some (by kernel_rfl))
  t0 := Try.underlying0
  a0 := Try.isAgg0
  z0 := Try.sizeOf0
  v0 := Try.zeroValue0
  t3 := Try.underlying3
  a3 := Try.isAgg3
  z3 := Try.sizeOf3
  v3 := Try.zeroValue3
  t4 := Try.underlying4
  a4 := Try.isAgg4
  z4 := Try.sizeOf4
  v4 := Try.zeroValue4
  t5 := Try.underlying5
  a5 := Try.isAgg5
  z5 := Try.sizeOf5
  v5 := Try.zeroValue5
  t9 := Try.underlying9
  a9 := Try.isAgg9
  z9 := Try.sizeOf9
  v9 := Try.zeroValue9
  t28 := Try.underlying27
  a28 := Try.isAgg27
  z28 := Try.sizeOf27
  v28 := Try.zeroValue27
  t46 := Try.underlying189
  a46 := Try.isAgg189
  z46 := Try.sizeOf189
  v46 := Try.zeroValue189
  t51 := Try.underlying214
  a51 := Try.isAgg214
  z51 := Try.sizeOf214
  v51 := Try.zeroValue214
  t53 := Try.underlying63
  a53 := Try.isAgg63
  z53 := Try.sizeOf63
  v53 := Try.zeroValue63
  t131 := Try.underlying123
  a131 := Try.isAgg123
  z131 := Try.sizeOf123
  v131 := Try.zeroValue123
  t182 := Try.underlying206
  a182 := Try.isAgg206
  z182 := Try.sizeOf206
  v182 := Try.zeroValue206
  t183 := Try.underlying207
  a183 := Try.isAgg207
  z183 := Try.sizeOf207
  v183 := Try.zeroValue207
  t218 := Try.underlying227
  a218 := Try.isAgg227
  z218 := Try.sizeOf227
  v218 := Try.zeroValue227
  t222 := Try.underlying231
  a222 := Try.isAgg231
  z222 := Try.sizeOf231
  v222 := Try.zeroValue231
  t228 := Try.underlying234
  a228 := Try.isAgg234
  z228 := Try.sizeOf234
  v228 := Try.zeroValue234
  t229 := Try.underlying235
  a229 := Try.isAgg235
  z229 := Try.sizeOf235
  v229 := Try.zeroValue235 }
def msort (l : List Int) : List Int := l.mergeSort fun x y => decide (x ≤ y)
theorem msort_length (l : List Int) : (msort l).length = l.length := by simp [msort]
theorem flat_int : ∀ l : List Int, flat TInt l = l.map (Value.int .i64)
  | [] => rfl
  | x :: r => by simp only [flat, List.map_cons, flat_int r]; rfl
theorem row_sats {E : Env} {w : World} {e : TypeId} {s : Sl Int} {F : List HP} {n : Nat} {os : Array Obj} {g : Nat} (ys : List Int) (hl : ys.length = s.xs.length) (hy : ∀ y ∈ ys, y ∈ s.xs ∨ y = 0) (hA : s.A = some ⟨g, 0, none⟩) (hs : sats E w (Own TInt e s :: F)) :
    sats E (grow (putRow (Value.int .i64) (Sort.ahead w n) g 0 ys.toArray) os) (Own TInt e ⟨s.A, s.c, ys⟩ :: F) := by
  obtain ⟨en, hs', x1⟩ := hs
  obtain ⟨hh, tt, rfl, ⟨h1, h2, h3, h4, h5⟩, sb, c, x2⟩ := satsL_cons x1
  rcases h5 with ⟨h6, h7⟩ | ⟨g', cs, h6, h7, h8, h9⟩
  · rw [h6] at hA; cases hA
  · rw [hA] at h6
    have hg : g' = g := by simpa using h6.symm
    subst hg
    have hb := sb _ _ _ h7
    have hlt : g' < w.heap.size := (Array.getElem?_eq_some_iff.1 hb).1
    have hsz : s.xs.length ≤ cs.size := by rw [h8]; show s.xs.length ≤ s.c * 1; omega
    have key : ∀ (k : Nat), k ≠ g' → ∀ (o : Obj), w.heap[k]? = some o → (grow (putRow (Value.int .i64) (Sort.ahead w n) g' 0 ys.toArray) os).heap[k]? = some o := by
      intro k hk o ho
      have hk' : k < w.heap.size := (Array.getElem?_eq_some_iff.1 ho).1
      rw [heap_grow_old _ _ (by simpa using hk')]
      have hne : g' ≠ k := fun e => hk e.symm
      simpa [putRow, mapBlock, Sort.ahead, Array.getElem?_modify, hne] using ho
    have hbn : (grow (putRow (Value.int .i64) (Sort.ahead w n) g' 0 ys.toArray) os).heap[g']? = some (.cells (putCells (Value.int .i64) 0 ys.toArray cs) e (0, 0)) := by
      rw [heap_grow_old _ _ (by simpa using hlt)]
      simp [putRow, mapBlock, Sort.ahead, Array.getElem?_modify, hb, onCells]
    refine ⟨⟨en.1, en.2.1, en.2.2⟩, (fun k => if k = g' then some (.cells (putCells (Value.int .i64) 0 ys.toArray cs) e (0, 0), false) else immP hh k) :: tt, ?_, ?_, ?_, satsL_frame h7 c key x2⟩
    · refine ⟨by show ys.length ≤ _; rw [hl]; exact h1, h2, by show ys.length ≤ _; rw [hl]; exact h3, ?_, .inr ⟨g', _, hA, by simp; rfl, ?_, ?_⟩⟩
      · intro y hy1
        rcases hy y hy1 with h | h
        · exact h4 y h
        · subst h; exact ⟨by omega, by omega⟩
      · simpa [putCells] using h8
      · rw [flat_int]
        show List.take (ys.length * 1) _ = _
        rw [Nat.mul_one]
        apply List.ext_getElem?
        intro j
        by_cases hj : j < ys.length
        · rw [List.getElem?_take_of_lt hj, Array.getElem?_toList]
          have : j < cs.size := by rw [hl] at hj; omega
          simp [putCells, hj, this]
        · rw [List.getElem?_take_eq_none (by omega), List.getElem?_eq_none (by simp; omega)]
    · intro k o bb hk
      by_cases hkg : k = g'
      · subst hkg; simp only [if_true, Option.some.injEq, Prod.mk.injEq] at hk; rw [← hk.1]; exact hbn
      · simp only [if_neg hkg] at hk
        exact key k hkg _ (sb _ _ _ (immP_some hk).1)
    · intro q hq k o b o2 b2 hk hk2
      by_cases hkg : k = g'
      · subst hkg; exact absurd (c q hq _ _ _ _ _ h7 hk2).1 (by simp)
      · simp only [if_neg hkg] at hk
        obtain ⟨hk3, rfl⟩ := immP_some hk
        exact c q hq _ _ _ _ _ hk3 hk2
theorem sort_sats {E : Env} {w : World} {e : TypeId} {s : Sl Int} {F : List HP} {n : Nat} {os : Array Obj} {g : Nat} (hA : s.A = some ⟨g, 0, none⟩) (hs : sats E w (Own TInt e s :: F)) :
    sats E (grow (putRow (Value.int .i64) (Sort.ahead w n) g 0 (msort s.xs).toArray) os) (Own TInt e ⟨s.A, s.c, msort s.xs⟩ :: F) :=
  row_sats _ (msort_length _) (fun y hy => .inl (by have := (List.mergeSort_perm s.xs fun x y => decide (x ≤ y)).mem_iff (a := y); exact this.1 hy)) hA hs
theorem S_slices_Sort (s : Sl Int) (e : TypeId) : Fn Try.prog 78 [s.val] [Own TInt e s] (fun v_ S_ => v_ = .tuple #[] ∧ S_ [Own TInt e ⟨s.A, s.c, msort s.xs⟩]) := by
  refine ⟨callable_of Try.func78 rfl rfl, fun E w F hs => ?_⟩
  have hs0 := hs
  obtain ⟨en, hs', x1⟩ := hs0
  obtain ⟨hh, tt, rfl, ⟨h1, h2, h3, h4, h5⟩, sb, c, x2⟩ := satsL_cons x1
  rcases h5 with ⟨h6, h7⟩ | ⟨g, cs, h6, h7, h8, h9⟩
  · have hx : s.xs = [] := List.eq_nil_of_length_eq_zero (by omega)
    have hc := Any.slices_Sort_int_none laysSort s.A s.c w
    have e1 : s.val = .slice s.A 0 s.c := by unfold Sl.val; rw [hx]; rfl
    rw [e1]
    refine Calls.mono hc ?_
    rintro ex w' ⟨rfl, rfl⟩
    refine ⟨_, rfl, rfl, ?_⟩
    have e2 : (⟨s.A, s.c, msort s.xs⟩ : Sl Int) = s := by
      obtain ⟨A, c', xs⟩ := s
      simp only at hx; subst hx; simp [msort]
    rw [e2]; exact hs
  · have hb := sb _ _ _ h7
    have hlt : g < w.heap.size := (Array.getElem?_eq_some_iff.1 hb).1
    have hH : Holds (Value.int .i64) w g 0 s.xs.toArray := by
      intro j hj
      have hj' : j < s.xs.length := by simpa using hj
      refine ⟨?_, by simp [World.frozen?, hb]⟩
      rw [flat_int] at h9
      have h10 : (cs.toList.take (s.xs.length * 1))[j]? = (s.xs.map (Value.int .i64))[j]? := by rw [← h9]; rfl
      rw [Nat.mul_one, List.getElem?_take_of_lt hj'] at h10
      simp only [World.cell?, hb, Nat.zero_add]
      simp only [Option.isSome_none, Bool.false_eq_true, if_false]
      rw [← Array.getElem?_toList, h10]
      simp [hj']
    have hc := Any.slices_Sort_int laysSort g 0 s.c s.xs w hH hlt (by have := big_is; omega)
    have e1 : s.val = .slice (some ⟨g, 0, none⟩) s.xs.length s.c := by unfold Sl.val; rw [h6]
    rw [e1]
    refine Calls.mono hc ?_
    rintro ex w' ⟨rfl, n, os, rfl⟩
    exact ⟨_, rfl, rfl, sort_sats h6 hs⟩
end Go.Proofs.Ytlkmcdijioiddaa
