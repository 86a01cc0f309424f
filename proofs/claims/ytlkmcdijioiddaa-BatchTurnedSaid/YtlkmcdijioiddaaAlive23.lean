/- What 'alive' of layer 23 asks, reckoned. Plain. Not a proof of any statement by itself. -/
import Derived.Test.YtlkmcdijioiddaaBatchW
import Derived.Test.YtlkmcdijioiddaaL23W
namespace Go.Proofs.Ytlkmcdijioiddaa
set_option linter.unusedVariables false
set_option linter.unusedSimpArgs false
def spec0 (id : Int) (a : Sl Int) : GSpec := ⟨id, 0, 0, 0, ⟨0, 0⟩, ⟨0, 0⟩, a⟩
def lit1 (b : Nat) (k : Int) : Sl Int := ⟨some ⟨b, 0, none⟩, 1, [k]⟩
theorem setOf_eq {l m : List Int} (hm : rising m) (h : ∀ x, x ∈ l ↔ x ∈ m) : setOf l = m := rising_ext (setOf_rising l) hm fun x => mem_setOf.trans (h x)
theorem rising12 : rising [1, 2] := by unfold rising; simp
theorem set12 : setOf [1, 2] = [1, 2] := setOf_eq rising12 fun x => Iff.rfl
theorem set21 : setOf [2, 1] = [1, 2] := setOf_eq rising12 fun x => by simp; omega
theorem ord21 (a : Nat) : orderF [spec0 2 (lit1 a 1), spec0 1 Sl.nil] = [1, 2] := by
  unfold orderF
  rw [show setOf (List.map (fun x => x.ID) [spec0 2 (lit1 a 1), spec0 1 Sl.nil]) = [1, 2] from set21]; rfl
theorem ord12 (a : Nat) : orderF [spec0 1 Sl.nil, spec0 2 (lit1 a 1)] = [1, 2] := by
  unfold orderF
  rw [show setOf (List.map (fun x => x.ID) [spec0 1 Sl.nil, spec0 2 (lit1 a 1)]) = [1, 2] from set12]; rfl
theorem ordRing (a b : Nat) : orderF [spec0 1 (lit1 b 2), spec0 2 (lit1 a 1)] = [] := by
  unfold orderF
  rw [show setOf (List.map (fun x => x.ID) [spec0 1 (lit1 b 2), spec0 2 (lit1 a 1)]) = [1, 2] from set12]; rfl
theorem chk1 (a : Nat) : checkB 2 [] [spec0 1 Sl.nil, spec0 2 (lit1 a 1)] = 0 := by
  unfold checkB
  rw [ord12, show setOf (List.map (·.ID) [spec0 1 Sl.nil, spec0 2 (lit1 a 1)]) = [1, 2] from set12]; rfl
theorem chk2 (a : Nat) : checkB 1 [] [spec0 1 Sl.nil, spec0 2 (lit1 a 1)] = 9 := by
  unfold checkB
  rw [ord12, show setOf (List.map (·.ID) [spec0 1 Sl.nil, spec0 2 (lit1 a 1)]) = [1, 2] from set12]; rfl
theorem chk3 (a b : Nat) : checkB 2 [] [spec0 1 (lit1 b 2), spec0 2 (lit1 a 1)] = 8 := by
  unfold checkB
  rw [ordRing, show setOf (List.map (·.ID) [spec0 1 (lit1 b 2), spec0 2 (lit1 a 1)]) = [1, 2] from set12]; rfl
theorem free1 (a : Nat) : freeF [] [spec0 2 (lit1 a 1), spec0 1 Sl.nil] = [1] := rfl
theorem ok0 {id : Int} (h : inI64 id) (M : MH) : TSpec.ok M (spec0 id Sl.nil) := ⟨h, k0, ⟨by show (0 : Int) ≤ 0; omega, by show (0 : Int) ≤ _; omega⟩, ⟨by show (0 : Int) ≤ 0; omega, by show (0 : Int) ≤ _; omega⟩, ⟨k0, k0⟩, ⟨k0, k0⟩, rd_nilT TInt M⟩
theorem ok1 {id : Int} (h : inI64 id) {a : Sl Int} {M : MH} (hr : Rd TInt a M) : TSpec.ok M (spec0 id a) := ⟨h, k0, ⟨by show (0 : Int) ≤ 0; omega, by show (0 : Int) ≤ _; omega⟩, ⟨by show (0 : Int) ≤ 0; omega, by show (0 : Int) ≤ _; omega⟩, ⟨k0, k0⟩, ⟨k0, k0⟩, hr⟩
theorem k2 : inI64 2 := ⟨by omega, by omega⟩
theorem in1 {z : Int} (h : z ∈ [(1 : Int)]) : inI64 z := by simp at h; subst h; exact k1
theorem in2 {z : Int} (h : z ∈ [(2 : Int)]) : inI64 z := by simp at h; subst h; exact k2
theorem in12 {z : Int} (h : z ∈ [(1 : Int), 2]) : inI64 z := by
  simp at h; rcases h with rfl | rfl
  · exact k1
  · exact k2
theorem oks21 {a : Nat} {M : MH} (h : Rd TInt (lit1 a 1) M) : ∀ y ∈ [spec0 2 (lit1 a 1), spec0 1 Sl.nil], TSpec.ok M y := by
  intro y hy; simp at hy; rcases hy with rfl | rfl
  · exact ok1 k2 h
  · exact ok0 k1 M
theorem oks12 {a : Nat} {M : MH} (h : Rd TInt (lit1 a 1) M) : ∀ y ∈ [spec0 1 Sl.nil, spec0 2 (lit1 a 1)], TSpec.ok M y := by
  intro y hy; simp at hy; rcases hy with rfl | rfl
  · exact ok0 k1 M
  · exact ok1 k2 h
theorem oksR {a b : Nat} {M : MH} (h : Rd TInt (lit1 a 1) M) (h' : Rd TInt (lit1 b 2) M) : ∀ y ∈ [spec0 1 (lit1 b 2), spec0 2 (lit1 a 1)], TSpec.ok M y := by
  intro y hy; simp at hy; rcases hy with rfl | rfl
  · exact ok1 k1 h'
  · exact ok1 k2 h
theorem len2 {x : GSpec} {n : Nat} {p q : GSpec} (hn : 1 < n) (hp : p.After.xs.length ≤ 1) (hq : q.After.xs.length ≤ 1) (h : x ∈ [p, q]) : x.After.xs.length < n := by
  simp at h; rcases h with rfl | rfl <;> omega
end Go.Proofs.Ytlkmcdijioiddaa
