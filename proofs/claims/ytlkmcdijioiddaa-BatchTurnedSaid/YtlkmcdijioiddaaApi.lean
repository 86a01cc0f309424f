/- The structs of the program, as kinds of things that lie in lists. Printed by a program of this project (wip/api.py). Not a proof of any statement by itself. -/
import Derived.Test.YtlkmcdijioiddaaDraw
namespace Go.Proofs.Ytlkmcdijioiddaa
open Go.RowKit
set_option linter.unusedVariables false
set_option linter.unusedSimpArgs false
def inU64 (x : Int) : Prop := 0 ≤ x ∧ x ≤ 18446744073709551615
structure GPoint where
  X : Int
  Y : Int
def encPoint (x : GPoint) : List Value := [.int .i64 x.X, .int .i64 x.Y]
def okPoint (M : MH) (x : GPoint) : Prop := inI64 x.X ∧ inI64 x.Y
theorem okPoint_mono {M M' : MH} {x : GPoint} (m : MLe M M') (h : okPoint M x) : okPoint M' x := by
  obtain ⟨h0, h1⟩ := h; exact ⟨h0, h1⟩
theorem encPoint_one : ∀ (x : GPoint), ∀ v ∈ encPoint x, v.oneCell' = true := by
  intro x v h; simp only [encPoint, List.mem_append, List.mem_cons, List.not_mem_nil, or_false, or_assoc] at h
  rcases h with rfl | rfl
  all_goals rfl
def TPoint : Ty GPoint := ⟨2, encPoint, okPoint, fun _ => rfl, encPoint_one, fun _ _ _ m h => okPoint_mono m h⟩
structure GSpec where
  ID : Int
  Prio : Int
  Skill : Int
  Gear : Int
  From : GPoint
  To : GPoint
  After : Sl Int
def encSpec (x : GSpec) : List Value := [.int .i64 x.ID, .int .i64 x.Prio, .int .u64 x.Skill, .int .u64 x.Gear] ++ encPoint x.From ++ encPoint x.To ++ [x.After.val]
def okSpec (M : MH) (x : GSpec) : Prop := inI64 x.ID ∧ inI64 x.Prio ∧ inU64 x.Skill ∧ inU64 x.Gear ∧ okPoint M x.From ∧ okPoint M x.To ∧ Rd TInt x.After M
theorem okSpec_mono {M M' : MH} {x : GSpec} (m : MLe M M') (h : okSpec M x) : okSpec M' x := by
  obtain ⟨h0, h1, h2, h3, h4, h5, h6⟩ := h; exact ⟨h0, h1, h2, h3, okPoint_mono m h4, okPoint_mono m h5, h6.mono m⟩
theorem encSpec_one : ∀ (x : GSpec), ∀ v ∈ encSpec x, v.oneCell' = true := by
  intro x v h; simp only [encSpec, encPoint, List.mem_append, List.mem_cons, List.not_mem_nil, or_false, or_assoc] at h
  rcases h with rfl | rfl | rfl | rfl | rfl | rfl | rfl | rfl | rfl
  all_goals rfl
def TSpec : Ty GSpec := ⟨9, encSpec, okSpec, fun _ => rfl, encSpec_one, fun _ _ _ m h => okSpec_mono m h⟩
structure GTask where
  Spec : GSpec
  Status : Int
  Seq : Int
  Since : Int
  Lost : Int
  Burnt : Sl Int
def encTask (x : GTask) : List Value := encSpec x.Spec ++ [.int .i64 x.Status, .int .i64 x.Seq, .int .i64 x.Since, .int .i64 x.Lost, x.Burnt.val]
def okTask (M : MH) (x : GTask) : Prop := okSpec M x.Spec ∧ inI64 x.Status ∧ inI64 x.Seq ∧ inI64 x.Since ∧ inI64 x.Lost ∧ Rd TInt x.Burnt M
theorem okTask_mono {M M' : MH} {x : GTask} (m : MLe M M') (h : okTask M x) : okTask M' x := by
  obtain ⟨h0, h1, h2, h3, h4, h5⟩ := h; exact ⟨okSpec_mono m h0, h1, h2, h3, h4, h5.mono m⟩
theorem encTask_one : ∀ (x : GTask), ∀ v ∈ encTask x, v.oneCell' = true := by
  intro x v h; simp only [encTask, encPoint, encSpec, List.mem_append, List.mem_cons, List.not_mem_nil, or_false, or_assoc] at h
  rcases h with rfl | rfl | rfl | rfl | rfl | rfl | rfl | rfl | rfl | rfl | rfl | rfl | rfl | rfl
  all_goals rfl
def TTask : Ty GTask := ⟨14, encTask, okTask, fun _ => rfl, encTask_one, fun _ _ _ m h => okTask_mono m h⟩
structure GAisle where
  ID : Int
  Low : GPoint
  High : GPoint
def encAisle (x : GAisle) : List Value := [.int .i64 x.ID] ++ encPoint x.Low ++ encPoint x.High
def okAisle (M : MH) (x : GAisle) : Prop := inI64 x.ID ∧ okPoint M x.Low ∧ okPoint M x.High
theorem okAisle_mono {M M' : MH} {x : GAisle} (m : MLe M M') (h : okAisle M x) : okAisle M' x := by
  obtain ⟨h0, h1, h2⟩ := h; exact ⟨h0, okPoint_mono m h1, okPoint_mono m h2⟩
theorem encAisle_one : ∀ (x : GAisle), ∀ v ∈ encAisle x, v.oneCell' = true := by
  intro x v h; simp only [encAisle, encPoint, List.mem_append, List.mem_cons, List.not_mem_nil, or_false, or_assoc] at h
  rcases h with rfl | rfl | rfl | rfl | rfl
  all_goals rfl
def TAisle : Ty GAisle := ⟨5, encAisle, okAisle, fun _ => rfl, encAisle_one, fun _ _ _ m h => okAisle_mono m h⟩
structure GRules where
  Tasks : Int
  Crew : Int
  Units : Int
  Lease : Int
  Tries : Int
  Rate : Int
  Start : Int
  Aisles : Sl GAisle
def encRules (x : GRules) : List Value := [.int .i64 x.Tasks, .int .i64 x.Crew, .int .i64 x.Units, .int .i64 x.Lease, .int .i64 x.Tries, .int .i64 x.Rate, .int .i64 x.Start, x.Aisles.val]
def okRules (M : MH) (x : GRules) : Prop := inI64 x.Tasks ∧ inI64 x.Crew ∧ inI64 x.Units ∧ inI64 x.Lease ∧ inI64 x.Tries ∧ inI64 x.Rate ∧ inI64 x.Start ∧ Rd TAisle x.Aisles M
theorem okRules_mono {M M' : MH} {x : GRules} (m : MLe M M') (h : okRules M x) : okRules M' x := by
  obtain ⟨h0, h1, h2, h3, h4, h5, h6, h7⟩ := h; exact ⟨h0, h1, h2, h3, h4, h5, h6, h7.mono m⟩
theorem encRules_one : ∀ (x : GRules), ∀ v ∈ encRules x, v.oneCell' = true := by
  intro x v h; simp only [encRules, List.mem_append, List.mem_cons, List.not_mem_nil, or_false, or_assoc] at h
  rcases h with rfl | rfl | rfl | rfl | rfl | rfl | rfl | rfl
  all_goals rfl
def TRules : Ty GRules := ⟨8, encRules, okRules, fun _ => rfl, encRules_one, fun _ _ _ m h => okRules_mono m h⟩
structure GHand where
  ID : Int
  Bits : Int
  On : Bool
def encHand (x : GHand) : List Value := [.int .i64 x.ID, .int .u64 x.Bits, .bool x.On]
def okHand (M : MH) (x : GHand) : Prop := inI64 x.ID ∧ inU64 x.Bits
theorem okHand_mono {M M' : MH} {x : GHand} (m : MLe M M') (h : okHand M x) : okHand M' x := by
  obtain ⟨h0, h1⟩ := h; exact ⟨h0, h1⟩
theorem encHand_one : ∀ (x : GHand), ∀ v ∈ encHand x, v.oneCell' = true := by
  intro x v h; simp only [encHand, List.mem_append, List.mem_cons, List.not_mem_nil, or_false, or_assoc] at h
  rcases h with rfl | rfl | rfl
  all_goals rfl
def THand : Ty GHand := ⟨3, encHand, okHand, fun _ => rfl, encHand_one, fun _ _ _ m h => okHand_mono m h⟩
structure GLease where
  Token : Int
  Task : Int
  Worker : Int
  Unit : Int
  Due : Int
  Got : Int
  Want : Sl Int
def encLease (x : GLease) : List Value := [.int .i64 x.Token, .int .i64 x.Task, .int .i64 x.Worker, .int .i64 x.Unit, .int .i64 x.Due, .int .i64 x.Got, x.Want.val]
def okLease (M : MH) (x : GLease) : Prop := inI64 x.Token ∧ inI64 x.Task ∧ inI64 x.Worker ∧ inI64 x.Unit ∧ inI64 x.Due ∧ inI64 x.Got ∧ Rd TInt x.Want M
theorem okLease_mono {M M' : MH} {x : GLease} (m : MLe M M') (h : okLease M x) : okLease M' x := by
  obtain ⟨h0, h1, h2, h3, h4, h5, h6⟩ := h; exact ⟨h0, h1, h2, h3, h4, h5, h6.mono m⟩
theorem encLease_one : ∀ (x : GLease), ∀ v ∈ encLease x, v.oneCell' = true := by
  intro x v h; simp only [encLease, List.mem_append, List.mem_cons, List.not_mem_nil, or_false, or_assoc] at h
  rcases h with rfl | rfl | rfl | rfl | rfl | rfl | rfl
  all_goals rfl
def TLease : Ty GLease := ⟨7, encLease, okLease, fun _ => rfl, encLease_one, fun _ _ _ m h => okLease_mono m h⟩
structure GLock where
  ID : Int
  Holder : Int
  Wait : Sl Int
def encLock (x : GLock) : List Value := [.int .i64 x.ID, .int .i64 x.Holder, x.Wait.val]
def okLock (M : MH) (x : GLock) : Prop := inI64 x.ID ∧ inI64 x.Holder ∧ Rd TInt x.Wait M
theorem okLock_mono {M M' : MH} {x : GLock} (m : MLe M M') (h : okLock M x) : okLock M' x := by
  obtain ⟨h0, h1, h2⟩ := h; exact ⟨h0, h1, h2.mono m⟩
theorem encLock_one : ∀ (x : GLock), ∀ v ∈ encLock x, v.oneCell' = true := by
  intro x v h; simp only [encLock, List.mem_append, List.mem_cons, List.not_mem_nil, or_false, or_assoc] at h
  rcases h with rfl | rfl | rfl
  all_goals rfl
def TLock : Ty GLock := ⟨3, encLock, okLock, fun _ => rfl, encLock_one, fun _ _ _ m h => okLock_mono m h⟩
structure GState where
  Now : Int
  Seq : Int
  Token : Int
  Tasks : Sl GTask
  Crew : Sl GHand
  Units : Sl GHand
  Leases : Sl GLease
  Locks : Sl GLock
def encState (x : GState) : List Value := [.int .i64 x.Now, .int .i64 x.Seq, .int .i64 x.Token, x.Tasks.val, x.Crew.val, x.Units.val, x.Leases.val, x.Locks.val]
def okState (M : MH) (x : GState) : Prop := inI64 x.Now ∧ inI64 x.Seq ∧ inI64 x.Token ∧ Rd TTask x.Tasks M ∧ Rd THand x.Crew M ∧ Rd THand x.Units M ∧ Rd TLease x.Leases M ∧ Rd TLock x.Locks M
theorem okState_mono {M M' : MH} {x : GState} (m : MLe M M') (h : okState M x) : okState M' x := by
  obtain ⟨h0, h1, h2, h3, h4, h5, h6, h7⟩ := h; exact ⟨h0, h1, h2, h3.mono m, h4.mono m, h5.mono m, h6.mono m, h7.mono m⟩
theorem encState_one : ∀ (x : GState), ∀ v ∈ encState x, v.oneCell' = true := by
  intro x v h; simp only [encState, List.mem_append, List.mem_cons, List.not_mem_nil, or_false, or_assoc] at h
  rcases h with rfl | rfl | rfl | rfl | rfl | rfl | rfl | rfl
  all_goals rfl
def TState : Ty GState := ⟨8, encState, okState, fun _ => rfl, encState_one, fun _ _ _ m h => okState_mono m h⟩
structure GCmd where
  Kind : Int
  ID : Int
  Bits : Int
  Batch : Sl GSpec
def encCmd (x : GCmd) : List Value := [.int .i64 x.Kind, .int .i64 x.ID, .int .u64 x.Bits, x.Batch.val]
def okCmd (M : MH) (x : GCmd) : Prop := inI64 x.Kind ∧ inI64 x.ID ∧ inU64 x.Bits ∧ Rd TSpec x.Batch M
theorem okCmd_mono {M M' : MH} {x : GCmd} (m : MLe M M') (h : okCmd M x) : okCmd M' x := by
  obtain ⟨h0, h1, h2, h3⟩ := h; exact ⟨h0, h1, h2, h3.mono m⟩
theorem encCmd_one : ∀ (x : GCmd), ∀ v ∈ encCmd x, v.oneCell' = true := by
  intro x v h; simp only [encCmd, List.mem_append, List.mem_cons, List.not_mem_nil, or_false, or_assoc] at h
  rcases h with rfl | rfl | rfl | rfl
  all_goals rfl
def TCmd : Ty GCmd := ⟨4, encCmd, okCmd, fun _ => rfl, encCmd_one, fun _ _ _ m h => okCmd_mono m h⟩
structure GEvent where
  Kind : Int
  A : Int
  B : Int
  C : Int
  D : Int
def encEvent (x : GEvent) : List Value := [.int .i64 x.Kind, .int .i64 x.A, .int .i64 x.B, .int .i64 x.C, .int .i64 x.D]
def okEvent (M : MH) (x : GEvent) : Prop := inI64 x.Kind ∧ inI64 x.A ∧ inI64 x.B ∧ inI64 x.C ∧ inI64 x.D
theorem okEvent_mono {M M' : MH} {x : GEvent} (m : MLe M M') (h : okEvent M x) : okEvent M' x := by
  obtain ⟨h0, h1, h2, h3, h4⟩ := h; exact ⟨h0, h1, h2, h3, h4⟩
theorem encEvent_one : ∀ (x : GEvent), ∀ v ∈ encEvent x, v.oneCell' = true := by
  intro x v h; simp only [encEvent, List.mem_append, List.mem_cons, List.not_mem_nil, or_false, or_assoc] at h
  rcases h with rfl | rfl | rfl | rfl | rfl
  all_goals rfl
def TEvent : Ty GEvent := ⟨5, encEvent, okEvent, fun _ => rfl, encEvent_one, fun _ _ _ m h => okEvent_mono m h⟩
structure GArc where
  From : Int
  To : Int
def encArc (x : GArc) : List Value := [.int .i64 x.From, .int .i64 x.To]
def okArc (M : MH) (x : GArc) : Prop := inI64 x.From ∧ inI64 x.To
theorem okArc_mono {M M' : MH} {x : GArc} (m : MLe M M') (h : okArc M x) : okArc M' x := by
  obtain ⟨h0, h1⟩ := h; exact ⟨h0, h1⟩
theorem encArc_one : ∀ (x : GArc), ∀ v ∈ encArc x, v.oneCell' = true := by
  intro x v h; simp only [encArc, List.mem_append, List.mem_cons, List.not_mem_nil, or_false, or_assoc] at h
  rcases h with rfl | rfl
  all_goals rfl
def TArc : Ty GArc := ⟨2, encArc, okArc, fun _ => rfl, encArc_one, fun _ _ _ m h => okArc_mono m h⟩
structure GItem where
  ID : Int
  Prio : Int
  Since : Int
  Seq : Int
def encItem (x : GItem) : List Value := [.int .i64 x.ID, .int .i64 x.Prio, .int .i64 x.Since, .int .i64 x.Seq]
def okItem (M : MH) (x : GItem) : Prop := inI64 x.ID ∧ inI64 x.Prio ∧ inI64 x.Since ∧ inI64 x.Seq
theorem okItem_mono {M M' : MH} {x : GItem} (m : MLe M M') (h : okItem M x) : okItem M' x := by
  obtain ⟨h0, h1, h2, h3⟩ := h; exact ⟨h0, h1, h2, h3⟩
theorem encItem_one : ∀ (x : GItem), ∀ v ∈ encItem x, v.oneCell' = true := by
  intro x v h; simp only [encItem, List.mem_append, List.mem_cons, List.not_mem_nil, or_false, or_assoc] at h
  rcases h with rfl | rfl | rfl | rfl
  all_goals rfl
def TItem : Ty GItem := ⟨4, encItem, okItem, fun _ => rfl, encItem_one, fun _ _ _ m h => okItem_mono m h⟩
structure GThing where
  id : Int
  key : Int
  seq : Int
def encThing (x : GThing) : List Value := [.int .i64 x.id, .int .i64 x.key, .int .i64 x.seq]
def okThing (M : MH) (x : GThing) : Prop := inI64 x.id ∧ inI64 x.key ∧ inI64 x.seq
theorem okThing_mono {M M' : MH} {x : GThing} (m : MLe M M') (h : okThing M x) : okThing M' x := by
  obtain ⟨h0, h1, h2⟩ := h; exact ⟨h0, h1, h2⟩
theorem encThing_one : ∀ (x : GThing), ∀ v ∈ encThing x, v.oneCell' = true := by
  intro x v h; simp only [encThing, List.mem_append, List.mem_cons, List.not_mem_nil, or_false, or_assoc] at h
  rcases h with rfl | rfl | rfl
  all_goals rfl
def TThing : Ty GThing := ⟨3, encThing, okThing, fun _ => rfl, encThing_one, fun _ _ _ m h => okThing_mono m h⟩
structure GBounds where
  n : Int
  least : Int
  most : Int
def encBounds (x : GBounds) : List Value := [.int .i64 x.n, .int .i64 x.least, .int .i64 x.most]
def okBounds (M : MH) (x : GBounds) : Prop := inI64 x.n ∧ inI64 x.least ∧ inI64 x.most
theorem okBounds_mono {M M' : MH} {x : GBounds} (m : MLe M M') (h : okBounds M x) : okBounds M' x := by
  obtain ⟨h0, h1, h2⟩ := h; exact ⟨h0, h1, h2⟩
theorem encBounds_one : ∀ (x : GBounds), ∀ v ∈ encBounds x, v.oneCell' = true := by
  intro x v h; simp only [encBounds, List.mem_append, List.mem_cons, List.not_mem_nil, or_false, or_assoc] at h
  rcases h with rfl | rfl | rfl
  all_goals rfl
def TBounds : Ty GBounds := ⟨3, encBounds, okBounds, fun _ => rfl, encBounds_one, fun _ _ _ m h => okBounds_mono m h⟩
structure GGrant where
  Token : Int
  Aisle : Int
def encGrant (x : GGrant) : List Value := [.int .i64 x.Token, .int .i64 x.Aisle]
def okGrant (M : MH) (x : GGrant) : Prop := inI64 x.Token ∧ inI64 x.Aisle
theorem okGrant_mono {M M' : MH} {x : GGrant} (m : MLe M M') (h : okGrant M x) : okGrant M' x := by
  obtain ⟨h0, h1⟩ := h; exact ⟨h0, h1⟩
theorem encGrant_one : ∀ (x : GGrant), ∀ v ∈ encGrant x, v.oneCell' = true := by
  intro x v h; simp only [encGrant, List.mem_append, List.mem_cons, List.not_mem_nil, or_false, or_assoc] at h
  rcases h with rfl | rfl
  all_goals rfl
def TGrant : Ty GGrant := ⟨2, encGrant, okGrant, fun _ => rfl, encGrant_one, fun _ _ _ m h => okGrant_mono m h⟩
structure GAct20 where
  Kind : Int
  Token : Int
  Want : Sl Int
def encAct20 (x : GAct20) : List Value := [.int .i64 x.Kind, .int .i64 x.Token, x.Want.val]
def okAct20 (M : MH) (x : GAct20) : Prop := inI64 x.Kind ∧ inI64 x.Token ∧ Rd TInt x.Want M
theorem okAct20_mono {M M' : MH} {x : GAct20} (m : MLe M M') (h : okAct20 M x) : okAct20 M' x := by
  obtain ⟨h0, h1, h2⟩ := h; exact ⟨h0, h1, h2.mono m⟩
theorem encAct20_one : ∀ (x : GAct20), ∀ v ∈ encAct20 x, v.oneCell' = true := by
  intro x v h; simp only [encAct20, List.mem_append, List.mem_cons, List.not_mem_nil, or_false, or_assoc] at h
  rcases h with rfl | rfl | rfl
  all_goals rfl
def TAct20 : Ty GAct20 := ⟨3, encAct20, okAct20, fun _ => rfl, encAct20_one, fun _ _ _ m h => okAct20_mono m h⟩
structure GAct24 where
  Kind : Int
  ID : Int
  Batch : Sl GSpec
def encAct24 (x : GAct24) : List Value := [.int .i64 x.Kind, .int .i64 x.ID, x.Batch.val]
def okAct24 (M : MH) (x : GAct24) : Prop := inI64 x.Kind ∧ inI64 x.ID ∧ Rd TSpec x.Batch M
theorem okAct24_mono {M M' : MH} {x : GAct24} (m : MLe M M') (h : okAct24 M x) : okAct24 M' x := by
  obtain ⟨h0, h1, h2⟩ := h; exact ⟨h0, h1, h2.mono m⟩
theorem encAct24_one : ∀ (x : GAct24), ∀ v ∈ encAct24 x, v.oneCell' = true := by
  intro x v h; simp only [encAct24, List.mem_append, List.mem_cons, List.not_mem_nil, or_false, or_assoc] at h
  rcases h with rfl | rfl | rfl
  all_goals rfl
def TAct24 : Ty GAct24 := ⟨3, encAct24, okAct24, fun _ => rfl, encAct24_one, fun _ _ _ m h => okAct24_mono m h⟩
structure GSeat20 where
  Token : Int
  Got : Int
  Want : Sl Int
def encSeat20 (x : GSeat20) : List Value := [.int .i64 x.Token, .int .i64 x.Got, x.Want.val]
def okSeat20 (M : MH) (x : GSeat20) : Prop := inI64 x.Token ∧ inI64 x.Got ∧ Rd TInt x.Want M
theorem okSeat20_mono {M M' : MH} {x : GSeat20} (m : MLe M M') (h : okSeat20 M x) : okSeat20 M' x := by
  obtain ⟨h0, h1, h2⟩ := h; exact ⟨h0, h1, h2.mono m⟩
theorem encSeat20_one : ∀ (x : GSeat20), ∀ v ∈ encSeat20 x, v.oneCell' = true := by
  intro x v h; simp only [encSeat20, List.mem_append, List.mem_cons, List.not_mem_nil, or_false, or_assoc] at h
  rcases h with rfl | rfl | rfl
  all_goals rfl
def TSeat20 : Ty GSeat20 := ⟨3, encSeat20, okSeat20, fun _ => rfl, encSeat20_one, fun _ _ _ m h => okSeat20_mono m h⟩
end Go.Proofs.Ytlkmcdijioiddaa
