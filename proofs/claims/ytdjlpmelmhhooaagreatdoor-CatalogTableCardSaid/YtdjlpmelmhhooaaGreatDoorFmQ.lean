/- Format: whether a text fits a rule, plainly. -/
import Derived.Test.YtdjlpmelmhhooaaGreatDoorFmX1
import Derived.Test.YtdjlpmelmhhooaaGreatDoorIdX
import Derived.Test.YtdjlpmelmhhooaaGreatDoorDgX2
namespace Go.Proofs.YtdjlpmelmhhooaaGreatDoor
open Go

/-- An id's text, read. -/
def parseO (s : List UInt8) : Option (List UInt8) :=
  match decP hexL 4 false (barI s) with
  | some o => if o.length = 16 ∧ textI o = s then some o else none
  | none => none
theorem parseO_some (s l : List UInt8) : parseO s = some l ↔ l.length = 16 ∧ s = textI l := by
  unfold parseO
  constructor
  · intro h
    split at h
    · rename_i o ho
      split at h
      · rename_i hc
        obtain rfl := Option.some.inj h
        exact ⟨hc.1, hc.2.symm⟩
      · cases h
    · cases h
  · rintro ⟨hl, rfl⟩
    have : decP hexL 4 false (barI (textI l)) = some l := by rw [decP_hex, barI_text l hl]
    rw [this]
    simp [hl]
theorem parseO_none (s : List UInt8) (h : parseO s = none) : ∀ l : List UInt8, l.length = 16 → s ≠ textI l := fun l hl e => by
  rw [(parseO_some s l).2 ⟨hl, e⟩] at h; cases h
def idB (s : List UInt8) : Bool :=
  match parseO s with
  | some l => !(l == List.replicate 16 0)
  | none => false
def proofB (mn : Int) (s : List UInt8) : Bool :=
  match decP stdL 6 true s with
  | some o => decide ((o.length : Int) = mn)
  | none => false
def inB (mn mx n : Int) : Bool := decide (mn ≤ n) && decide (n ≤ mx)
/-- Does a text fit a rule of a kind? -/
def kindB (k mn mx : Int) (ss : List ByteArray) (s : ByteArray) : Bool :=
  if k = 1 then inB mn mx s.size && (decide (s.size = 0) || isNum s.data.toList)
  else if k = 2 then shownB s && inB mn mx (runesN s.data.toList).length
  else if k = 3 then idB s.data.toList
  else if k = 4 then memS ss s
  else if k = 5 then decide (cardN s.data.toList = 0)
  else if k = 6 then decide (dateN s.data.toList = 0)
  else if k = 7 then proofB mn s.data.toList
  else inB mn mx s.size && (decide (s.size = 0) || isNum s.data.toList && (decide (s.size = 1) || !(decide (s.data.toList.getD 0 0 = 48))))
def fitsN (k mn mx : Int) (ss : List ByteArray) (s : ByteArray) : Bool := decide (chkN k mn mx ss.length = 0) && kindB k mn mx ss s
end Go.Proofs.YtdjlpmelmhhooaaGreatDoor
