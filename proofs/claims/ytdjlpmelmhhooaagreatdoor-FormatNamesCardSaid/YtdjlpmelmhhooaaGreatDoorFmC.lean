/- Format: a text among texts; Of. -/
import Derived.Test.YtdjlpmelmhhooaaGreatDoorFmA
import Derived.Test.YtdjlpmelmhhooaaGreatDoorWkX
import Derived.Test.YtdjlpmelmhhooaaGreatDoorSlsS
namespace Go.Proofs.YtdjlpmelmhhooaaGreatDoor
open Go Go.RowKit
set_option linter.unusedSimpArgs false
set_option linter.unusedVariables false

/-- Is a text among texts? -/
def memS (ss : List ByteArray) (s : ByteArray) : Bool := ss.any fun t => decide (t = s)
theorem memS_iff {ss : List ByteArray} {s : ByteArray} : memS ss s = true ↔ s ∈ ss := by
  unfold memS
  rw [List.any_eq_true]
  constructor
  · rintro ⟨t, ht, h⟩; rw [← of_decide_eq_true h]; exact ht
  · intro h; exact ⟨s, h, by simp⟩
def IdxPost (ss : List ByteArray) (s : ByteArray) (e : Ending) : Prop := ∃ r : Int, e = .returned (.int .i64 r) ∧ decide (0 ≤ r) = memS ss s
set_option maxRecDepth 100000 in
set_option maxHeartbeats 4000000 in
theorem index_strs (a : Option Addr) (n c : Nat) (ss : List ByteArray) (s : ByteArray) (hn : n ≤ 140737488351232) (w : World) (h : IsStrs w a n ss) :
    Calls Tryz.prog 78 #[.slice a n c, .string s] w fun e w' => IdxPost ss s e ∧ w = w' := by
  have hlen := h.len
  replace h := hid h
  go_enter Tryz.func78, Tryz.ntmps78
  go_wp2
  go_loop [8] (fun v => ∃ i : Nat, i ≤ n ∧ v = .int .i64 i ∧ Hid (∀ j, j < i → ss[j]? ≠ some s)) (fun v => n - (intOf v).toNat)
  case atStart => exact ⟨0, Nat.zero_le _, rfl, fun j hj => by omega⟩
  case round =>
    obtain ⟨i, hi, rfl, HN⟩ := hrel
    by_cases hlt : i < n
    · obtain ⟨t, ht⟩ : ∃ s, ss[i]? = some s := ⟨_, List.getElem?_eq_getElem (by omega)⟩
      obtain ⟨x, rfl, hx⟩ := h.out.at ht
      have hd : decide ((i : Int) < (n : Int)) = true := by rw [decide_eq_true_iff]; omega
      replace ht := hid ht
      by_cases hst : s = t
      · have hq : (s.toList == t.toList) = true := by rw [hst]; simp
        have hmem : s ∈ ss := by rw [hst]; exact List.mem_of_getElem? ht.out
        have hi0 : (0 : Int) ≤ (i : Int) := by omega
        replace hst := hid hst
        replace hmem := hid hmem
        go_wp2
        go_ret
        exact ⟨⟨_, rfl, by rw [decide_eq_true hi0, memS_iff.2 hmem.out]⟩, rfl⟩
      · have hq : (s.toList == t.toList) = false := by
          rw [beq_eq_false_iff_ne]; intro e; apply hst
          rw [ByteArray.toList_eq, ByteArray.toList_eq] at e
          exact ByteArray.ext (Array.ext' e)
        replace hst := hid hst
        go_wp2
        go_round
        case rel =>
          refine ⟨i + 1, by omega, by go_num, fun j hj e => ?_⟩
          by_cases hji : j = i
          · subst hji; rw [ht.out] at e; exact hst.out (Option.some.inj e).symm
          · exact HN.out j (by omega) e
        case measure => simp [intOf]; omega
    · obtain rfl : i = n := by omega
      have hd : decide ((i : Int) < (i : Int)) = false := by rw [decide_eq_false_iff_not]; omega
      have hno : s ∉ ss := fun hm => by
        obtain ⟨j, hj, e⟩ := List.mem_iff_getElem.1 hm
        exact HN.out j (by omega) (by rw [List.getElem?_eq_getElem hj, e])
      replace hno := hid hno
      go_wp2
      go_ret
      exact ⟨⟨-1, rfl, by rw [Bool.eq_false_iff.2 (fun h => hno.out (memS_iff.1 h))]; rfl⟩, rfl⟩
theorem contains_strs (a : Option Addr) (n c : Nat) (ss : List ByteArray) (s : ByteArray) (hn : n ≤ 140737488351232) (w : World) (h : IsStrs w a n ss) :
    Calls Tryz.prog 33 #[.slice a n c, .string s] w fun e w' => e = .returned (.bool (memS ss s)) ∧ w = w' := by
  have LI := hid (index_strs a n c ss s hn w h)
  obtain ⟨b, hb⟩ : ∃ b, b = memS ss s := ⟨_, rfl⟩
  rw [← hb]
  replace hb := hid hb
  replace h := hid h
  go_enter Tryz.func33, Tryz.ntmps33
  go_wp2_with (go_at_call 78; (with_reducible refine (LI.out).mono ?_); rintro e w1 ⟨hI, rfl⟩; unfold IdxPost at hI; obtain ⟨r, rfl, hr⟩ := hI; rw [← hb.out] at hr)
  go_ret
  exact ⟨rfl, rfl⟩
end Go.Proofs.YtdjlpmelmhhooaaGreatDoor
