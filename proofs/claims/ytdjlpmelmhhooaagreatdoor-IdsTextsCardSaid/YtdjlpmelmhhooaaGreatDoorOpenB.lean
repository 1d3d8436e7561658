/- A row of bytes by value that came in: opened. -/
import Derived.Test.YtdjlpmelmhhooaaGreatDoorProg
import Derived.WideShapes
import Derived.OpenShut
import Derived.Test.YtdjlpmelmhhooaaGreatDoorKit
namespace Go.Proofs.YtdjlpmelmhhooaaGreatDoor
open Go Go.RowKit Go.WideShapes

theorem okWide_arr_any {P : Program} {W : World} {r : Reach} {b0 : Nat} {t e : TypeId} {n : Nat} {v : Value} (ht : P.underlying t = some (.array n e)) (h : Value.okWide P W r b0 t v) : ∃ cs : Array Value, v = .agg cs ∧ cs.size = P.cellsOf t := by
  unfold Value.okWide at h
  cases v <;> simp_all
theorem open_bytesN {H : Type} {enc : TypeId × Value → H} {P : Program} {w : World} {base : Nat} {spare : Nat → Bool} {held : Bool} {r : Reach} {b0 : Nat} {t e : TypeId} {n : Nat} {v : Value} {d : DataW H} {p : List MemPlace}
    (ht : P.underlying t = some (.array n e)) (he : P.underlying e = some (.int .u8)) (hce : P.cellsOf e = 1) (hct : P.cellsOf t = n)
    (hv : Value.okWide P w r b0 t v) (h : DataW.Trod enc P w base spare held t v d p) : ∃ l : List UInt8, l.length = n ∧ v = .agg (rowA n fun i => .int .u8 ((l.getD i 0).toNat : Int)) := by
  obtain ⟨cs, rfl, hsz⟩ := okWide_arr_any ht hv
  obtain ⟨fuel, hf⟩ := h
  obtain ⟨xs, m, _, _, hl, hn, hel⟩ := DataW.trod_array ht hf
  have hcl : cs.toList.length = n := by rw [Array.length_toList, hsz, hct]
  have key : ∀ i, i < n → ∃ c : UInt8, cs[i]? = some (.int .u8 (c.toNat : Int)) := fun i hi => by
    have h1 := hel i hi
    rw [hce, Nat.mul_one] at h1
    have hx : i < xs.length := by omega
    rw [List.getElem?_eq_getElem hx] at h1
    obtain ⟨z, hc, _, hw⟩ := DataW.trod_int he h1
    obtain ⟨b1, b2⟩ := bounds_u8 hw
    refine ⟨UInt8.ofNat z.toNat, ?_⟩
    have h2 : cs.toList[i]? = some (.int .u8 z) := by
      have := congrArg (·[0]?) hc
      simpa [Value.cells, List.getElem?_take, List.getElem?_drop] using this
    have e : ((UInt8.ofNat z.toNat).toNat : Int) = z := by simp; omega
    rw [e]
    simpa using h2
  refine ⟨(List.range n).map fun i => if h : i < n then Classical.choose (key i h) else 0, by simp, ?_⟩
  congr 1
  refine rowA_of (by rw [hsz, hct]) fun i hi => ?_
  rw [Classical.choose_spec (key i hi)]
  simp [List.getD_eq_getElem?_getD, hi]
end Go.Proofs.YtdjlpmelmhhooaaGreatDoor
