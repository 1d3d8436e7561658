/- From a row's cell 'laid' to the table uint64pow10. -/
import Derived.Test.YtbbjoahloghpkaaGreatDoorProg
import Derived.Test.YtbbjoahloghpkaaGreatDoorFmU
import Derived.Lib.LaidTab
import Derived.MakeChecks
namespace Go.Proofs.YtbbjoahloghpkaaGreatDoor
open Go Go.RowKit

theorem tabIs_of_vars {P : Program} {W : World} {name : String} {k : IntKind} {zs : List Int} {g : Nat} {t e : TypeId} {n : Nat}
    (hg : P.globalNamed name = some g) (hty : (P.globals[g]?).map (·.type) = some t) (ht : P.underlying t = some (.array n e)) (he : P.underlying e = some (.int k)) (hce : P.cellsOf e = 1) (hct : P.cellsOf t = n) :
    ∀ (laid : List (String × DataW Unit)) (ps : List MemPlace) (i : Nat), DataW.LaidVars P W laid ps → laid[i]? = some (name, Lib.tabData k zs) → Lib.TabIs P W name k zs
  | [], _, _, _, h => by simp at h
  | x :: rest, ps, i, hL, h => by
    obtain ⟨nm, d⟩ := x
    obtain ⟨g', t', cs, fuel, p, q, hg', ht', hvar, hd, hr, _⟩ := hL
    cases i with
    | zero =>
      simp only [List.getElem?_cons_zero, Option.some.injEq, Prod.mk.injEq] at h
      obtain ⟨rfl, rfl⟩ := h
      obtain rfl := Option.some.inj (hg.symm.trans hg')
      obtain rfl := Option.some.inj (hty.symm.trans ht')
      unfold Lib.TabIs
      rw [hvar, ← Lib.cells_of_tab ht he hce hct hd]
    | succ i => exact tabIs_of_vars hg hty ht he hce hct rest q i hr (by simpa using h)
theorem powTab_of {laid : List (String × DataW Unit)} (i : Nat) {W : World} (hh : (laid.all fun x => x.2.handleName?.isNone) = true) (h : laidMetH Tryz.prog laid W) (hi : laid[i]? = some ("internal/strconv.uint64pow10", Lib.tabData .u64 Lib.pow10Tab)) : PowTab W := by
  rw [MakeChecks.laidMetH_plain _ _ _ hh] at h
  obtain ⟨ps, hL, _⟩ := h
  have hg : Tryz.prog.globalNamed "internal/strconv.uint64pow10" = some 1 := by kernel_rfl
  exact Lib.tabBelow_of_tabIs (tabIs_of_vars hg (t := 129) (by kernel_rfl) Tryz.underlying129 Tryz.underlying22 (by kernel_rfl) (by kernel_rfl) laid ps i hL hi)
end Go.Proofs.YtbbjoahloghpkaaGreatDoor
