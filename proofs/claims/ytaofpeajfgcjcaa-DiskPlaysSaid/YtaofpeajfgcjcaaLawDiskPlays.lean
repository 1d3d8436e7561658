/- The row of the law DiskPlays: whatever its input, it returns true, and each argument reads as it read before. Printed by row.py (this project's own) out of the walk's theorem. -/
import Derived.Test.YtaofpeajfgcjcaaRows
import Derived.Test.YtaofpeajfgcjcaaDrK
import Derived.Test.YtaofpeajfgcjcaaRcs
import Derived.WalkKit
import Derived.ProofKit
import Derived.OpenShut
import Derived.ShutString
import Derived.ChangeOld
import Derived.Below
import Derived.SizedLaws
import Derived.SliceStrings
namespace Go.Proofs.Ytaofpeajfgcjcaa.diskPlays
open Go.ChangeShapes Go.WideShapes Go.ChangeAt Go.RowKit
open Go.ChangeMaps (open_string shut_string)
set_option linter.unusedVariables false
theorem own : ownKnob Try.prog.godebug = none := by kernel_rfl
theorem laidOut : laidOutB Try.prog = true := by kernel_rfl
set_option maxRecDepth 100000 in
theorem lifted (os : Os) (started : os.Started) (H : Type) (enc : TypeId × Value → H) :
    ReturnsInHanded {} Try.checked os 5 .any (Rows.diskPlaysSpec.pre6 enc Try.prog Try.f5 Rows.diskPlaysRow.domain false) (Rows.diskPlaysSpec.post enc Try.prog Try.f5 false true false false) := by
  refine returnsInHanded_of_change_sized (C := Try.checked) own started (by kernel_rfl) Try.func5
    (ChangeSpec.witness6 (enc := enc) (C := Try.checked) false ⟨#[], #[.int .i64 0, .slice none 0 0], []⟩ 8 (by kernel_rfl) (by kernel_rfl) (by kernel_rfl) (by kernel_rfl)) ?_
  intro W base args ds gs before hval0 hW hcnd hsz0 _
  have hsz : (DataW.weightsEach Try.prog (Try.f5.params.toList ++ Rows.diskPlaysSpec.plain.varTypes Try.prog) (ds ++ gs)).all (· ≤ reachBytes) = true := hsz0
  have hval : ∀ (j : Nat) t v, Try.f5.params[j]? = some t → args[j]? = some v → Value.okWide Try.prog W .any base t v := hval0
  have hW' := hW
  obtain ⟨p, q, hA0, hV, rfl, hfz, hnd⟩ := hW
  have hA : DataW.TrodAll enc Try.prog W 0 (fun _ => true) true Try.f5.params.toList args.toList ds p := hA0
  rw [Try.params5] at hA hval hsz
  obtain ⟨v0, vs0, d0, ds0, p0, q0, hargs, rfl, rfl, h0, r0⟩ := trodAll_cons hA
  obtain ⟨v1, vs1, d1, ds1, p1, q1, rfl, rfl, rfl, h1, r1⟩ := trodAll_cons r0
  obtain ⟨rfl, rfl, rfl⟩ := trodAll_nil r1
  obtain rfl : args = #[v0, v1] := by cases args; simp_all
  obtain ⟨rfl, rfl⟩ := trodVars_none hV
  obtain ⟨a0, rfl, rfl, rfl, w0⟩ := open_int Try.underlying3 (hval 0 3 v0 rfl rfl) h0
  obtain ⟨a1, len1, cap1, rfl⟩ := okWide_slice Try.underlying22 (hval 1 22 v1 rfl rfl)
  have k1 := h1
  have lt1 : ∀ x ∈ p1, x.block < W.heap.size := by obtain ⟨m, hm⟩ := k1; exact DataW.trod_lt m _ _ _ hm
  obtain ⟨rs1, w1⟩ : ∃ rs, IsRecs ([(.int .i64), (.int .i64), (.int .u8)] : List FK) W a1 len1 rs := by
    obtain ⟨fuel, hf⟩ := h1
    obtain ⟨a', l', c', rs, hcs, hr⟩ := open_recs ([(.int .i64), (.int .i64), (.int .u8)] : List FK) (by decide) Try.underlying22 Try.underlying29 (by kernel_rfl) rfl (by
      intro j k hk
      match j, hk with
      | 0, hk => cases hk; exact ⟨_, rfl, rfl, by kernel_rfl, Try.underlying3⟩
      | 1, hk => cases hk; exact ⟨_, rfl, rfl, by kernel_rfl, Try.underlying3⟩
      | 2, hk => cases hk; exact ⟨_, rfl, rfl, by kernel_rfl, Try.underlying5⟩
      | n + 3, hk => simp at hk) hf (fun es sp hd => by
        have hd' : d1 = .slice es sp := hd
        have hb : 1 ≤ Try.prog.bytesOf 29 := of_decide_eq_true (by kernel_rfl)
        have hs := sized_slice hsz (j := 1) (t := 22) rfl (by rw [← hd']; rfl) Try.underlying22
        have h3 : (es.length + sp.length) * 1 ≤ (es.length + sp.length) * Try.prog.bytesOf 29 := Nat.mul_le_mul_left _ hb
        have h4 : reachBytes = 140737488351232 := rfl
        omega)
    simp [Value.cells] at hcs
    obtain ⟨rfl, rfl, rfl⟩ := hcs
    exact ⟨rs, hr⟩
  clear hA0 hval0 hsz0 hsz
  refine (plays_walk a0 a1 len1 cap1 rs1 W w0 w1).mono fun e W' ⟨he, bel⟩ => ?_
  subst he
  exact ⟨_, rfl, _, _, _, [], _, [], hW', trodAll_mk1 (shut_bool Try.underlying4 _), (trodAll_cons_mk (shut_int Try.underlying3 w0) (trodAll_cons_mk (Below.trod laidOut (by kernel_rfl) (of_decide_eq_true (by kernel_rfl)) k1 bel lt1) trodAll_mk0)), rfl, bel.frame _, fun h => by cases h⟩
theorem over : Rows.diskPlaysRow.holds Try.pinned (OpenSpec.ofChange Rows.diskPlaysSpec) :=
  OpenClaim.holds_of_wide 5 Try.f5 rfl rfl rfl rfl rfl rfl rfl ⟨rfl, rfl, rfl, rfl, rfl⟩ rfl rfl rfl rfl rfl (by kernel_rfl) Try.func5 (by kernel_rfl)
    (of_decide_eq_true (by kernel_rfl)) (by unfold Func.isWrapper; first | (rw [if_pos (by decide +kernel)]; kernel_rfl) | (rw [if_neg (by decide +kernel)]; exact ⟨rfl, rfl⟩))
    (fun os started H enc _ => lifted os started H enc)
theorem proved : Rows.DiskPlaysSaid := over
#print axioms proved
end Go.Proofs.Ytaofpeajfgcjcaa.diskPlays
namespace Go.Proofs.Ytaofpeajfgcjcaa
theorem diskPlays_holds : Rows.DiskPlaysSaid := diskPlays.proved
end Go.Proofs.Ytaofpeajfgcjcaa
