/- The alphabets, Size. -/
import Derived.Test.YtdjlpmelmhhooaaDoorBas1
import Derived.Test.YtdjlpmelmhhooaaDoorLibA
import Derived.Test.YtdjlpmelmhhooaaDoorProg
import Derived.Test.YtdjlpmelmhhooaaDoorBldS
import Derived.Test.YtdjlpmelmhhooaaDoorShfX
import Derived.Test.YtdjlpmelmhhooaaDoorIdbS
namespace Go.Proofs.YtdjlpmelmhhooaaDoor
open Go Go.RowKit
set_option linter.unusedSimpArgs false

/-- An alphabet as a value. -/
def alpha (L : ByteArray) (k : Nat) (fill : Bool) : Value := .agg #[.string L, .int .i64 (k : Int), .bool fill]


set_option maxRecDepth 100000 in
theorem size_any (L : ByteArray) (k : Nat) (fill : Bool) (n : Nat) (hk : k = 4 ∨ k = 6) (hf : fill = true → k = 6) (hn : n ≤ 1000000) (w : World) :
    Calls Tryd.prog 30 #[alpha L k fill, .int .i64 (n : Int)] w fun e w' => e = .returned (.int .i64 (sizeN k fill n : Nat)) ∧ Below w.heap.size w w' := by
  rcases Nat.eq_zero_or_pos n with rfl | hn0
  · have e : sizeN k fill 0 = 0 := by
      unfold sizeN padN
      rcases hk with rfl | rfl
      · cases fill <;> simp
      · cases fill <;> simp
    rw [e]
    unfold alpha
    go_enter Tryd.func30, Tryd.ntmps30
    go_wp2
    go_ret
    exact ⟨rfl, below_al (Below.refl _ _) _⟩
  · have hd : decide ((n : Int) < 1) = false := by rw [decide_eq_false_iff_not]; omega
    unfold alpha
    rcases hk with rfl | rfl
    · obtain rfl : fill = false := by cases fill; rfl; exact absurd (hf rfl) (by decide)
      go_enter Tryd.func30, Tryd.ntmps30
      go_wp2
      generalize hW : World.alloc w _ = W
      have hr : RowAt W w.heap.size 41 #[.string L, .int .i64 4, .bool false] := by rw [← hW]; exact RowAt.new _ _ _
      have hB : Below w.heap.size w W := by rw [← hW]; exact below_al (Below.refl _ _) _
      clear hW
      have e1 : ∀ q : Sub W, q.x.cell? ⟨w.heap.size, 1, none⟩ = some (.int .i64 4) := fun q => q.cell hr rfl
      refine wp_region_sub (by kernel_rfl) (by kernel_rfl) ?_
      repeat (go_big_quiet_step (fail))
      refine wpQuiet_nil ?_
      intro q
      have e2 : q.x.cell? ⟨w.heap.size, 2, none⟩ = some (.bool false) := q.cell hr rfl
      go_wp2
      go_ret
      exact ⟨ret_int (by simp only [sizeN, padN]; simp; omega), below_cat q.h hB⟩
    · go_enter Tryd.func30, Tryd.ntmps30
      go_wp2
      generalize hW : World.alloc w _ = W
      have hr : RowAt W w.heap.size 41 #[.string L, .int .i64 6, .bool fill] := by rw [← hW]; exact RowAt.new _ _ _
      have hB : Below w.heap.size w W := by rw [← hW]; exact below_al (Below.refl _ _) _
      clear hW
      have e1 : ∀ q : Sub W, q.x.cell? ⟨w.heap.size, 1, none⟩ = some (.int .i64 6) := fun q => q.cell hr rfl
      refine wp_region_sub (by kernel_rfl) (by kernel_rfl) ?_
      repeat (go_big_quiet_step (fail))
      refine wpQuiet_nil ?_
      intro q
      have e2 : q.x.cell? ⟨w.heap.size, 2, none⟩ = some (.bool fill) := q.cell hr rfl
      cases fill
      · go_wp2
        go_ret
        exact ⟨ret_int (by simp only [sizeN, padN]; simp; omega), below_cat q.h hB⟩
      · go_wp2
        go_ret
        have e : (n : Int) / 6 * 8 + ((n : Int) % 6 * 8 + 6 - 1) / 6 = (((8 * n + (6 - 1)) / 6 : Nat) : Int) := by omega
        refine ⟨ret_int ?_, below_cat q.h hB⟩
        simp only [sizeN, padN, if_true]
        rw [e]
        generalize (8 * n + (6 - 1)) / 6 = m
        omega

/-- The result is a whole struct out of a box. -/
theorem results_agg {P : Program} {fn : Func} {p : Tmp} {ty : TypeId} (h : fn.results = #[.cell p ty]) (tmps : Array Value) (w : World) (b : Nat) (x y z : Value) (hp : tmps.getD p undef = .pointer (some ⟨b, 0, none⟩))
    (ha : ∀ w, (isAgg ty).run P w = .ok true w) (hz : ∀ w, (sizeOf ty).run P w = .ok 3 w) (hr : RowAt w b ty #[x, y, z]) : (results fn tmps).run P w = .ok (.agg #[x, y, z]) w := by
  have hp' : tmps[p]?.getD undef = .pointer (some ⟨b, 0, none⟩) := by simpa using hp
  have c0 : w.cell? ⟨b, 0, none⟩ = some x := hr.cell rfl
  have c1 : w.cell? ⟨b, 1, none⟩ = some y := hr.cell rfl
  have c2 : w.cell? ⟨b, 2, none⟩ = some z := hr.cell rfl
  simp [results, h, hp', asAddr, loadVar, ha, hz, go_sem, c0, c1, c2]
set_option maxRecDepth 100000 in
theorem hex_any (w : World) : Calls Tryd.prog 17 #[] w fun e w' => e = .returned (alpha hexL 4 false) ∧ Below w.heap.size w w' := by
  go_enter Tryd.func17, Tryd.ntmps17
  go_wp2
  refine bodyPost_ret (results_agg rfl _ _ w.heap.size _ _ _ rfl Tryd.isAgg41 Tryd.sizeOf41 (RowAt.new _ _ _)) rfl ?_
  exact ⟨by rfl, below_al (Below.refl _ _) _⟩
set_option maxRecDepth 100000 in
theorem std_any (w : World) : Calls Tryd.prog 38 #[] w fun e w' => e = .returned (alpha stdL 6 true) ∧ Below w.heap.size w w' := by
  go_enter Tryd.func38, Tryd.ntmps38
  go_wp2
  refine bodyPost_ret (results_agg rfl _ _ w.heap.size _ _ _ rfl Tryd.isAgg41 Tryd.sizeOf41 (RowAt.new _ _ _)) rfl ?_
  exact ⟨by rfl, below_al (Below.refl _ _) _⟩
end Go.Proofs.YtdjlpmelmhhooaaDoor
