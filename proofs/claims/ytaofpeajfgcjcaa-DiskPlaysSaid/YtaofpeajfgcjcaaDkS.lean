/- Disk: the walk of DiskNil. -/
import Derived.Test.YtaofpeajfgcjcaaDkR
import Derived.LoopNIn
import Derived.Shelf.Abstract
namespace Go.Proofs.Ytaofpeajfgcjcaa
open Go Go.RowKit Go.Maps
set_option linter.unusedSimpArgs false
set_option linter.unusedVariables false

theorem read_nil (a : Int) (w : World) : Calls Try.prog 15 #[.pointer none, .int .i64 a] w fun e w' => e = .returned (.tuple #[.agg zeroBlk, .int .i64 1]) ∧ Below w.heap.size w w' :=
  (read_bad none a 1 (by decide) w (fun o => may_nil a _)).mono fun e w' he => ⟨he.1, by rw [he.2]; exact below_al (Below.refl _ _) _⟩
theorem write_nil (a : Int) (w : World) : Calls Try.prog 9 #[.pointer none, .int .i64 a, .agg zeroBlk] w fun e w' => e = .returned (.int .i64 1) ∧ Below w.heap.size w w' := by
  rw [zero_blkA]
  exact write_bad a 1 _ (by decide) (fun o => may_nil a _)
theorem lasts_nil0 (a : Int) (w : World) : Calls Try.prog 23 #[.pointer none, .int .i64 a] w fun e w' => e = .returned (.agg zeroBlk) ∧ Below w.heap.size w w' :=
  lasts_out none 0 a (by omega) w (fun o => sectors_nil _)
theorem zero_eql (W : World) : (binOp .eql 32 (.agg zeroBlk) (.agg zeroBlk)).run Try.prog W = .ok (.bool true) W := by
  rw [zero_blkA]; exact blk_eql _ W
theorem zero_guard (op : BinOp) (x y : Operand) (W : World) : (eqGuard op 32 x y (.agg zeroBlk) (.agg zeroBlk)).run Try.prog W = .ok () W := by
  rw [zero_blkA]; exact blk_guard op x y _ _ W
attribute [local go_sem] Oper.semAt_some
theorem all_nil_on {bx : Nat} {w : World} {α : Type} (encs : α → Array Value) (hb : RowAt w bx 24 #[.pointer none]) : IterOn Try.prog 27 #[.pointer (some ⟨bx, 0, none⟩)] encs (fun _ => False) (fun k => k = bx) [] w := by
  intro l J Jx W hbel hJ hJx hY h0
  have cb : W.cell? ⟨bx, 0, none⟩ = some (.pointer none) := (hb.below hbel hb.lt).cell rfl
  have hsec := hid sectors_nil
  refine callsIn_of_wp Try.func27 rfl trivial ?_
  simp only [Try.ntmps27, List.size_toArray, List.length_cons, List.length_nil, Nat.reduceAdd, Nat.reduceSub, Array.replicate_succ, Array.replicate_zero, List.push_toArray, List.append_toArray, List.nil_append, List.cons_append]
  gi_wp2_with (refine ⟨trivial, rfl, ?_⟩; gi_at_call 22; refine (callsIn_wide.2 (hsec.out _)).mono ?_; rintro e w2 ⟨rfl, rfl⟩)
  refine wpIn_loop_rounds 1 ?_
  rw [roundsIn_succ]
  gi_wp2
  go_end0
  exact ⟨⟨_, rfl⟩, .inl h0⟩
set_option maxRecDepth 100000 in
set_option maxHeartbeats 16000000 in
theorem nil_walk (w : World) : Calls Try.prog 6 #[] w fun e w' => e = .returned (.bool true) ∧ Below w.heap.size w w' := by
  refine (callsIn_wide (n := 0)).1 ?_
  refine callsIn_of_wp_marks Try.func6 rfl trivial ?_
  simp only [Try.ntmps6, List.size_toArray, List.length_cons, List.length_nil, Nat.reduceAdd, Nat.reduceSub, Array.replicate_succ, Array.replicate_zero, List.push_toArray, List.append_toArray, List.nil_append, List.cons_append]
  have LA := hid awake_any
  have LF := hid fuse_nil
  have LC := hid crash_nil
  have LL := hid all_any
  have hz := zero_block
  have hzs := zeroBlk_size
  gi_wp2_with (first
    | (refine ⟨trivial, rfl, ?_⟩; gi_at_call 7; refine (callsIn_wide.2 (LA.out _)).mono ?_; rintro e w1 ⟨rfl, hB⟩
       have r0 := hid ((RowAt.new w #[.bool false] 4).below hB (by simp only [World.size_alloc]; omega))
       have b1 := hid (below_cat hB (below_al (Below.refl w.heap.size w) _))
       clear hB)
    | (refine ⟨trivial, rfl, ?_⟩; gi_at_call 21; refine (callsIn_wide.2 (LF.out _ _)).mono ?_; rintro e w1 ⟨rfl, rfl⟩)
    | (refine ⟨trivial, rfl, ?_⟩; gi_at_call 11; refine (callsIn_wide.2 (LC.out _ _)).mono ?_; rintro e w1 ⟨rfl, rfl⟩)
    | (refine ⟨trivial, rfl, ?_⟩; gi_at_call 12; refine (callsIn_wide.2 (LL.out _ _)).mono ?_; rintro e w1 ⟨rfl, rfl⟩))
  generalize hW0 : World.alloc w1 _ = W0
  have rb : RowAt W0 w1.heap.size 24 #[.pointer none] := by rw [← hW0]; exact RowAt.new _ _ _
  have r1 : RowAt W0 w.heap.size 4 #[.bool false] := by rw [← hW0]; exact r0.out.alloc _
  have b2 : Below w.heap.size w W0 := by rw [← hW0]; exact below_al b1.out _
  clear hW0 r0 b1
  have hlt1 := r1.lt
  refine wp_iter_put (α := Unit) (gf := 27) (lb := #[.pointer (some ⟨w1.heap.size, 0, none⟩)]) rfl (enters_of Try.func27 (by kernel_rfl) rfl) (all_nil_on (fun _ => #[undef, undef]) rb)
    (fun _ h => h.elim) (fun k h => by rw [h]; exact rb.lt) (fun _ => rfl) (fun x => [])
    (fun pre W => RowAt W w.heap.size 4 #[.bool false] ∧ Below w.heap.size w W)
    (fun c pre W => False) ?hI ?hIx ⟨r1, b2⟩ ?assign ?body ?done ?stop
  case hI =>
    rintro pre X Y ⟨h1, h2⟩ hk
    exact ⟨hk.row h1 (fun h => by rcases h with h | h | h; exact h.elim; all_goals omega), below_kept h2 hk (Nat.le_refl _) (fun k h => by have := b2.size; rcases h with h | h | h; exact h.elim; all_goals omega)⟩
  case hIx => exact fun c pre X Y h _ => h
  case assign =>
    intro l x W K hK
    gi_wp2
    simpa [putAll] using hK
  case body => intro pre x post W hx; simp at hx
  case stop => intro c pre x post W _ hx; simp at hx
  case done =>
    rintro W hWs ⟨h1, h2⟩ hd
    have L1 := hid read_nil
    have L2 := hid write_nil
    have L3 := hid sync_nil
    have L4 := hid sectors_nil
    have L5 := hid down_nil
    have L6 := hid steps_nil
    have L7 := hid hangs_nil
    have L8 := hid lasts_nil0
    have E1 := zero_eql
    have E2 := zero_guard
    have hbu := build_block
    replace h1 := hid h1
    replace h2 := hid h2
    replace hd := hid hd
    clear rb r1 b2 LA LF LC LL
    gi_wp2_with (first
      | (refine ⟨trivial, rfl, ?_⟩; gi_at_call 15; refine (callsIn_wide.2 (L1.out _ _)).mono ?_; rintro e w2 ⟨rfl, hB⟩
         have hst := cells_block _ _ _ zeroBlk (RowAt.new w2 zeroBlk 32) zeroBlk_size zeroBlk_size zeroBlk_one
         rw [World.setRow_alloc_new] at hst
         have q1 := hid (((h1.out.below hB h1.out.lt).alloc (.cells zeroBlk 32)))
         have q2 := hid (below_al (below_cat hB h2.out) (.cells zeroBlk 32))
         have q3 := hid (defer_below hd.out (below_al hB (.cells zeroBlk 32)))
         clear hB h1 h2 hd)
      | (refine ⟨trivial, rfl, ?_⟩; gi_at_call 9; refine (callsIn_wide.2 (L2.out _ _)).mono ?_; rintro e w3 ⟨rfl, hB⟩
         have y1 := hid (q1.out.below hB q1.out.lt)
         have y2 := hid (below_cat hB q2.out)
         have y3 := hid (defer_below q3.out hB)
         clear hB q1 q2 q3)
      | (refine ⟨trivial, rfl, ?_⟩; gi_at_call 13; refine (callsIn_wide.2 (L3.out _)).mono ?_; rintro e w4 ⟨rfl, rfl⟩)
      | (refine ⟨trivial, rfl, ?_⟩; gi_at_call 22; refine (callsIn_wide.2 (L4.out _)).mono ?_; rintro e w4 ⟨rfl, rfl⟩)
      | (refine ⟨trivial, rfl, ?_⟩; gi_at_call 16; refine (callsIn_wide.2 (L5.out _)).mono ?_; rintro e w4 ⟨rfl, rfl⟩)
      | (refine ⟨trivial, rfl, ?_⟩; gi_at_call 19; refine (callsIn_wide.2 (L6.out _)).mono ?_; rintro e w4 ⟨rfl, rfl⟩)
      | (refine ⟨trivial, rfl, ?_⟩; gi_at_call 14; refine (callsIn_wide.2 (L7.out _)).mono ?_; rintro e w4 ⟨rfl, rfl⟩)
      | (refine ⟨trivial, rfl, ?_⟩; gi_at_call 23; refine (callsIn_wide.2 (L8.out _ _)).mono ?_; rintro e w5 ⟨rfl, hB⟩
         have z1 := y1.out.below hB y1.out.lt
         have f0 := z1.free 0
         have c0 := z1.cell (j := 0) rfl
         have z2 := hid (below_cat hB y2.out)
         have z3 := hid (defer_below y3.out hB)
         replace z1 := hid z1
         clear hB y1 y2 y3))
    have z4 := (z1.out.set 0 (.bool true)).eqA (A' := #[.bool true]) (by simp)
    have z5 := z2.out.setCell (p := ⟨w.heap.size, 0, none⟩) (Nat.le_refl _) (.bool true)
    have z6 := defer_cell z3.out ⟨w.heap.size, 0, none⟩ (.bool true) (by show W0.heap.size ≠ w.heap.size; omega)
    generalize World.setCell w5 ⟨w.heap.size, 0, none⟩ (.bool true) = Z at z4 z5 z6 ⊢
    have z7 : RowAt (Z.putObj W0.heap.size (.deferred none)) w.heap.size 4 #[.bool true] := (World.putObj_heap_other (by omega)).trans z4
    refine leave_one z6 ⟨_, results_box rfl _ _ w.heap.size (.bool true) rfl (z7.cell (j := 0) rfl) Try.underlying4, rfl, ?_⟩
    exact below_kept z5 ((Kept.refl (fun k => k = W0.heap.size) _).putObj _ _ (.inl rfl)) (Nat.le_refl _) (fun k hk => by omega)
end Go.Proofs.Ytaofpeajfgcjcaa
