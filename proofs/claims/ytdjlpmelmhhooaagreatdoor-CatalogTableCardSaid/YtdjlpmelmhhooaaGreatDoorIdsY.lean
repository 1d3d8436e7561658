/- Ids: Text, Draw, Derive, Cmp. -/
import Derived.Test.YtdjlpmelmhhooaaGreatDoorIdsX1
import Derived.Deep.MidRow
import Derived.Test.YtdjlpmelmhhooaaGreatDoorIdX
import Derived.Test.YtdjlpmelmhhooaaGreatDoorWkX
import Derived.OwnWalkIn
import Derived.TacticsInMore
import Derived.LoopNIn
import Derived.LoopIn
import Derived.Shelf.Abstract
import Derived.Shelf.RegionOpen
import Derived.Test.YtdjlpmelmhhooaaGreatDoorBasX3
import Derived.Test.YtdjlpmelmhhooaaGreatDoorHmA
import Derived.OwnWalk
import Derived.Test.YtdjlpmelmhhooaaGreatDoorShfY
import Derived.Test.YtdjlpmelmhhooaaGreatDoorLibA
namespace Go.Proofs.YtdjlpmelmhhooaaGreatDoor
section
section
open Go Go.RowKit
set_option linter.unusedSimpArgs false

theorem slice_id (B p q : Nat) (h0 : p < 16) (h1 : p ≤ q) (h2 : q ≤ 16) (W : World) : (Instr.sliceAt 23 (.pointer (some ⟨B, 0, none⟩)) (some (.int .i64 (p : Nat))) (some (.int .i64 (q : Nat))) none).run Tryz.prog W = .ok (.slice (some ⟨B, p, none⟩) (q - p) (16 - p)) W := by
  have hal : Tryz.prog.arrayLen 23 = 16 := by simp [Program.arrayLen, Tryz.underlying23]
  rw [run_sliceAt_array_lh W 23 ⟨B, 0, none⟩ (by simp [Program.arrayLen, Program.elem, Tryz.underlying23]) .i64 .i64 (p : Int) (q : Int) (by omega) (by omega) (by rw [hal]; omega)]
  have e : ∀ j, (⟨B, 0, none⟩ : Addr).add j = ⟨B, j, none⟩ := fun j => by rw [Addr.add_mid, Nat.zero_add]
  simp [slicedAt, hal, Program.elem, Tryz.underlying23, go_sem, Result.andThen, e]
  omega
theorem conv_piece {B p q t c : Nat} {l : List UInt8} {W : World} (hl : l.length = 16) (h1 : p ≤ q) (h2 : q ≤ 16) (r : RowAt W B t (idA l)) :
    (convert 83 9 (.slice (some ⟨B, p, none⟩) (q - p) c)).run Tryz.prog W = .ok (.string ⟨((l.drop p).take (q - p)).toArray⟩) W := by
  have := run_convert_bytes_arg (P := Tryz.prog) W 83 5 Tryz.underlying83 Tryz.underlying5 B p (q - p) c (((l.drop p).take (q - p)).map fun b => ((b.toNat : Nat) : Int)) (by simp; omega) (fun i hi => by
    have hx : p + i < l.length := by omega
    refine (r.cell (rowA_get 16 (idV l) (p + i) (by omega))).trans ?_
    simp [idV, List.getD_eq_getElem?_getD, List.getElem?_take, List.getElem?_drop, hi, hx]) 9 Tryz.underlying9
  rw [this]
  unfold strOfNums
  rw [List.map_map]
  have e : ∀ L : List UInt8, L.map ((fun n : Int => UInt8.ofNat n.toNat) ∘ fun b : UInt8 => ((b.toNat : Nat) : Int)) = L := fun L => by
    conv => rhs; rw [← List.map_id L]
    exact List.map_congr_left fun b _ => by simp
  rw [e]
end
section
open Go Go.RowKit
set_option linter.unusedSimpArgs false
set_option linter.unusedVariables false

def encI (p : Nat × Nat) : Array Value := #[.int .i64 (p.1 : Nat), .int .i64 (p.2 : Nat)]
theorem parts_none (w : World) : Calls Tryz.prog 44 #[] w fun e w' => e = .returned (.func (.func 83) #[] #[]) ∧ w = w' := by
  go_enter Tryz.func44, Tryz.ntmps44
  go_wp2
  go_ret
  exact ⟨rfl, rfl⟩

def atI (i : Nat) : Nat := [0, 4, 6, 8, 10, 16].getD i 0
def widI (i : Nat) : Nat := [4, 2, 2, 2, 6].getD i 0
def litI : Array Value := #[.int .i64 4, .int .i64 2, .int .i64 2, .int .i64 2, .int .i64 6]
theorem litI_get : ∀ i, i < 5 → litI[i]? = some (.int .i64 (widI i : Nat))
  | 0, _ => rfl
  | 1, _ => rfl
  | 2, _ => rfl
  | 3, _ => rfl
  | 4, _ => rfl
theorem atI_next : ∀ i, i < 5 → atI i + widI i = atI (i + 1) ∧ atI (i + 1) ≤ 16
  | 0, _ => by decide
  | 1, _ => by decide
  | 2, _ => by decide
  | 3, _ => by decide
  | 4, _ => by decide
theorem pairsI_split : ∀ i, i < 5 → pairsI = pairsI.take i ++ (atI i, atI (i + 1)) :: pairsI.drop (i + 1) ∧ pairsI.take (i + 1) = pairsI.take i ++ [(atI i, atI (i + 1))]
  | 0, _ => ⟨rfl, rfl⟩
  | 1, _ => ⟨rfl, rfl⟩
  | 2, _ => ⟨rfl, rfl⟩
  | 3, _ => ⟨rfl, rfl⟩
  | 4, _ => ⟨rfl, rfl⟩

attribute [local go_sem] Oper.semAt_some
set_option maxRecDepth 100000 in
set_option maxHeartbeats 8000000 in
theorem ids_on (w : World) : IterAt Tryz.prog 1 83 #[] encI (fun _ => False) (fun k => k = w.heap.size + 2) pairsI w := by
  intro l J Jx W hb hsz hJ hJx hY h0
  refine callsIn_of_wp Tryz.func83 rfl trivial ?_
  simp only [Tryz.ntmps83, List.size_toArray, List.length_cons, List.length_nil, Nat.reduceAdd, Nat.reduceSub, Array.replicate_succ, Array.replicate_zero, List.push_toArray, List.append_toArray, List.nil_append, List.cons_append]
  gi_wp2
  rw [show (#[.int .i64 4, .int .i64 2, .int .i64 2, .int .i64 2, .int .i64 6] : Array Value) = litI from rfl]
  have hrow0 : RowAt (W.alloc (.cells litI 3)) (w.heap.size + 2) 3 litI := by rw [← hsz]; exact RowAt.new _ _ _
  have hj0 := hJ [] W (W.alloc (.cells litI 3)) h0 ((Kept.refl _ _).alloc _)
  have hsz0 : W.heap.size + 1 ≤ (W.alloc (.cells litI 3)).heap.size := by simp
  obtain ⟨W0, hW0⟩ : ∃ W0, W0 = W.alloc (.cells litI 3) := ⟨_, rfl⟩
  rw [← hW0] at hrow0 hj0 hsz0 ⊢
  obtain ⟨nb, hnb⟩ : ∃ nb, nb = w.heap.size + 2 := ⟨_, rfl⟩
  rw [← hnb] at hrow0 ⊢
  replace hrow0 := hid hrow0
  replace hj0 := hid hj0
  replace hnb := hid hnb
  clear hW0 h0
  gi_loopw [2, 7] (fun q p wr => ∃ i : Nat, p = .int .i64 i ∧ i ≤ 5 ∧ q = .int .i64 (atI i : Nat) ∧ Hid (J (pairsI.take i) wr) ∧ Hid (RowAt wr nb 3 litI) ∧ W.heap.size + 1 ≤ wr.heap.size)
    (fun _ p _ => 5 - (intOf p).toNat)
  case atStart => exact ⟨0, rfl, by omega, rfl, hj0, hrow0, hsz0⟩
  case round =>
    clear hj0 hrow0
    obtain ⟨i, rfl, hi, rfl, hj, hrow, hsw⟩ := hrel
    by_cases hlt : i < 5
    · have hc : wr.cell? ⟨nb, i, none⟩ = some (.int .i64 (widI i : Nat)) := hrow.out.cell (litI_get i hlt)
      obtain ⟨hn1, hn2⟩ := atI_next i hlt
      obtain ⟨hs1, hs2⟩ := pairsI_split i hlt
      obtain ⟨fn, tmps, assign, body, hy, hR⟩ := hY (pairsI.take i) (atI i, atI (i + 1)) _ wr hs1 hsw hj.out
      simp only [encI] at hy
      obtain ⟨A, hA⟩ : ∃ A, A = atI i := ⟨_, rfl⟩
      obtain ⟨D, hD⟩ : ∃ D, D = widI i := ⟨_, rfl⟩
      obtain ⟨E, hE⟩ : ∃ E, E = atI (i + 1) := ⟨_, rfl⟩
      rw [← hA, ← hD, ← hE] at hn1
      rw [← hE] at hn2
      rw [← hD] at hc
      rw [← hA, ← hE] at hy
      have hsum : (A : Int) + (D : Int) = (E : Int) := by omega
      have hd : (i : Int) < 5 := by omega
      have hdb : decide ((i : Int) < 5) = true := decide_eq_true hd
      have hs1' := hid hs1
      have hs2' := hid hs2
      have hEr := hid hE
      rw [← hA]
      clear hs1 hs2 hn1 hA hD hE
      gi_wp2
      refine ⟨rfl, hR.mono ?_⟩
      rintro e W2 (⟨rfl, hj4, hk4⟩ | ⟨rfl, hj4, hk4⟩)
      · have rn4 := hid (hk4.row hrow.out (fun h => h hnb.out))
        have hs4 := Nat.le_trans hsw hk4.size
        have hj5 := hid hj4
        clear hj4 hk4 hj hrow hy hR hc
        gi_wp2
        go_roundw
        case rel => exact ⟨i + 1, by go_num, by omega, by rw [hEr.out], hid (by rw [hs2'.out]; exact hj5.out), rn4, hs4⟩
        case measure => simp [intOf]; omega
      · gi_wp2
        refine bodyPost_ret (results_none rfl _ _ _) rfl ?_
        exact ⟨⟨_, rfl⟩, .inr ⟨_, _, _, hs1'.out, hj4⟩⟩
    · obtain rfl : i = 5 := by omega
      gi_wp2
      refine bodyPost_end (results_none rfl _ _ _) rfl ?_
      exact ⟨⟨_, rfl⟩, .inl hj.out⟩
end
section
open Go Go.RowKit
set_option linter.unusedSimpArgs false
set_option linter.unusedVariables false

def pieceS (l : List UInt8) (p : Nat × Nat) : ByteArray := ⟨(pieceI l p).toArray⟩
theorem join_text (l : List UInt8) : Lib.join ((List.map (pieceS l) pairsI).map (·.data.toList)) [45] = textI l := by
  simp [Lib.join, List.intercalate, pairsI, pieceS, pieceI, textI, List.intersperse]
attribute [local go_sem] Oper.semAt_some
set_option maxRecDepth 100000 in
set_option maxHeartbeats 8000000 in
theorem idText_in (l : List UInt8) (hl : l.length = 16) (w : World) :
    CallsIn Fence.wide 0 Tryz.prog 12 #[.agg (idA l)] w fun e w' => e = .returned (.string ⟨(textI l).toArray⟩) ∧ Below w.heap.size w w' := by
  refine callsIn_of_wp_marks Tryz.func12 rfl trivial ?_
  simp only [Tryz.ntmps12, List.size_toArray, List.length_cons, List.length_nil, Nat.reduceAdd, Nat.reduceSub, Array.replicate_succ, Array.replicate_zero, List.push_toArray, List.append_toArray, List.nil_append, List.cons_append]
  gi_wp2_with (refine ⟨trivial, rfl, ?_⟩; gi_at_call 44; refine (callsIn_wide.2 (parts_none _)).mono ?_; rintro e w1 ⟨rfl, rfl⟩)
  generalize hW0 : World.alloc _ (Obj.cells #[Value.slice none 0 0] 35) = W0
  have hsz : W0.heap.size = w.heap.size + 2 := by rw [← hW0]; simp
  have m1 : RowAt W0 w.heap.size 23 (idA l) := by rw [← hW0]; exact (RowAt.new w _ _).alloc _
  have m3 : RowAt W0 (w.heap.size + 1) 35 #[.slice none 0 0] := by rw [← hW0]; exact RowAt.newS w _ _ _ _
  have hb0 : Below w.heap.size w W0 := by rw [← hW0]; exact below_al (below_al (Below.refl _ _) _) _
  have hG0 : Grows (w.heap.size + 1) (W0.heap.size + 3) [] w W0 := ⟨hb0, _, m3, World.ownsRow_nil _ _ _ _⟩
  clear hW0 hb0 m3
  refine wp_iter_put_at (c₀ := 1) (gf := 83) (lb := #[]) rfl (enters_of Tryz.func83 (by kernel_rfl) rfl) (ids_on W0)
    (fun k hk => hk.elim) (fun k hk => by omega) (fun _ => rfl) (fun p => [(4, .int .i64 (p.1 : Nat)), (5, .int .i64 (p.2 : Nat))])
    (fun pre W => Grows (w.heap.size + 1) (W0.heap.size + 3) (pre.map (pieceS l)) w W ∧ RowAt W w.heap.size 23 (idA l)) (fun _ _ _ => False) ?hI ?hIx ⟨hG0, m1⟩ ?assign ?body ?done ?stop
  case hI =>
    rintro pre X Y ⟨h, h1⟩ hk
    refine ⟨h.kept hk ?_ ?_ ?_, hk.row h1 ?_⟩
    · rintro (h | h | h)
      · exact h
      · omega
      · omega
    · rintro k (h | h | h)
      · exact h.elim
      · omega
      · omega
    · rintro k (h | h | h)
      · exact h.elim
      · omega
      · omega
    · rintro (h | h | h)
      · exact h
      · omega
      · omega
  case hIx => intro _ _ _ _ h; exact h.elim
  case assign =>
    intro k x W K hK
    gi_wp2
    simpa [encI, putAll] using hK
  case stop => intro _ _ _ _ _ _ _ h; exact h.elim
  case body =>
    rintro pre ⟨p, q⟩ post W hx hsW hr ⟨⟨hbel, v, g1, g2⟩, hid1⟩
    have hmem : (p, q) ∈ pairsI := by rw [hx]; simp
    have hpq3 : p < 16 ∧ p ≤ q ∧ q ≤ 16 := by
      simp only [pairsI, List.mem_cons, Prod.mk.injEq, List.not_mem_nil, or_false] at hmem
      omega
    obtain ⟨hp16, hpq, hq16⟩ := hpq3
    have hplen : pre.length ≤ 5 := by
      have := congrArg List.length hx
      simp [pairsI] at this
      omega
    have hsl := fun W => slice_id w.heap.size p q hp16 hpq hq16 W
    obtain ⟨H, hH⟩ : ∃ H, H = hexL := ⟨_, rfl⟩
    obtain ⟨Xp, hXp⟩ : ∃ Xp : ByteArray, ⟨((l.drop p).take (q - p)).toArray⟩ = Xp := ⟨_, rfl⟩
    have LH0 : ∀ w, Calls Tryz.prog 45 #[] w fun e w' => e = .returned (.agg #[.string H, .int .i64 4, .bool false]) ∧ Below w.heap.size w w' := fun w => by rw [hH]; exact hex_any w
    obtain ⟨Yp, hYp⟩ : ∃ Yp, Yp = pieceS l (p, q) := ⟨_, rfl⟩
    have LE0 : ∀ w, Calls Tryz.prog 46 #[.agg #[.string H, .int .i64 4, .bool false], .string Xp] w fun e w' => e = .returned (.string Yp) ∧ Below w.heap.size w w' := fun w => by
      have := encode_any hexL 4 false good_hex Xp (by rw [← hXp]; simp [ByteArray.size]; omega) w
      rw [hH, hYp]
      rw [← hXp] at this ⊢
      exact this
    have LH := hid LH0
    have LE := hid LE0
    obtain ⟨i, hi, hz0, hz1, hz2⟩ := info_parts info_str
    replace hi := hid hi
    replace hz0 := hid hz0
    replace hz1 := hid hz1
    replace hz2 := hid hz2
    have hYr := hid hYp
    have hXq := hXp
    replace g1 := hid g1
    replace g2 := hid g2
    replace hid1 := hid hid1
    replace hbel := hid hbel
    replace hx := hid hx
    clear LH0 LE0 hH hmem hYp hr
    simp only [encI]
    rw [fold2]
    simp only [putAll, List.zip_toArray, List.foldl_toArray', List.foldl_toArray, List.zip_cons_cons, List.zip_nil_left, List.foldl_cons, List.foldl_nil, List.setIfInBounds_toArray, List.set_cons_zero, List.set_cons_succ, List.size_toArray, List.length_cons, List.length_nil]
    gi_wp2
    refine wpIn_region_each_round 8 20 (phiOf [QV (v), QV (.agg #[.string H, .int .i64 4, .bool false]), QV (.int .i64 (p : Int)), QV (.int .i64 (q : Int)), QV (.slice (some ⟨w.heap.size, p, none⟩) (q - p) (16 - p)), QV (.string Xp), QV (.string Yp), SV [Yp]]) (by kernel_rfl) (by kernel_rfl) (by kernel_rfl) (by kernel_rfl) (by kernel_rfl) (by kernel_rfl) rfl (phi_stays ?c5_st) ?c5_g ?c5_op ?c5_fin
    case c5_st => simp only [List.forall_mem_cons]; exact ⟨stays_qv _, stays_qv _, stays_qv _, stays_qv _, stays_qv _, stays_qv _, stays_qv _, stays_sv _, fun _ h => by cases h⟩
    case c5_g =>
      change ∀ p ∈ ([] : List (Nat × Bool)), _
      intro p hp
      cases hp
    case c5_op =>
      simp only [List.take_succ_cons, List.take_zero]
      refine ⟨fun a V hB hold hdep => ?_, ?_⟩
      · have h3 : a.tmps.getD 3 undef = .pointer (some ⟨w.heap.size + 1, 0, none⟩) := (hold 3 (by kernel_rfl)).trans rfl
        have hc : V.cell? ⟨w.heap.size + 1, 0, none⟩ = some (v) := (g1.out.below hB g1.out.lt).cell rfl
        unfold OpOk
        simp [execOp, go_sem, eval_tmp, eval_const, eval_func, h3, hc]
        exact ⟨Below.refl _ _, rfl⟩
      refine ⟨fun a V hB hold hdep => ?_, ?_⟩
      · unfold OpOk
        simp [execOp, go_sem, eval_tmp, eval_const, eval_func]
        (with_reducible refine (LH.out _).mono ?_); rintro e W2 ⟨rfl, hb⟩; exact ⟨_, rfl, hb, rfl⟩
      refine ⟨fun a V hB hold hdep => ?_, ?_⟩
      · have h4 : a.tmps.getD 4 undef = .int .i64 (p : Int) := (hold 4 (by kernel_rfl)).trans rfl
        unfold OpOk
        simp [execOp, go_sem, eval_tmp, eval_const, eval_func, h4]
        exact ⟨Below.refl _ _, rfl⟩
      refine ⟨fun a V hB hold hdep => ?_, ?_⟩
      · have h5 : a.tmps.getD 5 undef = .int .i64 (q : Int) := (hold 5 (by kernel_rfl)).trans rfl
        unfold OpOk
        simp [execOp, go_sem, eval_tmp, eval_const, eval_func, h5]
        exact ⟨Below.refl _ _, rfl⟩
      refine ⟨fun a V hB hold hdep => ?_, ?_⟩
      · have h1 : a.tmps.getD 1 undef = .pointer (some ⟨w.heap.size, 0, none⟩) := (hold 1 (by kernel_rfl)).trans rfl
        have h11 : a.tmps.getD 11 undef = .int .i64 (p : Int) := hdep 2 11 (by kernel_rfl) rfl
        have h12 : a.tmps.getD 12 undef = .int .i64 (q : Int) := hdep 3 12 (by kernel_rfl) rfl
        unfold OpOk
        simp [execOp, go_sem, eval_tmp, eval_const, eval_func, h1, h11, h12, hsl]
        exact ⟨Below.refl _ _, rfl⟩
      refine ⟨fun a V hB hold hdep => ?_, ?_⟩
      · have h13 : a.tmps.getD 13 undef = .slice (some ⟨w.heap.size, p, none⟩) (q - p) (16 - p) := hdep 4 13 (by kernel_rfl) rfl
        have hcv := conv_piece (c := 16 - p) hl hpq hq16 (hid1.out.below hB hid1.out.lt)
        rw [hXp] at hcv
        unfold OpOk
        simp [execOp, go_sem, eval_tmp, eval_const, eval_func, h13, hcv]
        exact ⟨Below.refl _ _, rfl⟩
      refine ⟨fun a V hB hold hdep => ?_, ?_⟩
      · have h10 : a.tmps.getD 10 undef = .agg #[.string H, .int .i64 4, .bool false] := hdep 1 10 (by kernel_rfl) rfl
        have h14 : a.tmps.getD 14 undef = .string Xp := hdep 5 14 (by kernel_rfl) rfl
        unfold OpOk
        simp [execOp, go_sem, eval_tmp, eval_const, eval_func, h10, h14]
        (with_reducible refine (LE.out _).mono ?_); rintro e W2 ⟨rfl, hb⟩; exact ⟨_, rfl, hb, rfl⟩
      refine ⟨fun a V hB hold hdep => ?_, ?_⟩
      · have h15 : a.tmps.getD 15 undef = .string Yp := hdep 6 15 (by kernel_rfl) rfl
        have g15 := (Array.getD_eq_getD_getElem? (xs := a.tmps) (i := 15) (d := undef)).symm.trans h15
        unfold OpOk
        simp [execOp, go_sem, eval_tmp, eval_const, eval_func, g15]
        exact ⟨below_al (Below.refl _ _) _, sv_new _ _ [Yp] _ rfl⟩
      trivial
    case c5_fin =>
      intro X V hB hX
      have e9 : X 9 = v := hX 0 9 (by decide) rfl
      have e10 : X 10 = .agg #[.string H, .int .i64 4, .bool false] := hX 1 10 (by decide) rfl
      have e11 : X 11 = .int .i64 (p : Int) := hX 2 11 (by decide) rfl
      have e12 : X 12 = .int .i64 (q : Int) := hX 3 12 (by decide) rfl
      have e13 : X 13 = .slice (some ⟨w.heap.size, p, none⟩) (q - p) (16 - p) := hX 4 13 (by decide) rfl
      have e14 : X 14 = .string Xp := hX 5 14 (by decide) rfl
      have e15 : X 15 = .string Yp := hX 6 15 (by decide) rfl
      obtain ⟨s16, e16, hl16, hc16⟩ := hX 7 16 (by decide) rfl
      clear hX
      change wpList Tryz.prog _ _ _ { tmps := putAll [(9, X 9), (10, X 10), (11, X 11), (12, X 12), (13, X 13), (14, X 14), (15, X 15), (16, X 16)] _, defers := _ } V
      simp only [Act.put, putAll, List.foldl_cons, List.foldl_nil, List.setIfInBounds_toArray, List.set_cons_zero, List.set_cons_succ, List.drop_succ_cons, List.drop_zero, e9, e10, e11, e12, e13, e14, e15, e16]
      clear e9 e10 e11 e12 e13 e14 e15 e16
      have hVs := hB.size
      have hown : Strs V (W0.heap.size + 3) v (List.map (pieceS l) pre) := g2.out.kept (T := fun _ => False) (Kept.of_below hB) (fun _ _ h => h)
      have l2 := hid hown.lt
      have g1V := g1.out.below hB g1.out.lt
      have g1c : ∀ w2, V.grownBy w2 v.ownBlock → RowAt w2 (w.heap.size + 1) 35 #[v] := fun w2 hg => grown_row g1V hg (fun e => by have := l2.out _ e.symm; omega)
      replace g1V := hid g1V
      have hB' := hid hB
      have hlenp : (List.map (pieceS l) pre).length = pre.length := List.length_map ..
      unfold Strs at hown
      rw [hlenp] at hown
      replace hown := hid hown
      replace g1c := hid g1c
      clear hB hlenp
      go_wp2_with (at_builtin; refine wpList_append_own_at _ rfl _ _ 35 rfl (W0.heap.size + 3) 9 i _ 1 16 Tryz.underlying35 hi.out hz0.out hz1.out hz2.out rfl (by decide) _ _ _ rfl hown.out ⟨s16, 0, none⟩ 1 1 [.string Yp] rfl rfl (fun j u hj => by
          match j, hj with
          | 0, hj => simp at hj; subst hj; exact hc16 0 Yp rfl) (fun x hx => by simp at hx; subst hx; rfl) (by unfold maxLen; omega) (by omega) (by omega) ?_; intro v1 w2 hown1 hgrow1 hnil1 hat1; obtain ⟨q1, k1, rfl⟩ := own_shape hown1
                   have r5 := g1c.out w2 hgrow1
                   have d5 : w2.cell? ⟨w.heap.size + 1, 0, none⟩ = some v := r5.cell (j := 0) rfl
                   have e5 := r5.free 0
                   replace r5 := hid r5)
      refine ⟨rfl, ?_⟩
      have hgr : V.grownBy w2 v.ownBlock := hgrow1
      have r6 : RowAt (w2.setCell ⟨w.heap.size + 1, 0, none⟩ (.slice q1 (pre.length + 1) k1)) (w.heap.size + 1) 35 #[.slice q1 (pre.length + 1) k1] := (r5.out.set 0 _).eqA (by simp)
      have hk2 : Kept (fun k => v.ownBlock = some k) W w2 := (Kept.of_below hB'.out).trans ⟨hgr.os, hgr.tape, hgr.output, hgr.size, fun k hk hs => hgr.block k hk (fun e => hs e.symm)⟩
      have hk3 : Kept (fun k => v.ownBlock = some k ∨ k = w.heap.size + 1) W (w2.setCell ⟨w.heap.size + 1, 0, none⟩ (.slice q1 (pre.length + 1) k1)) := (hk2.mono fun k _ h => .inl h).setCell _ (.inl (.inr rfl)) _
      refine And.intro ?_ ?_
      · refine hk3.mono ?_
        rintro k _ (h | h) (h' | h')
        · have := (l2.out k h).1; rcases h' with h' | h' <;> omega
        · have := (l2.out k h).1; omega
        · rcases h' with h' | h' <;> omega
        · omega
      · refine ⟨⟨below_kept hbel.out hk3 (Nat.le_refl _) ?_, _, r6, ?_⟩, hk3.row hid1.out ?_⟩
        · rintro k (h | h)
          · have := (l2.out k h).1; omega
          · omega
        · have := ownsRow_setCell_other hown1 (a := ⟨w.heap.size + 1, 0, none⟩) (fun e => ?_) (.slice q1 (pre.length + 1) k1)
          · unfold Strs; rw [List.map_append]; simpa [hYr.out] using this
          · rcases hat1 with h | h
            · rw [h] at e; have := (l2.out _ e).1; simp at this; omega
            · rw [h] at e; simp at e; omega
        · rintro (h | h)
          · have := (l2.out _ h).1; omega
          · omega
  case done =>
    rintro W hsW ⟨⟨hbel, v, g1, g2⟩, h1⟩ hd
    have hlen : (List.map (pieceS l) pairsI).length = 5 := rfl
    have hz : ∀ s ∈ List.map (pieceS l) pairsI, s.size ≤ 32 := by
      intro s hs
      obtain ⟨p, hp, rfl⟩ := List.mem_map.1 hs
      show (pieceI l p).toArray.size ≤ 32
      rw [List.size_toArray]
      unfold pieceI
      rw [hexE_len]
      simp only [pairsI, List.mem_cons, List.not_mem_nil, or_false] at hp
      rcases hp with rfl | rfl | rfl | rfl | rfl <;> simp <;> omega
    obtain ⟨a, c, rfl, hS⟩ := g2.read hlen (fun s hs => Nat.le_trans (hz s hs) (by decide))
    obtain ⟨bk, o, cc, LJ⟩ : ∃ z1 z2 z3 : Nat, ∀ W2, Below W.heap.size W W2 → Calls Tryz.prog 47 #[.slice a 5 c, .string ⟨#[45]⟩] W2 fun e w' => e = .returned (.string ⟨(textI l).toArray⟩) ∧ Below W2.heap.size W2 w' := by
      refine ⟨0, 0, 0, fun W2 hB2 => ?_⟩
      have hS2 := hS.below hB2
      rcases g2.2 with ⟨hv, h0⟩ | ⟨g, cap, cur, hv, r1, r2, r3, _⟩
      · cases h0
      obtain ⟨rfl, rfl⟩ : a = some ⟨g, 0, none⟩ ∧ c = cap := by
        simp only [Value.slice.injEq] at hv
        exact ⟨hv.1, hv.2.2⟩
      have hgl := (g2.lt g rfl).2
      have hx : ∀ (j : Nat) x, (List.map (pieceS l) pairsI)[j]? = some x → W2.cell? ⟨g, 0 + j, none⟩ = some (.string x) := fun j x hj => by
        obtain ⟨y, hy, hc⟩ := hS2.at hj
        simp only [Option.some.injEq] at hy
        subst hy
        by_cases hj0 : j = 0 <;> simpa [Addr.add, hj0] using hc
      refine (shj_strings_Join g 0 c (List.map (pieceS l) pairsI) ⟨#[45]⟩ W2 hx (Nat.lt_of_lt_of_le hgl hB2.size) (by simp [pairsI]) ?_ ?_).mono ?_
      · rw [hlen] at r3; rw [hlen]; exact r3
      · rw [show (⟨#[45]⟩ : ByteArray).data.toList = [45] from rfl, join_text, textI_len l hl]; decide
      · rintro e w' ⟨rfl, hB⟩
        rw [show (⟨#[45]⟩ : ByteArray).data.toList = [45] from rfl, join_text]
        exact ⟨rfl, hB⟩
    have c5 := g1.cell (j := 0) rfl
    have f5 := g1.free 0
    replace g1 := hid g1
    replace hbel := hid hbel
    replace LJ := hid LJ
    clear g2 hS hz hlen
    rw [hsz] at hd
    replace hd := hid hd
    gi_wp2_with (refine ⟨trivial, rfl, ?_⟩; gi_at_call 47; refine (callsIn_wide.2 (LJ.out _ (Below.refl _ _))).mono ?_; rintro e w5 ⟨rfl, hB5⟩)
    refine leave_one ((hB5.block _ (by omega)).trans hd.out) ⟨_, results_tmp rfl _ _ _, rfl, ?_⟩
    exact below_kept (hbel.out.trans (hB5.mono (by have := hbel.out.size; omega))) ((Kept.refl (fun k => k = w.heap.size + 2) _).putObj _ _ (.inl rfl)) (Nat.le_refl _) (fun k hk => by omega)
end
end
section
section
open Go Go.RowKit
set_option linter.unusedSimpArgs false
set_option linter.unusedVariables false

/-- What is drawn. -/
def drawL (l : List UInt8) : List UInt8 := (l.set 6 (UInt8.ofNat ((l.getD 6 0).toNat % 16 + 64))).set 8 (UInt8.ofNat ((l.getD 8 0).toNat % 64 + 128))
theorem drawL_len (l : List UInt8) : (drawL l).length = l.length := by simp [drawL]
theorem and_or_six (u : Nat) (h : u < 256) : bits .or .u8 (bits .and .u8 (u : Int) 15) 64 = ((u % 16 + 64 : Nat) : Int) := by
  have : ∀ u : Fin 256, bits .or .u8 (bits .and .u8 ((u.val : Nat) : Int) 15) 64 = ((u.val % 16 + 64 : Nat) : Int) := by decide +kernel
  exact this ⟨u, h⟩
theorem and_or_eight (u : Nat) (h : u < 256) : bits .or .u8 (bits .and .u8 (u : Int) 63) 128 = ((u % 64 + 128 : Nat) : Int) := by
  have : ∀ u : Fin 256, bits .or .u8 (bits .and .u8 ((u.val : Nat) : Int) 63) 128 = ((u.val % 64 + 128 : Nat) : Int) := by decide +kernel
  exact this ⟨u, h⟩
theorem range_bytes {w : World} {e : TypeId} {base : Nat} {g c n : Nat} {l : List UInt8} (h : BytesE w e base (.slice (some ⟨g, 0, none⟩) n c) l) (hn : n = 16) (hl : l.length = 16) : w.rangeAt g 0 (idA l).toList := by
  subst hn
  intro j v hj
  have hj16 : j < 16 := by
    have := (List.getElem?_eq_some_iff.1 hj).1
    rw [Array.length_toList, idA_size] at this
    exact this
  rw [Array.getElem?_toList] at hj
  have : (idA l)[j]? = some (idV l j) := rowA_get 16 (idV l) j hj16
  rw [this] at hj
  obtain rfl := Option.some.inj hj
  have hjl : j < l.length := by omega
  have := (h.cell j hjl).1
  rw [Nat.zero_add]
  rw [this]
  simp [idV, List.getD_eq_getElem?_getD, hjl]

theorem arr16 (g c : Nat) (w : World) : (Instr.arrayAt 23 (.slice (some ⟨g, 0, none⟩) 16 c)).run Tryz.prog w = .ok (.pointer (some ⟨g, 0, none⟩)) w := by
  simp [Instr.arrayAt, Sem.run_bind, run_underlying Tryz.underlying23]

end
section
open Go Go.RowKit
set_option linter.unusedSimpArgs false
set_option linter.unusedVariables false

def deriveL (key name : ByteArray) : List UInt8 := drawL ((hmacS key name).data.toList.take 16)
theorem deriveL_len (key name : ByteArray) : (deriveL key name).length = 16 := by
  have := hmacS_size key name
  have h2 : (hmacS key name).data.toList.length = 32 := by rw [← this]; simp
  rw [deriveL, drawL_len, List.length_take, h2]; rfl
theorem short16 (k : ByteArray) (h : k.size = 32) : k.extract 0 16 = idS (k.data.toList.take 16) := by
  refine ByteArray.ext ?_
  rw [ByteArray.data_extract]
  refine Array.ext' ?_
  simp [idS]

end
section
open Go Go.RowKit
set_option linter.unusedSimpArgs false
set_option linter.unusedVariables false

theorem sliceAll16 (B : Nat) (W : World) : (Instr.sliceAt 23 (.pointer (some ⟨B, 0, none⟩)) none none none).run Tryz.prog W = .ok (.slice (some ⟨B, 0, none⟩) 16 16) W := by
  have hal : Tryz.prog.arrayLen 23 = 16 := by simp [Program.arrayLen, Tryz.underlying23]
  simp [Instr.sliceAt, hal, Program.elem, Tryz.underlying23, go_sem, Result.andThen, Sem.run_bind, run_underlying Tryz.underlying23]

set_option maxRecDepth 100000 in
set_option maxHeartbeats 4000000 in
theorem cmpId_any (l m : List UInt8) (hl : l.length = 16) (hm : m.length = 16) (w : World) : Calls Tryz.prog 18 #[.agg (idA l), .agg (idA m)] w fun e w' => e = .returned (.int .i64 (Lib.compareBytes l m)) ∧ Below w.heap.size w w' := by
  have LC : ∀ W, Calls Tryz.prog 54 #[.string (idS l), .string (idS m)] W fun e w' => e = .returned (.int .i64 (Lib.compareBytes l m)) ∧ W = w' := fun W => (compare_any (idS l) (idS m) W).mono fun e w' ⟨h1, h2⟩ => ⟨by rw [h1]; simp [idS], h2.symm⟩
  have cv1 : ∀ W b t, RowAt W b t (idA l) → (convert 83 9 (.slice (some ⟨b, 0, none⟩) 16 16)).run Tryz.prog W = .ok (.string (idS l)) W := fun W b t r => conv_id hl r
  have cv2 : ∀ W b t, RowAt W b t (idA m) → (convert 83 9 (.slice (some ⟨b, 0, none⟩) 16 16)).run Tryz.prog W = .ok (.string (idS m)) W := fun W b t r => conv_id hm r
  obtain ⟨A, hA⟩ : ∃ A, A = idA l := ⟨_, rfl⟩
  obtain ⟨B, hB⟩ : ∃ A, A = idA m := ⟨_, rfl⟩
  obtain ⟨s, hs⟩ : ∃ s, s = idS l := ⟨_, rfl⟩
  obtain ⟨t, ht⟩ : ∃ s, s = idS m := ⟨_, rfl⟩
  obtain ⟨k, hk⟩ : ∃ s, s = Lib.compareBytes l m := ⟨_, rfl⟩
  rw [← hA, ← hs] at cv1
  rw [← hB, ← ht] at cv2
  rw [← hs, ← ht, ← hk] at LC
  rw [← hA, ← hB, ← hk]
  replace LC := hid LC
  replace cv1 := hid cv1
  replace cv2 := hid cv2
  have hsl := sliceAll16
  clear hA hB hs ht hk hl hm
  go_enter Tryz.func18, Tryz.ntmps18
  go_wp2
  generalize hW0 : World.alloc (World.alloc w _) _ = W0
  have r1 : RowAt W0 w.heap.size 23 A := by rw [← hW0]; exact (RowAt.new w _ _).alloc _
  have r2 : RowAt W0 (w.heap.size + 1) 23 B := by rw [← hW0]; exact RowAt.newS w _ _ _ _
  have b0 : Below w.heap.size w W0 := by rw [← hW0]; exact below_al (below_al (Below.refl _ _) _) _
  have h1 := fun q : Sub W0 => cv1.out q.x _ _ (r1.below q.h r1.lt)
  have h2 := fun q : Sub W0 => cv2.out q.x _ _ (r2.below q.h r2.lt)
  replace r1 := hid r1
  replace r2 := hid r2
  replace b0 := hid b0
  clear hW0
  refine wp_region_sub (by kernel_rfl) (by kernel_rfl) ?_
  repeat (go_big_quiet_step (first
    | (go_at_call 54; with_reducible refine Sub.same _ (LC.out _))))
  refine wpQuiet_nil ?_
  intro q
  go_wp2
  go_ret
  exact ⟨rfl, below_cat q.h b0.out⟩
end
section
open Go Go.RowKit
set_option linter.unusedSimpArgs false
set_option linter.unusedVariables false

set_option maxRecDepth 100000 in
set_option maxHeartbeats 4000000 in
theorem refOf_any (s : ByteArray) (hs : s.size = 16) (w : World) : Calls Tryz.prog 51 #[.string s] w fun e w' => e = .returned (.agg (idA s.data.toList)) ∧ Below w.heap.size w w' := by
  obtain ⟨l, hl⟩ : ∃ l, l = s.data.toList := ⟨_, rfl⟩
  have hget : ∀ k (h : k < s.size), (s[k]).toNat = (l.getD k 0).toNat := fun k h => by
    rw [hl]
    have h2 : k < s.data.size := h
    rw [List.getD_eq_getElem?_getD, Array.getElem?_toList, Array.getElem?_eq_getElem h2]
    rfl
  rw [← hl]
  replace hget := hid hget
  clear hl
  go_enter Tryz.func51, Tryz.ntmps51
  go_wp2
  generalize hW : World.alloc (World.alloc w _) _ = W
  have r0 : RowAt W w.heap.size 23 (idA (List.replicate 16 0)) := by rw [← hW]; exact (RowAt.new w _ _).alloc _
  have r1 : RowAt W (w.heap.size + 1) 23 (rowA 16 (copV l 0)) := by rw [copV_zero, ← hW]; exact RowAt.newS w _ _ _ _
  have hb : Below w.heap.size w W := by rw [← hW]; exact below_al (below_al (Below.refl _ _) _) _
  obtain ⟨g, hg⟩ : ∃ g, g = w.heap.size + 1 := ⟨_, rfl⟩
  obtain ⟨h, hh⟩ : ∃ h, h = w.heap.size := ⟨_, rfl⟩
  have hne : h ≠ g := by omega
  have hgw : w.heap.size ≤ g := by omega
  have hhw : w.heap.size ≤ h := by omega
  rw [← hg] at r1
  rw [← hh] at r0
  rw [← hg, ← hh]
  replace r0 := hid r0
  replace r1 := hid r1
  replace hb := hid hb
  clear hW hg hh
  go_loopw [4] (fun p wr => ∃ k : Nat, p = .int .i64 k ∧ k ≤ 16 ∧ Hid (RowAt wr h 23 (idA (List.replicate 16 0))) ∧ Hid (RowAt wr g 23 (rowA 16 (copV l k))) ∧ Hid (Below w.heap.size w wr)) (fun p _ => 16 - (intOf p).toNat)
  case atStart => exact ⟨0, rfl, by omega, r0, r1, hb⟩
  case round =>
    clear r0 r1 hb
    obtain ⟨k, rfl, hk, r0, r1, hb⟩ := hrel
    by_cases hlt : k < 16
    · have hki : (k : Int) < 16 := by omega
      have hks : k < s.size := by omega
      have hd := r1.out.cell (rowA_get 16 (copV l k) k hlt)
      have hf := r1.out.free k
      have r1' := hid ((r1.out.set k (idV l k)).eqA (copV_set l k))
      have r0' := hid (r0.out.other ⟨g, k, none⟩ (idV l k) hne)
      have hb' := hid (hb.out.setCell (p := ⟨g, k, none⟩) hgw (idV l k))
      unfold idV at r1' r0' hb'
      have hc := hget.out k hks
      obtain ⟨u, hu⟩ : ∃ u, u = (l.getD k 0).toNat := ⟨_, rfl⟩
      rw [← hu] at hc r1' r0' hb'
      clear hu
      go_wp2
      go_roundw
      case rel => exact ⟨k + 1, by go_num, by omega, r0', r1', hb'⟩
      case measure => simp [intOf]; omega
    · obtain rfl : k = 16 := by omega
      have r2 := hid (r1.out.eqA (copV_all l))
      have hAi : (Tryz.prog.info? 23).map (·.size) = some (idA l).size := by rw [info16, idA_size]
      replace hAi := hid hAi
      clear r1
      obtain ⟨A, hA⟩ : ∃ A, A = idA l := ⟨_, rfl⟩
      have hAone : A.all (·.oneCell') = true := by rw [hA]; exact idA_one _
      have hAsz : A.size = 16 := by rw [hA, idA_size]
      rw [← hA] at r2 hAi
      replace hAone := hid hAone
      replace hAsz := hid hAsz
      replace hA := hid hA
      go_wp2_with (first
        | (with_reducible refine at_op (some 14) (.load 23 (.tmp 3)) ?_
           refine wpList_load_row (o := ⟨some 14, _, _, _, _, _⟩) rfl 23 (.tmp 3) rfl g rfl 23 A (0, 0) _ r2.out Tryz.underlying23 rfl hAi.out ?_)
        | (with_reducible refine at_op none (.store 23 (.tmp 2) (.tmp 14)) ?_
           refine wpList_store_row (o := ⟨none, .store _ (.tmp 2) (.tmp 14), _, _, _, _⟩) rfl 23 (.tmp 2) (.tmp 14) rfl h A rfl rfl 23 _ r0.out hAi.out (by rw [hAsz.out, idA_size]) hAone.out ?_))
      exact bodyPost_ret (results_cell_row rfl _ _ h 23 A (0, 0) _ rfl (r0.out.setRow _) Tryz.underlying23 rfl hAi.out) rfl ⟨by rw [hA.out], below_setRow hb.out hhw _⟩
end
section
open Go Go.RowKit
set_option linter.unusedSimpArgs false
set_option linter.unusedVariables false

theorem draw_set (l : List UInt8) (hl : l.length = 16) : ((idA l).setIfInBounds 6 (.int .u8 (((l.getD 6 0).toNat % 16 + 64 : Nat) : Int))).setIfInBounds 8 (.int .u8 (((l.getD 8 0).toNat % 64 + 128 : Nat) : Int)) = idA (drawL l) := by
  have hu6 : (l.getD 6 0).toNat < 256 := (l.getD 6 0).toNat_lt
  have hu8 : (l.getD 8 0).toNat < 256 := (l.getD 8 0).toNat_lt
  unfold idA
  rw [rowA_set, rowA_set]
  refine rowA_ext fun i hi => ?_
  have hil : i < l.length := by omega
  have m1 : (l.getD 6 0).toNat % 16 + 64 < 256 := by omega
  have m2 : (l.getD 8 0).toNat % 64 + 128 < 256 := by omega
  unfold idV drawL
  by_cases h8 : i = 8
  · subst h8; simp [List.getD_eq_getElem?_getD, hil]
    rw [List.getD_eq_getElem?_getD, List.getElem?_eq_getElem hil] at m2
    simp at m2; omega
  · by_cases h6 : i = 6
    · subst h6; simp [List.getD_eq_getElem?_getD, hil, h8]
      rw [List.getD_eq_getElem?_getD, List.getElem?_eq_getElem hil] at m1
      simp at m1; omega
    · simp [h6, h8, List.getD_eq_getElem?_getD, hil, Ne.symm h6, Ne.symm h8, List.getElem_set]

set_option maxRecDepth 100000 in
set_option maxHeartbeats 4000000 in
theorem idAwake_any (w : World) : Calls Tryz.prog 11 #[] w fun e w' => e = .returned (.bool true) ∧ Below w.heap.size w w' := by
  have LT := fun w => callsIn_wide.1 (idText_in (List.replicate 16 0) rfl w)
  rw [textI_zero] at LT
  rw [show idA (List.replicate 16 0) = #[.int .u8 0, .int .u8 0, .int .u8 0, .int .u8 0, .int .u8 0, .int .u8 0, .int .u8 0, .int .u8 0, .int .u8 0, .int .u8 0, .int .u8 0, .int .u8 0, .int .u8 0, .int .u8 0, .int .u8 0, .int .u8 0] from rfl] at LT
  have L2 : ∀ w, Calls Tryz.prog 42 #[] w fun e w' => e = .returned (.bool true) ∧ Below w.heap.size w w' := fun w => by
    go_enter Tryz.func42, Tryz.ntmps42
    go_wp2_with (go_at_call 81; with_reducible refine (basAwake_any _).mono ?_; rintro e w1 ⟨rfl, hB⟩)
    go_ret
    exact ⟨rfl, hB⟩
  have L6 : ∀ w, Calls Tryz.prog 43 #[] w fun e w' => e = .returned (.bool true) ∧ Below w.heap.size w w' := fun w => by
    go_enter Tryz.func43, Tryz.ntmps43
    go_wp2_with (go_at_call 82; with_reducible refine (hmacAwake_any _).mono ?_; rintro e w1 ⟨rfl, hB⟩)
    go_ret
    exact ⟨rfl, hB⟩
  replace LT := hid LT
  replace L2 := hid L2
  replace L6 := hid L6
  go_enter Tryz.func11, Tryz.ntmps11
  go_wp2_with (first
    | (go_at_call 42; with_reducible refine (L2.out _).mono ?_; rintro e w1 ⟨rfl, hB1⟩)
    | (go_at_call 43; with_reducible refine (L6.out _).mono ?_; rintro e w2 ⟨rfl, hB2⟩)
    | (go_at_call 12; with_reducible refine (LT.out _).mono ?_; rintro e w3 ⟨rfl, hB3⟩))
  go_ret
  exact ⟨rfl, by repeat (first | assumption | with_reducible apply below_cat)⟩
end
end
end Go.Proofs.YtdjlpmelmhhooaaGreatDoor
