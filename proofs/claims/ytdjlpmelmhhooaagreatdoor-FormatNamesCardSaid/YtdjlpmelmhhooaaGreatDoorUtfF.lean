/- The document's Runes: the walk. -/
import Derived.Test.YtdjlpmelmhhooaaGreatDoorUtfE
import Derived.Maps.AppendAt
import Derived.OwnWalk
namespace Go.Proofs.YtdjlpmelmhhooaaGreatDoor
open Go Go.RowKit
set_option linter.unusedSimpArgs false

theorem info_int : (Tryz.prog.info? 3).map (fun i => (i.zero, i.size, i.bytes)) = some (some (.int .i64 0), 1, 8) := by kernel_rfl
/-- A row of numbers of the function's own. -/
def Nums (w : World) (base : Nat) (v : Value) (ns : List Nat) : Prop := w.ownsRow base 3 1 v ns.length (ns.map fun (n : Nat) => Value.int .i64 (n : Int))
/-- No two of them in one block. -/
def Parted (v u : Value) : Prop := ∀ g, v.ownBlock = some g → u.ownBlock ≠ some g
theorem Parted.or {v u : Value} (h : Parted v u) : v.ownBlock = none ∨ v.ownBlock ≠ u.ownBlock := by
  cases hv : v.ownBlock with
  | none => exact .inl rfl
  | some g => exact .inr fun e => h g hv e.symm
theorem Parted.symm {v u : Value} (h : Parted v u) : Parted u v := fun g hu hv => h g hv hu

theorem below_grownU {B : Nat} {a w w' : World} {row : Option Nat} (h : Below B a w) (hg : w.grownBy w' row) (hr : ∀ k, row = some k → B ≤ k) (hB : B ≤ a.heap.size) : Below B a w' :=
  h.trans ⟨hg.os, hg.tape, hg.output, hg.size, fun k hk => hg.block k (by have := h.size; omega) (fun e => by have := hr k e.symm; omega)⟩
theorem oneN_some {l : List UInt8} {r n : Nat} (h : firstN l = some (r, n)) : oneN l = (r : Int) := by rw [oneN, h]
theorem oneN_no {l : List UInt8} (h : firstN l = none) : oneN l = -1 := by rw [oneN, h]
theorem one_at (s : ByteArray) (k : Nat) (h : k < s.size) (hs : s.size ≤ 1000) (w : World) :
    Calls Tryz.prog 104 #[.string (s.extract k s.size)] w fun e w' => e = .returned (.int .i64 (oneN (s.data.toList.drop k))) ∧ Below w.heap.size w w' := by
  have := one_any (s.extract k s.size) (by rw [extract_size s k (by omega)]; omega) (by rw [extract_size s k (by omega)]; omega) w
  rwa [extract_list] at this

set_option maxRecDepth 100000 in
set_option maxHeartbeats 4000000 in
theorem refRunes_any (s : ByteArray) (hs : s.size ≤ 1000) (w : World) : Calls Tryz.prog 67 #[.string s] w fun e w' =>
    ∃ v1 v2, e = .returned (.tuple #[v1, v2, .int .i64 (badN s)]) ∧ Nums w' w.heap.size v1 ((runesN s.data.toList).map Prod.fst) ∧ Nums w' w.heap.size v2 ((runesN s.data.toList).map Prod.snd) ∧ Below w.heap.size w w' := by
  obtain ⟨i, hi, hz0, hz1, hz2⟩ := info_parts info_int
  replace hi := hid hi
  replace hz0 := hid hz0
  replace hz1 := hid hz1
  replace hz2 := hid hz2
  go_enter Tryz.func67, Tryz.ntmps67
  go_wp2
  go_loopw [5, 6, 7] (fun v1 v2 p wr => ∃ (k fuel : Nat) (pre : List (Nat × Nat)), p = .int .i64 k ∧ k ≤ s.size ∧ s.size - k ≤ fuel ∧ Hid (runesN s.data.toList = pre ++ runesF fuel k (s.data.toList.drop k)) ∧ Hid (lastEnd 0 pre = k) ∧ Hid (pre.length ≤ k) ∧
      Hid (Nums wr w.heap.size v1 (pre.map Prod.fst)) ∧ Hid (Nums wr w.heap.size v2 (pre.map Prod.snd)) ∧ Hid (Parted v1 v2) ∧ Hid (Below w.heap.size w wr))
    (fun _ _ p _ => s.size - (intOf p).toNat)
  case atStart => exact ⟨0, s.size, [], rfl, Nat.zero_le _, by omega, hid (by simp [runesN]), hid rfl, hid (Nat.le_refl _), hid (World.ownsRow_nil _ _ _ _), hid (World.ownsRow_nil _ _ _ _), hid (fun g h => by simp [Value.ownBlock] at h), hid (Below.refl _ _)⟩
  case round =>
    obtain ⟨k, fuel, pre, rfl, hk, hf, hx, hle, hpl, hn1, hn2, hpt, hB⟩ := hrel
    by_cases hlt : k < s.size
    · cases hfr : firstN (s.data.toList.drop k) with
      | none =>
        have L := fun w => one_at s k hlt hs w
        rw [oneN_no hfr] at L
        have hxs : runesN s.data.toList = pre := by
          rw [hx.out]; cases fuel with
          | zero => simp [runesF]
          | succ m => simp [runesF, hfr]
        have hbad : badN s = (k : Nat) := by
          have he : endN s.data.toList = k := by rw [endN_eq, hxs]; exact hle.out
          rw [badN, he, if_neg (by omega)]
        replace L := hid L
        replace hxs := hid hxs
        replace hbad := hid hbad
        clear hfr
        go_wp2_with (go_at_call 104; refine (L.out _).mono ?_; rintro e w1 ⟨rfl, hB1⟩)
        go_ret3
        have hg : wr.grownBy w1 none := ⟨hB1.os, hB1.tape, hB1.output, hB1.size, fun k hk _ => hB1.block k hk⟩
        refine ⟨_, _, by rw [hbad.out]; rfl, ?_, ?_, below_cat hB1 hB.out⟩
        · rw [hxs.out]; exact hn1.out.kept hg (by cases hv : u5.ownBlock <;> simp)
        · rw [hxs.out]; exact hn2.out.kept hg (by cases hv : u6.ownBlock <;> simp)
      | some rn =>
        obtain ⟨r, n⟩ := rn
        obtain ⟨q1, q2, q4, hpt', hszn⟩ := firstN_size hfr
        have L := fun w => one_at s k hlt hs w
        rw [oneN_some hfr] at L
        obtain ⟨fuel, rfl⟩ : ∃ m, fuel = m + 1 := ⟨fuel - 1, by omega⟩
        have hxs : runesN s.data.toList = pre ++ (k, r) :: runesF fuel (k + n) (s.data.toList.drop (k + n)) := by
          rw [hx.out]; simp only [runesF, hfr, List.drop_drop]
        have hP := fun w => refPut_any (r : Nat) w
        have hPs : (putS (r : Nat)).size = n := by rw [← hszn, ← put_len hpt']; rfl
        replace L := hid L
        obtain ⟨S, hS⟩ : ∃ S, S = putS (r : Nat) := ⟨_, rfl⟩
        rw [← hS] at hP hPs
        clear hS
        replace hP := hid hP
        replace hxs := hid hxs
        have hend : lastEnd 0 (pre ++ [(k, r)]) = k + n := by rw [lastEnd_push, hszn]
        replace hend := hid hend
        have hkn : k + n ≤ s.size := by simp at q2; omega
        clear hfr
        have hlen1 : (pre.map Prod.fst).length ≤ 1000 := by rw [List.length_map]; have := hpl.out; omega
        have hlen2 : (pre.map Prod.snd).length ≤ 1000 := by rw [List.length_map]; have := hpl.out; omega
        obtain ⟨P1, hP1⟩ : ∃ P, P = pre.map Prod.fst := ⟨_, rfl⟩
        obtain ⟨P2, hP2⟩ : ∃ P, P = pre.map Prod.snd := ⟨_, rfl⟩
        rw [← hP1] at hn1 hlen1
        rw [← hP2] at hn2 hlen2
        have hws := hB.out.size
        replace hP1 := hid hP1
        replace hP2 := hid hP2
        go_wp2_with (first
          | (go_at_call 104; refine (L.out _).mono ?_; rintro e w1 ⟨rfl, hB1⟩
             have hg1 : wr.grownBy w1 none := ⟨hB1.os, hB1.tape, hB1.output, hB1.size, fun k hk _ => hB1.block k hk⟩
             have m1 := hid (hn1.out.kept hg1 (by cases hv : u5.ownBlock <;> simp))
             have m2 := hid (hn2.out.kept hg1 (by cases hv : u6.ownBlock <;> simp))
             have hs1 := hB1.size)
          | (at_builtin; refine wpList_append_own_at _ rfl _ _ 96 rfl w.heap.size 3 i _ 1 8 Tryz.underlying96 hi.out hz0.out hz1.out hz2.out rfl (by decide) _ _ _ rfl (m1.out.alloc _) ⟨w1.heap.size, 0, none⟩ 1 1 [.int .i64 (k : Int)] rfl rfl (cell_one_new _ _ _) (fun x hx => by simp at hx; subst hx; rfl) (by unfold maxLen; omega) (by omega) (by simp; omega) ?_; intro v1 w2 hown1 hgrow1 hnil1 hat1
             have m3 := hid ((m2.out.alloc _).kept hgrow1 hpt.out.symm.or)
             have hs2 := hgrow1.size
             rw [World.size_alloc] at hs2)
          | (at_builtin; refine wpList_append_own_at _ rfl _ _ 96 rfl w.heap.size 3 i _ 1 8 Tryz.underlying96 hi.out hz0.out hz1.out hz2.out rfl (by decide) _ _ _ rfl (m3.out.alloc _) ⟨w2.heap.size, 0, none⟩ 1 1 [.int .i64 (r : Int)] rfl rfl (cell_one_new _ _ _) (fun x hx => by simp at hx; subst hx; rfl) (by unfold maxLen; omega) (by omega) (by simp; omega) ?_; intro v2 w3 hown2 hgrow2 hnil2 hat2
             have m4 := hid (hown1.alloc (.cells #[.int .i64 (r : Int)] 3)))
          | (go_at_call 105; refine (hP.out _).mono ?_; rintro e w4 ⟨rfl, hB4⟩))
        go_roundw
        have hg4 : w3.grownBy w4 none := ⟨hB4.os, hB4.tape, hB4.output, hB4.size, fun k hk _ => hB4.block k hk⟩
        have lt6 : ∀ g, u6.ownBlock = some g → g < w1.heap.size := fun g hg => (World.ownsRow.lt m2.out g hg).2
        have lt5 : ∀ g, u5.ownBlock = some g → g < w1.heap.size := fun g hg => (World.ownsRow.lt m1.out g hg).2
        have ltv1 : ∀ g, v1.ownBlock = some g → g < w2.heap.size := fun g hg => (World.ownsRow.lt hown1 g hg).2
        have p16 : Parted v1 u6 := fun g h1 h6 => by
          rcases hat1 with e | e
          · exact hpt.out g (e ▸ h1) h6
          · rw [e] at h1; simp at h1; have := lt6 g h6; omega
        have p12 : Parted v1 v2 := fun g h1 h2 => by
          rcases hat2 with e | e
          · exact p16 g h1 (e ▸ h2)
          · rw [e] at h2; simp at h2; have := ltv1 g h1; omega
        have o1 := (m4.out.kept hgrow2 p16.or).kept hg4 (by cases hv : v1.ownBlock <;> simp)
        have o2 := hown2.kept hg4 (by cases hv : v2.ownBlock <;> simp)
        have r5 : ∀ g, u5.ownBlock = some g → w.heap.size ≤ g := fun g hg => (World.ownsRow.lt m1.out g hg).1
        have r6 : ∀ g, u6.ownBlock = some g → w.heap.size ≤ g := fun g hg => (World.ownsRow.lt m2.out g hg).1
        have hbel : Below w.heap.size w w4 := below_cat hB4 (below_grownU (below_al (below_grownU (below_al (below_cat hB1 hB.out) _) hgrow1 r5 (Nat.le_refl _)) _) hgrow2 r6 (Nat.le_refl _))
        case rel => exact ⟨k + n, fuel, pre ++ [(k, r)], by go_num, hkn, by omega, hid (by rw [hxs.out]; simp), hend, hid (by have := hpl.out; simp; omega), hid (by unfold Nums; rw [List.map_append, ← hP1.out]; simpa using o1), hid (by unfold Nums; rw [List.map_append, ← hP2.out]; simpa using o2), hid p12, hid hbel⟩
        case measure => simp [intOf]; omega
    · obtain rfl : k = s.size := by omega
      have hnil : s.data.toList.drop s.size = [] := by simp
      have hxs : runesN s.data.toList = pre := by
        rw [hx.out, hnil]; cases fuel <;> simp [runesF, firstN]
      have hbad : badN s = -1 := by
        rw [badN, if_pos]; rw [endN_eq, hxs]; exact hle.out
      replace hxs := hid hxs
      replace hbad := hid hbad
      clear hnil
      go_wp2
      go_ret3
      exact ⟨_, _, by rw [hbad.out]; rfl, by rw [hxs.out]; exact hn1.out, by rw [hxs.out]; exact hn2.out, hB.out⟩

end Go.Proofs.YtdjlpmelmhhooaaGreatDoor
