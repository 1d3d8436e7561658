/- Catalog: the walk of CatalogMessages, of a message that is one (printed by mkCtM.py). -/
import Derived.Test.YtdjlpmelmhhooaaGreatDoorCtS
import Derived.Test.YtdjlpmelmhhooaaGreatDoorCtT
namespace Go.Proofs.YtdjlpmelmhhooaaGreatDoor
open Go Go.RowKit
set_option linter.unusedSimpArgs false
set_option linter.unusedVariables false

theorem names_unlikeM {i j : Nat} (hi : i < 32) (hj : j < 32) (h : (ctR i).name = (ctR j).name) : i = j := by
  have key : ((List.range 32).all fun i => (List.range 32).all fun j => i == j || (ctR i).name.data.toList != (ctR j).name.data.toList) = true := by kernel_rfl
  have h1 := List.all_eq_true.1 key i (List.mem_range.2 hi)
  have h2 := List.all_eq_true.1 h1 j (List.mem_range.2 hj)
  rw [h] at h2
  simpa using h2
/-- How many of the first j fields message m has. -/
def cntTo (m j : Nat) : Nat := ((List.range j).filter fun i => (ctIn i m).toNat != 45).length
theorem cntTo_has {m j : Nat} (h : ((ctIn j m).toNat != 45) = true) : cntTo m (j + 1) = cntTo m j + 1 := by simp [cntTo, List.range_succ, h]
theorem cntTo_not {m j : Nat} (h : ((ctIn j m).toNat != 45) = false) : cntTo m (j + 1) = cntTo m j := by simp [cntTo, List.range_succ, h]
theorem ctTot_has {m j : Nat} (h : ((ctIn j m).toNat != 45) = true) : ctTot m (j + 1) = ctTot m j + ctLen j := by simp [ctTot, List.range_succ, h]
theorem ctTot_not {m j : Nat} (h : ((ctIn j m).toNat != 45) = false) : ctTot m (j + 1) = ctTot m j := by simp [ctTot, List.range_succ, h]
theorem cntTo_le (m j : Nat) : cntTo m j ≤ j := by
  rw [cntTo]
  exact Nat.le_trans (List.length_filter_le _ _) (by simp)
theorem ctTot_bound (m : Nat) : ∀ j, j ≤ 32 → 0 ≤ ctTot m j ∧ ctTot m j ≤ 4106 * j
  | 0, _ => by simp [ctTot]
  | j + 1, h => by
    have h1 := ctTot_bound m j (by omega)
    have h2 := ctLen_bounds (i := j) (by omega)
    cases hh : ((ctIn j m).toNat != 45) with
    | true => rw [ctTot_has hh]; constructor <;> push_cast <;> omega
    | false => rw [ctTot_not hh]; constructor <;> push_cast <;> omega
/-- What field j adds, met in l. -/
def addJ (j : Nat) (l : List CtX) : Int := (l.map fun x => if x.1 = j then ctLen j else 0).sum
theorem addJ_snoc (j : Nat) (l : List CtX) (x : CtX) : addJ j (l ++ [x]) = addJ j l + (if x.1 = j then ctLen j else 0) := by simp [addJ]
theorem addJ_bound (j : Nat) (hj : j < 32) : ∀ l : List CtX, 0 ≤ addJ j l ∧ addJ j l ≤ 4106 * l.length
  | [] => by simp [addJ]
  | x :: l => by
    have h1 := addJ_bound j hj l
    have h2 := ctLen_bounds hj
    have h3 : addJ j (x :: l) = (if x.1 = j then ctLen j else 0) + addJ j l := by simp [addJ]
    rw [h3, List.length_cons]
    split <;> constructor <;> push_cast <;> omega
theorem addJ_range (j : Nat) (p : Nat → Bool) (c : Int) : ∀ n, (((List.range n).filter p).map fun i => if i = j then c else 0).sum = if j < n ∧ p j = true then c else 0
  | 0 => by simp
  | n + 1 => by
    rw [List.range_succ, List.filter_append, List.map_append, List.sum_append, addJ_range j p c n]
    by_cases hn : n = j
    · subst hn
      cases hp : p n <;> simp [hp]
    · have h1 : (j < n + 1) ↔ (j < n) := by omega
      cases hp : p n <;> simp [hp, hn, h1]
theorem addJ_all {m j : Nat} (γ : CtG) (hj : j < 32) (h : ((ctIn j m).toNat != 45) = true) : addJ j (ofXs m γ) = ctLen j := by
  have h1 : addJ j (ofXs m γ) = (((List.range 32).filter fun i => (ctIn i m).toNat != 45).map fun i => if i = j then ctLen j else 0).sum := by
    rw [addJ, ofXs, ctXs, List.filter_map, List.map_map]
    rfl
  rw [h1, addJ_range, if_pos ⟨hj, h⟩]
theorem ofXs_anyM (m : Nat) (γ : CtG) (n : Nat) (hn : n < 32) : (ofXs m γ).any (fun x => x.1 == n) = ((ctIn n m).toNat != 45) := by
  rw [Bool.eq_iff_iff, List.any_eq_true]
  constructor
  · rintro ⟨x, hx, he⟩
    rw [ofXs, List.mem_filter] at hx
    have : x.1 = n := by simpa using he
    have h2 := hx.2
    rw [ctHas, this] at h2
    exact h2
  · intro h
    refine ⟨(n, ctAtP γ n), ?_, by simp⟩
    rw [ofXs, List.mem_filter]
    exact ⟨by rw [ctXs, List.mem_map]; exact ⟨n, List.mem_range.2 hn, rfl⟩, h⟩
theorem ofXs_lenM (m : Nat) (γ : CtG) : (ofXs m γ).length = cntTo m 32 := by
  rw [ofXs, ctXs, List.filter_map, List.length_map, cntTo]
  rfl
theorem ofXs_short {m : Nat} {γ : CtG} {pre post : List CtX} {x : CtX} (h : ofXs m γ = pre ++ x :: post) : pre.length < 32 := by
  have h1 := congrArg List.length h
  rw [ofXs_lenM] at h1
  have := cntTo_le m 32
  simp at h1
  omega
theorem tot_small : ∀ m, m < 10 → ctTot m 32 ≤ 4096 := by decide

/-- What lies beside all loops. -/
structure MsI (b0 b3 g lo : Nat) (γ : CtG) (m S C : Int) (Ds : List Nat) (w Y : World) : Prop where
  bel : Below b0 w Y
  r0 : RowAt Y b0 3 #[.int .i64 m]
  r3 : RowAt Y b3 3 #[.int .i64 S]
  r4 : RowAt Y (b3 + 1) 3 #[.int .i64 C]
  rg : RowAt Y g 61 (ctCells ctTab γ.2).toArray
  v : CtV lo γ Y
  df : ∀ d ∈ Ds, Y.heap[d]? = some (.deferred (some []))
  nd : Ds.Nodup
  up : ∀ d ∈ Ds, b3 + 1 < d
theorem MsI.on {b0 b3 g lo Z : Nat} {γ : CtG} {m S C : Int} {Ds : List Nat} {w Y Y' : World} {T : Nat → Prop} (h : MsI b0 b3 g lo γ m S C Ds w Y) (hk : Kept T Y Y') (hT : ∀ k, T k → Z ≤ k) (h03 : b0 < b3) (hb : b0 ≤ w.heap.size)
    (z1 : b3 + 1 < Z) (z2 : g < Z) (z3 : γ.1 ≤ Z) (z4 : ∀ d ∈ Ds, d < Z) : MsI b0 b3 g lo γ m S C Ds w Y' :=
  ⟨below_kept h.bel hk hb (fun k x => by have := hT k x; omega), hk.row h.r0 (fun x => by have := hT _ x; omega), hk.row h.r3 (fun x => by have := hT _ x; omega), hk.row h.r4 (fun x => by have := hT _ x; omega), hk.row h.rg (fun x => by have := hT _ x; omega),
    h.v.kept hk (fun k x y => by have := hT k x; omega), fun d hd => (hk.block d (Array.getElem?_eq_some_iff.1 (h.df d hd)).1 (fun x => by have := hT _ x; have := z4 d hd; omega)).trans (h.df d hd), h.nd, h.up⟩
theorem MsI.sum {b0 b3 g lo : Nat} {γ : CtG} {m S C : Int} {Ds : List Nat} {w Y : World} (h : MsI b0 b3 g lo γ m S C Ds w Y) (h03 : b0 < b3) (hg : b3 + 1 < g) (hlo : b3 < lo) (S' : Int) : MsI b0 b3 g lo γ m S' C Ds w (Y.setCell ⟨b3, 0, none⟩ (.int .i64 S')) :=
  ⟨h.bel.setCell (p := ⟨b3, 0, none⟩) (by show b0 ≤ b3; omega) _, h.r0.other _ _ (by show b0 ≠ b3; omega), (h.r3.set 0 _).eqA (by simp), h.r4.other _ _ (by show b3 + 1 ≠ b3; omega), h.rg.other _ _ (by show g ≠ b3; omega),
    h.v.kept ((Kept.refl (fun k => k = b3) Y).setCell ⟨b3, 0, none⟩ (.inl rfl) _) (fun k x y => by omega), fun d hd => defer_cell (h.df d hd) _ _ (by have := h.up d hd; show d ≠ b3; omega), h.nd, h.up⟩
theorem MsI.cnt {b0 b3 g lo : Nat} {γ : CtG} {m S C : Int} {Ds : List Nat} {w Y : World} (h : MsI b0 b3 g lo γ m S C Ds w Y) (h03 : b0 < b3) (hg : b3 + 1 < g) (hlo : b3 + 1 < lo) (C' : Int) : MsI b0 b3 g lo γ m S C' Ds w (Y.setCell ⟨b3 + 1, 0, none⟩ (.int .i64 C')) :=
  ⟨h.bel.setCell (p := ⟨b3 + 1, 0, none⟩) (by show b0 ≤ b3 + 1; omega) _, h.r0.other _ _ (by show b0 ≠ b3 + 1; omega), h.r3.other _ _ (by show b3 ≠ b3 + 1; omega), (h.r4.set 0 _).eqA (by simp), h.rg.other _ _ (by show g ≠ b3 + 1; omega),
    h.v.kept ((Kept.refl (fun k => k = b3 + 1) Y).setCell ⟨b3 + 1, 0, none⟩ (.inl rfl) _) (fun k x y => by omega), fun d hd => defer_cell (h.df d hd) _ _ (by have := h.up d hd; show d ≠ b3 + 1; omega), h.nd, h.up⟩
theorem MsI.mark {b0 b3 g lo d : Nat} {γ : CtG} {m S C : Int} {Ds : List Nat} {w Y : World} (h : MsI b0 b3 g lo γ m S C Ds w Y) (hd : Y.heap[d]? = some (.deferred (some []))) (h1 : b3 + 1 < d) (h2 : ∀ x ∈ Ds, x < d) : MsI b0 b3 g lo γ m S C (d :: Ds) w Y :=
  ⟨h.bel, h.r0, h.r3, h.r4, h.rg, h.v, fun x hx => by (rcases List.mem_cons.1 hx with rfl | hx; exact hd; exact h.df x hx), List.nodup_cons.2 ⟨fun hm => by have := h2 _ hm; omega, h.nd⟩, fun x hx => by (rcases List.mem_cons.1 hx with rfl | hx; exact h1; exact h.up x hx)⟩
/-- In a row's loop over the message's fields. -/
structure MsR (b0 b3 g lo e : Nat) (γ : CtG) (j : Nat) (m S C : Int) (v : Bool) (Ds : List Nat) (w Y : World) : Prop where
  i : MsI b0 b3 g lo γ m S C Ds w Y
  re : RowAt Y e 61 ((ctR j).cells (ctAtP γ j))
  rf : RowAt Y (e + 1) 4 #[.bool v]
theorem MsR.on {b0 b3 g lo e Z j : Nat} {γ : CtG} {m S C : Int} {v : Bool} {Ds : List Nat} {w Y Y' : World} {T : Nat → Prop} (h : MsR b0 b3 g lo e γ j m S C v Ds w Y) (hk : Kept T Y Y') (hT : ∀ k, T k → Z ≤ k) (h03 : b0 < b3) (hb : b0 ≤ w.heap.size)
    (z1 : b3 + 1 < Z) (z2 : g < Z) (z3 : γ.1 ≤ Z) (z4 : ∀ d ∈ Ds, d < Z) (z5 : e + 1 < Z) : MsR b0 b3 g lo e γ j m S C v Ds w Y' :=
  ⟨h.i.on hk hT h03 hb z1 z2 z3 z4, hk.row h.re (fun x => by have := hT _ x; omega), hk.row h.rf (fun x => by have := hT _ x; omega)⟩
theorem MsR.yes {b0 b3 g lo e j : Nat} {γ : CtG} {m S C : Int} {v : Bool} {Ds : List Nat} {w Y : World} (h : MsR b0 b3 g lo e γ j m S C v Ds w Y) (h03 : b0 < b3) (z1 : b3 + 1 < e) (z2 : g < e) (z3 : γ.1 ≤ e) (z4 : ∀ d ∈ Ds, d < e) : MsR b0 b3 g lo e γ j m S C true Ds w (Y.setCell ⟨e + 1, 0, none⟩ (.bool true)) :=
  ⟨⟨h.i.bel.setCell (p := ⟨e + 1, 0, none⟩) (by show b0 ≤ e + 1; omega) _, h.i.r0.other _ _ (by show b0 ≠ e + 1; omega), h.i.r3.other _ _ (by show b3 ≠ e + 1; omega), h.i.r4.other _ _ (by show b3 + 1 ≠ e + 1; omega), h.i.rg.other _ _ (by show g ≠ e + 1; omega),
    h.i.v.kept ((Kept.refl (fun k => k = e + 1) Y).setCell ⟨e + 1, 0, none⟩ (.inl rfl) _) (fun k x y => by omega), fun d hd => defer_cell (h.i.df d hd) _ _ (by have := z4 d hd; show d ≠ e + 1; omega), h.i.nd, h.i.up⟩,
    h.re.other _ _ (by show e ≠ e + 1; omega), (h.rf.set 0 _).eqA (by simp)⟩
theorem MsR.add {b0 b3 g lo e j : Nat} {γ : CtG} {m S C : Int} {v : Bool} {Ds : List Nat} {w Y : World} (h : MsR b0 b3 g lo e γ j m S C v Ds w Y) (h03 : b0 < b3) (hg : b3 + 1 < g) (hlo : b3 < lo) (z1 : b3 + 1 < e) (S' : Int) : MsR b0 b3 g lo e γ j m S' C v Ds w (Y.setCell ⟨b3, 0, none⟩ (.int .i64 S')) :=
  ⟨h.i.sum h03 hg hlo S', h.re.other _ _ (by show e ≠ b3; omega), h.rf.other _ _ (by show e + 1 ≠ b3; omega)⟩
theorem tab_range {W : World} {g : Nat} {B : Nat} {ps : List CtP} (hA : ∀ (i j : Nat) (v : Value), i < 32 → ((ctR i).cells (ps.getD i (none, 0)))[j]? = some v → (ctCells ctTab ps)[i * 6 + j]? = some v) (hR : RowAt W g 61 (ctCells ctTab ps).toArray) (i : Nat) (hi : i < 32) :
    W.rangeAt g (i * 6) ((ctR i).cells (ps.getD i (none, 0))).toList := fun j v hj => by
  rw [Array.getElem?_toList] at hj
  exact hR.cell (by rw [List.getElem?_toArray]; exact hA i j v hi hj)

theorem arr_range (t : Array Value) (n : Nat) (h : t.size = n) : t = ((List.range n).map fun k => t.getD k undef).toArray := by
  apply Array.ext
  · simp [h]
  · intro i h1 h2
    simp [h1]

/-- The loop over the table's rows: what is known at each row's outset. -/
def MsL (b0 b3 g : Nat) (γ : CtG) (m : Nat) (w : World) (a : Act) (W : World) : Prop := ∃ (j : Nat) (Ds : List Nat), a.tmps.size = 92 ∧ a.tmps.getD 0 undef = .int .i64 (m : Nat) ∧ a.tmps.getD 1 undef = .pointer (some ⟨b0, 0, none⟩) ∧ a.tmps.getD 2 undef = .bool false ∧ a.tmps.getD 3 undef = .pointer (some ⟨b3, 0, none⟩) ∧ a.tmps.getD 4 undef = .pointer (some ⟨b3 + 1, 0, none⟩) ∧ a.tmps.getD 12 undef = .slice (some ⟨g, 0, none⟩) 32 32 ∧ a.tmps.getD 13 undef = .int .i64 32 ∧ a.tmps.getD 14 undef = .int .i64 (j : Nat) ∧ a.defers = Ds.map (fun d => { target := .collected d, args := #[] }) ∧ j ≤ 32 ∧ Hid (MsI b0 b3 g (b3 + 2) γ (m : Nat) (ctTot m j) (cntTo m j : Nat) Ds w W) ∧ Hid (∀ d ∈ Ds, d < W.heap.size) ∧ b3 + 2 ≤ W.heap.size ∧ g < W.heap.size ∧ γ.1 ≤ W.heap.size

attribute [local go_sem] Oper.semAt_some
set_option maxRecDepth 100000 in
set_option maxHeartbeats 64000000 in
theorem messages_core (m : Nat) (hm1 : 1 ≤ m) (hm9 : m ≤ 9) (w : World) (hM : MaxVar w) : Calls Tryz.prog 9 #[.int .i64 (m : Nat)] w fun e w' => e = .returned (.bool true) ∧ Below w.heap.size w w' := by
  refine (callsIn_wide (n := 0)).1 ?_
  refine callsIn_of_wp_marks Tryz.func9 rfl trivial ?_
  simp only [Tryz.ntmps9, List.size_toArray, List.length_cons, List.length_nil, Nat.reduceAdd, Nat.reduceSub, Array.replicate_succ, Array.replicate_zero, List.push_toArray, List.append_toArray, List.nil_append, List.cons_append]
  have LA := hid (fun w h => ctAwake_any w h)
  have LT := hid (fun w => rtTable_any w)
  have hM0 := hid (fun o => hM.alloc o)
  obtain ⟨b0, hb0⟩ : ∃ b, b = w.heap.size := ⟨_, rfl⟩
  clear hM
  gi_wp2_with (first
    | (refine ⟨trivial, rfl, ?_⟩; gi_at_call 29; refine (callsIn_wide.2 (LA.out _ (hM0.out _))).mono ?_; rintro e w1 ⟨rfl, hB⟩
       have r0 := hid ((RowAt.new w #[.int .i64 (m : Nat)] 3).below hB (by simp))
       have bel := hid (below_cat hB (below_al (Below.refl w.heap.size w) _))
       have s1 : w.heap.size + 1 ≤ w1.heap.size := by have := hB.size; simpa using this
       clear hB hM0)
    | (refine ⟨trivial, rfl, ?_⟩; gi_at_call 30; refine (callsIn_wide.2 (LT.out _)).mono ?_; rintro e w2 ⟨g, ps, rfl, hR, hA, hgs, hB2⟩
       replace hR := hid hR
       replace hA := hid hA
       replace hB2 := hid hB2))
  obtain ⟨b3, hb3⟩ : ∃ b, b = w1.heap.size := ⟨_, rfl⟩
  obtain ⟨γ, hγ⟩ : ∃ γ : CtG, γ = (w2.heap.size, ps) := ⟨_, rfl⟩
  have hsz2 : b3 + 2 ≤ w2.heap.size := by have := hB2.out.size; simp only [World.size_alloc] at this; omega
  have h03 : b0 < b3 := by omega
  have hbw : b0 ≤ w.heap.size := Nat.le_of_eq hb0
  have hg3 : b3 + 1 < g := by simp only [World.size_alloc] at hgs; omega
  have hg2 : g < w2.heap.size := hR.out.lt
  have hI0 : MsI b0 b3 g (b3 + 2) γ (m : Nat) (ctTot m 0) (cntTo m 0 : Nat) [] w w2 := by
    have hv := ctV_of (m := w2.heap.size) hA.out (Nat.le_refl _)
    simp only [World.size_alloc] at hv
    refine ⟨?_, ?_, ?_, ?_, ?_, ?_, fun d hd => (by cases hd), List.nodup_nil, fun d hd => (by cases hd)⟩
    · rw [hb0]; exact below_cat hB2.out (below_al (below_al bel.out _) _)
    · rw [hb0]; exact ((r0.out.alloc _).alloc _).below hB2.out (by simp only [World.size_alloc]; omega)
    · rw [hb3]; exact ((RowAt.new w1 _ _).alloc _).below hB2.out (by simp only [World.size_alloc]; omega)
    · rw [hb3]; exact (RowAt.newS w1 _ _ _ _).below hB2.out (by simp only [World.size_alloc]; omega)
    · rw [hγ]; exact hR.out
    · rw [hγ, hb3]; exact hv
  have hcell : ∀ (i j : Nat) (v : Value), i < 32 → ((ctR i).cells (γ.2.getD i (none, 0)))[j]? = some v → (ctCells ctTab γ.2)[i * 6 + j]? = some v := fun i j v hi hv => by
    rw [hγ] at hv ⊢
    exact (ctAt_get hA.out i _ (ctTab_at i hi)).2 j v hv
  have hγ1 : γ.1 = w2.heap.size := by rw [hγ]
  rw [← hb0, ← hb3]
  clear hR hA hB2 r0 bel hγ hgs
  replace hI0 := hid hI0
  replace hcell := hid hcell
  have hZ0 : γ.1 ≤ w2.heap.size := Nat.le_of_eq hγ1
  clear hγ1
  replace hb0 := hid hb0
  replace hb3 := hid hb3
  refine wpIn_loop (MsL b0 b3 g γ m w)
    (fun a _ => 33 - (intOf (a.tmps.getD 14 undef)).toNat) ?lstart ?lround
  case lstart => exact ⟨0, [], rfl, rfl, rfl, rfl, rfl, rfl, rfl, rfl, rfl, rfl, by omega, hI0, hid (fun d hd => by cases hd), hsz2, hg2, hZ0⟩
  case lround =>
    clear hI0 hsz2 hg2 hZ0
    rintro ⟨t, df⟩ W ⟨j, Ds, hsz, e0, e1, e2, e3, e4, e12, e13, e14, hdf, hj32, hI, hDs, hS1, hS2, hS3⟩
    dsimp only at hsz e0 e1 e2 e3 e4 e12 e13 e14 hdf
    subst hdf
    obtain ⟨f, rfl⟩ : ∃ f : Nat → Value, t = #[.int .i64 (m : Nat), .pointer (some ⟨b0, 0, none⟩), .bool false, .pointer (some ⟨b3, 0, none⟩), .pointer (some ⟨b3 + 1, 0, none⟩), f 5, f 6, f 7, f 8, f 9, f 10, f 11, .slice (some ⟨g, 0, none⟩) 32 32, .int .i64 32, .int .i64 (j : Nat), f 15, f 16, f 17, f 18, f 19, f 20, f 21, f 22, f 23, f 24, f 25, f 26, f 27, f 28, f 29, f 30, f 31, f 32, f 33, f 34, f 35, f 36, f 37, f 38, f 39, f 40, f 41, f 42, f 43, f 44, f 45, f 46, f 47, f 48, f 49, f 50, f 51, f 52, f 53, f 54, f 55, f 56, f 57, f 58, f 59, f 60, f 61, f 62, f 63, f 64, f 65, f 66, f 67, f 68, f 69, f 70, f 71, f 72, f 73, f 74, f 75, f 76, f 77, f 78, f 79, f 80, f 81, f 82, f 83, f 84, f 85, f 86, f 87, f 88, f 89, f 90, f 91] := ⟨fun k => t.getD k undef, by
      refine (arr_range t 92 hsz).trans ?_
      show (#[t.getD 0 undef, t.getD 1 undef, t.getD 2 undef, t.getD 3 undef, t.getD 4 undef, t.getD 5 undef, t.getD 6 undef, t.getD 7 undef, t.getD 8 undef, t.getD 9 undef, t.getD 10 undef, t.getD 11 undef, t.getD 12 undef, t.getD 13 undef, t.getD 14 undef, t.getD 15 undef, t.getD 16 undef, t.getD 17 undef, t.getD 18 undef, t.getD 19 undef, t.getD 20 undef, t.getD 21 undef, t.getD 22 undef, t.getD 23 undef, t.getD 24 undef, t.getD 25 undef, t.getD 26 undef, t.getD 27 undef, t.getD 28 undef, t.getD 29 undef, t.getD 30 undef, t.getD 31 undef, t.getD 32 undef, t.getD 33 undef, t.getD 34 undef, t.getD 35 undef, t.getD 36 undef, t.getD 37 undef, t.getD 38 undef, t.getD 39 undef, t.getD 40 undef, t.getD 41 undef, t.getD 42 undef, t.getD 43 undef, t.getD 44 undef, t.getD 45 undef, t.getD 46 undef, t.getD 47 undef, t.getD 48 undef, t.getD 49 undef, t.getD 50 undef, t.getD 51 undef, t.getD 52 undef, t.getD 53 undef, t.getD 54 undef, t.getD 55 undef, t.getD 56 undef, t.getD 57 undef, t.getD 58 undef, t.getD 59 undef, t.getD 60 undef, t.getD 61 undef, t.getD 62 undef, t.getD 63 undef, t.getD 64 undef, t.getD 65 undef, t.getD 66 undef, t.getD 67 undef, t.getD 68 undef, t.getD 69 undef, t.getD 70 undef, t.getD 71 undef, t.getD 72 undef, t.getD 73 undef, t.getD 74 undef, t.getD 75 undef, t.getD 76 undef, t.getD 77 undef, t.getD 78 undef, t.getD 79 undef, t.getD 80 undef, t.getD 81 undef, t.getD 82 undef, t.getD 83 undef, t.getD 84 undef, t.getD 85 undef, t.getD 86 undef, t.getD 87 undef, t.getD 88 undef, t.getD 89 undef, t.getD 90 undef, t.getD 91 undef] : Array Value) = _
      rw [e0, e1, e2, e3, e4, e12, e13, e14]⟩
    clear hsz e0 e1 e2 e3 e4 e12 e13 e14
    by_cases hlt : j < 32
    · have g1 : decide ((j : Int) < 32) = true := decide_eq_true (by omega)
      have g1' : (j : Int) < 32 := by omega
      have hrng := tab_range (B := 0) hcell.out hI.out.rg j hlt
      obtain ⟨C, hC⟩ : ∃ C, C = (ctR j).cells (γ.2.getD j (none, 0)) := ⟨_, rfl⟩
      have hC1 : C.size = 6 := by rw [hC]; rfl
      have hC2 : C.all (·.oneCell') = true := by rw [hC]; exact ctCells_one _ _
      obtain ⟨I, hIn⟩ : ∃ I, I = (ctR j).inn := ⟨_, rfl⟩
      obtain ⟨c, hc⟩ : ∃ c, c = ctIn j m := ⟨_, rfl⟩
      have hIs : I.size = 9 := by rw [hIn]; exact inn_size _ hlt
      have hIc : I.data[m - 1]? = some c := by rw [hIn, hc]; exact inn_at _ _ hlt hm1 hm9
      have hC5 : C[5]? = some (.string I) := by rw [hC, hIn]; rfl
      have hix : ∀ w, (Instr.index 9 (.string I) (.int .i64 ((m : Int) - 1))).run Tryz.prog w = .ok (.int .u8 (c.toNat : Nat)) w := by
        intro w
        have h2 : ((m : Int) - 1).toNat = m - 1 := by omega
        have h3 : m - 1 < I.size := by omega
        rw [run_index_string (h := Tryz.underlying9), dif_pos ⟨by omega, by omega⟩]
        have h4 : I[m - 1]'h3 = c := by
          have := Array.getElem?_eq_getElem (xs := I.data) (i := m - 1) h3
          rw [this] at hIc
          exact Option.some.inj hIc
        simp only [h2, h4]
      rw [← hC] at hrng
      have hb1 : ((c.toNat : Int) == 82) = ctNeed j m := by
        rw [ctNeed, ← hc]
        by_cases q : c.toNat = 82
        · rw [q]; rfl
        · have q2 : ¬ (c.toNat : Int) = 82 := by omega
          rw [beq_eq_false_iff_ne.2 q, beq_eq_false_iff_ne.2 q2]
      have hb2 : ((c.toNat : Int) == 45) = ((c.toNat) == 45) := by
        by_cases q : c.toNat = 45
        · rw [q]; rfl
        · have q2 : ¬ (c.toNat : Int) = 45 := by omega
          rw [beq_eq_false_iff_ne.2 q, beq_eq_false_iff_ne.2 q2]
      have cm : ∀ o, (W.alloc o).cell? ⟨b0, 0, none⟩ = some (.int .i64 (m : Nat)) := fun o => (hI.out.r0.alloc o).cell rfl
      obtain ⟨e6, he6⟩ : ∃ b, b = W.heap.size := ⟨_, rfl⟩
      have gm1 : decide ((m : Int) < 1) = false := decide_eq_false (by omega)
      have gm1' : ¬ (m : Int) < 1 := by omega
      have gm2 : decide ((9 : Int) < (m : Int)) = false := decide_eq_false (by omega)
      have gm2' : ¬ (9 : Int) < (m : Int) := by omega
      replace hrng := hid hrng
      replace hC1 := hid hC1
      replace hC2 := hid hC2
      have hC3 := hid hC
      have hc3 := hid hc
      clear hC hc hIn hIs hIc
      cases hh : ((ctIn j m).toNat != 45) with
      | false =>
        have hb3' : ((c.toNat : Int) == 45) = true := by
          rw [hb2, hc3.out]
          simpa using hh
        have hfin := hid (show MsI b0 b3 g (b3 + 2) γ (m : Nat) (ctTot m (j + 1)) (cntTo m (j + 1) : Nat) Ds w W by rw [ctTot_not hh, cntTo_not hh]; exact hI.out)
        clear hb2
        gi_wp2_with (first
          | (with_reducible refine at_opIn (some 17) (.load 61 (.tmp 16)) ?_
             refine wpListIn_load_mid (o := ⟨some 17, .load _ (.tmp 16), _, _, _, _⟩) rfl 61 (.tmp 16) rfl g (j * 6) rfl C.toList _ hrng.out Tryz.underlying61 rfl (by rw [Array.length_toList, hC1.out]; exact infoRow) ?_)
          | (with_reducible refine at_opIn none (.store 61 (.tmp 6) (.tmp 17)) ?_
             refine wpListIn_store_row (o := ⟨none, .store _ (.tmp 6) (.tmp 17), _, _, _, _⟩) rfl 61 (.tmp 6) (.tmp 17) rfl W.heap.size C rfl (by rfl) 61 _ (RowAt.new W _ _) (by rw [hC1.out]; exact infoRow) (by rw [hC1.out]; rfl) hC2.out ?_
             generalize hYd : World.setRow _ _ _ = Y
             have hkY : Kept (fun _ => False) W Y := by rw [← hYd]; exact Kept.of_below (below_setRow (below_al (Below.refl _ _) _) (Nat.le_refl _) _)
             have hfin2 := hid (hfin.out.on hkY (fun _ h => h.elim) (Z := W.heap.size) h03 hbw (by omega) hS2 hS3 hDs.out)
             have rY : RowAt Y W.heap.size 61 C := by rw [← hYd]; exact (RowAt.new W _ _).setRow _
             have c5 : Y.cell? ⟨W.heap.size, 5, none⟩ = some (.string I) := rY.cell hC5
             have cmY : Y.cell? ⟨b0, 0, none⟩ = some (.int .i64 (m : Nat)) := hfin2.out.r0.cell rfl
             have hsY := hkY.size
             clear hYd hkY cm rY))
        have hsY' := hid hfin2
        refine ⟨by unfold MsL; exact ⟨j + 1, Ds, rfl, rfl, rfl, rfl, rfl, rfl, rfl, rfl, rfl, rfl, by omega, hfin2, hid (fun d hd => Nat.lt_of_lt_of_le (hDs.out d hd) hsY), by omega, by omega, by omega⟩, ?_⟩
        simp [intOf]
        omega
      | true =>
        have hb3' : ((c.toNat : Int) == 45) = false := by
          rw [hb2, hc3.out]
          simpa using hh
        have hD3 := hid hDs.out
        clear hb2
        gi_wp2_with (first
          | (with_reducible refine at_opIn (some 17) (.load 61 (.tmp 16)) ?_
             refine wpListIn_load_mid (o := ⟨some 17, .load _ (.tmp 16), _, _, _, _⟩) rfl 61 (.tmp 16) rfl g (j * 6) rfl C.toList _ hrng.out Tryz.underlying61 rfl (by rw [Array.length_toList, hC1.out]; exact infoRow) ?_)
          | (with_reducible refine at_opIn none (.store 61 (.tmp 6) (.tmp 17)) ?_
             refine wpListIn_store_row (o := ⟨none, .store _ (.tmp 6) (.tmp 17), _, _, _, _⟩) rfl 61 (.tmp 6) (.tmp 17) rfl W.heap.size C rfl (by rfl) 61 _ (RowAt.new W _ _) (by rw [hC1.out]; exact infoRow) (by rw [hC1.out]; rfl) hC2.out ?_
             generalize hYd : World.setRow _ _ _ = Y
             have hkY : Kept (fun _ => False) W Y := by rw [← hYd]; exact Kept.of_below (below_setRow (below_al (Below.refl _ _) _) (Nat.le_refl _) _)
             have hfin2 := hid (hI.out.on hkY (fun _ h => h.elim) (Z := W.heap.size) h03 hbw (by omega) hS2 hS3 hDs.out)
             have rY : RowAt Y W.heap.size 61 C := by rw [← hYd]; exact (RowAt.new W _ _).setRow _
             have c5 : Y.cell? ⟨W.heap.size, 5, none⟩ = some (.string I) := rY.cell hC5
             have cmY : Y.cell? ⟨b0, 0, none⟩ = some (.int .i64 (m : Nat)) := hfin2.out.r0.cell rfl
             have cmY2 : ∀ o, (Y.alloc o).cell? ⟨b0, 0, none⟩ = some (.int .i64 (m : Nat)) := fun o => (hfin2.out.r0.alloc o).cell rfl
             have hsY : Y.heap.size = W.heap.size + 1 := by rw [← hYd]; simp
             replace rY := hid rY
             clear hYd hkY cm)
          | (refine ⟨trivial, rfl, ?_⟩; gi_at_call 40; refine (callsIn_wide.2 (of_make _ _)).mono ?_; rintro e w2 ⟨rfl, rfl⟩))
        have hW2k : Kept (fun _ => False) Y ((Y.alloc (.cells #[.bool false] 4)).alloc (.cells #[.int .i64 (m : Nat)] 3)) := ((Kept.refl _ _).alloc _).alloc _
        have hre : RowAt ((Y.alloc (.cells #[.bool false] 4)).alloc (.cells #[.int .i64 (m : Nat)] 3)) e6 61 C := by rw [he6]; exact (rY.out.alloc _).alloc _
        have hrf : RowAt ((Y.alloc (.cells #[.bool false] 4)).alloc (.cells #[.int .i64 (m : Nat)] 3)) (e6 + 1) 4 #[.bool false] := by rw [he6, ← hsY]; exact (RowAt.new Y _ _).alloc _
        have hrm : RowAt ((Y.alloc (.cells #[.bool false] 4)).alloc (.cells #[.int .i64 (m : Nat)] 3)) (e6 + 2) 3 #[.int .i64 (m : Nat)] := by
          have := RowAt.newS Y #[.bool false] #[.int .i64 (m : Nat)] 4 3
          rw [hsY] at this
          rw [he6]; exact this
        have hIW := hfin2.out.on hW2k (fun _ h => h.elim) (Z := W.heap.size) h03 hbw (by omega) hS2 hS3 hDs.out
        have hS4 : e6 + 3 = ((Y.alloc (.cells #[.bool false] 4)).alloc (.cells #[.int .i64 (m : Nat)] 3)).heap.size := by rw [World.size_alloc, World.size_alloc, hsY, he6]
        rw [← he6] at hS1 hS2 hS3 hD3 hsY ⊢
        generalize World.alloc (World.alloc Y _) _ = W2 at hre hrf hrm hIW hS4 ⊢
        clear hW2k hfin2 rY c5 cmY cmY2 hI hDs hrng
        have hP0 : MsR b0 b3 g (b3 + 2) e6 γ j (m : Nat) (ctTot m j + addJ j []) (cntTo m j : Nat) (([] : List CtX).any fun x => x.1 == j) Ds w W2 := by
          have e0 : ctTot m j + addJ j [] = ctTot m j := by simp [addJ]
          rw [e0]
          exact ⟨hIW, by rw [← show C = (ctR j).cells (ctAtP γ j) from hC3.out]; exact hre, hrf⟩
        have hTk : ∀ γ1 k, (False ∨ twoOf W2.heap.size k ∨ (W2.heap.size + 2 ≤ k ∧ k < ctM γ1)) → e6 + 3 ≤ k := fun γ1 k h => by
          rcases h with h | (h | h) | h
          · exact h.elim
          · omega
          · omega
          · omega
        have hD4 : ∀ d ∈ Ds, d < e6 + 3 := fun d hd => by have := hD3.out d hd; omega
        have z1 : b3 + 1 < e6 + 3 := by omega
        have z2 : g < e6 + 3 := by omega
        have z3 : γ.1 ≤ e6 + 3 := by omega
        clear hsY hIW hre hrf
        replace he6 := hid he6
        replace hP0 := hid hP0
        refine wp_dyn_box (gf := 80) (lb := #[.pointer (some ⟨e6 + 2, 0, none⟩)]) rfl (enters_of Tryz.func80 (by kernel_rfl) rfl) (of_on m hm1 hm9 (e6 + 2) W2 hrm)
          (fun _ h => h.elim) (fun k h => by have := hrm.lt; omega) (fun _ => rfl) (fun γ1 X Y hv hk => hv.kept hk (fun k h1 h2 => h1 (.inr h2)))
          (fun x g1 => [(8, .pointer (some ⟨g1, 0, none⟩)), (9, .bool (ctNeed x.1 m))]) (fun x g1 Y => RowAt Y g1 58 ((ctR x.1).cells x.2) ∧ W2.heap.size + 2 ≤ g1)
          (fun x g1 Y Y' h hk => ⟨hk.row h.1 (fun h2 => by have := h.2; rcases h2 with h2 | h2 <;> omega), h.2⟩)
          (fun γ1 pr Y => MsR b0 b3 g (b3 + 2) e6 γ j (m : Nat) (ctTot m j + addJ j pr) (cntTo m j : Nat) (pr.any fun x => x.1 == j) Ds w Y)
          (fun c γ1 pr Y => False) ?hI ?hIx ?h0 ?assign ?body ?done ?stop
        case hI =>
          rintro γ1 pr Y Y' h _ hk
          exact h.on hk (hTk γ1) h03 hbw z1 z2 z3 hD4 (by omega)
        case hIx => rintro c γ1 pr Y Y' h _ _; exact h
        case stop => rintro c γ1 pr x post Y hs hx h; exact h.elim
        case h0 =>
          intro γ1 Y hk hs hm hv
          exact hP0.out.on hk (fun _ h => h.elim) (Z := e6 + 3) h03 hbw z1 z2 z3 hD4 (by omega)
        case assign =>
          intro l2 γ1 pr x U K hq1 hq2 hi hK
          obtain ⟨C, hE⟩ : ∃ C, C = (ctR x.1).cells x.2 := ⟨_, rfl⟩
          have hE1 : C.size = 6 := by rw [hE]; rfl
          have hE2 : C.all (·.oneCell') = true := by rw [hE]; exact ctCells_one _ _
          simp only [encO]
          rw [fold2]
          rw [← hE] at hK
          replace hi := hid hi
          replace hK := hid hK
          simp only [← hE]
          replace hE1 := hid hE1
          replace hE2 := hid hE2
          have hE3 := hid hE
          clear hE
          simp only [List.zip_toArray, List.foldl_toArray', List.foldl_toArray, List.zip_cons_cons, List.zip_nil_left, List.foldl_cons, List.foldl_nil, List.setIfInBounds_toArray, List.set_cons_zero, List.set_cons_succ]
          gi_wp2_with (with_reducible refine at_opIn none (.store 58 (.tmp 8) (.tmp 34)) ?_
                       refine wpListIn_store_row (o := ⟨none, .store _ (.tmp 8) (.tmp 34), _, _, _, _⟩) rfl 58 (.tmp 8) (.tmp 34) rfl U.heap.size C rfl (by rfl) 58 _ (RowAt.new U _ _) (by rw [hE1.out]; exact infoField) (by rw [hE1.out]; rfl) hE2.out ?_
                       generalize hYd : World.setRow _ _ _ = U1
                       have hkY : Kept (fun _ => False) U U1 := by rw [← hYd]; exact Kept.of_below (below_setRow (below_al (Below.refl _ _) _) (Nat.le_refl _) _)
                       have rY : RowAt U1 U.heap.size 58 C := by rw [← hYd]; exact (RowAt.new U _ _).setRow _
                       have hfin := hid (hK.out U.heap.size U1 hkY (hi.out.on hkY (fun _ h => h.elim) (Z := e6 + 3) h03 hbw z1 z2 z3 hD4 (by omega)) ⟨rY, by omega⟩ (Nat.le_refl _))
                       clear hYd rY hkY)
          have hh := hfin.out
          simp only [encO, ← hE3.out] at hh
          simpa [putAll] using hh
        case done =>
          rintro γ1 Y hs h hd
          rw [ofXs_anyM m γ1 j hlt, hh, addJ_all γ1 hlt hh, ← ctTot_has hh] at h
          obtain ⟨k, hk⟩ : ∃ k, k = cntTo m j := ⟨_, rfl⟩
          have hk32 : k ≤ 32 := by rw [hk]; have := cntTo_le m j; omega
          have hk1 : cntTo m (j + 1) = k + 1 := by rw [hk]; exact cntTo_has hh
          rw [← hk] at h
          have c7 : Y.cell? ⟨e6 + 1, 0, none⟩ = some (.bool true) := h.rf.cell rfl
          have c4 : Y.cell? ⟨b3 + 1, 0, none⟩ = some (.int .i64 (k : Nat)) := h.i.r4.cell rfl
          have f4 := h.i.r4.free 0
          have hend : MsI b0 b3 g (b3 + 2) γ (m : Nat) (ctTot m (j + 1)) (cntTo m (j + 1) : Nat) (W2.heap.size :: Ds) w (Y.setCell ⟨b3 + 1, 0, none⟩ (.int .i64 ((k : Int) + 1))) := by
            have h1 := (h.i.mark hd (by omega) (fun d hd => by have := hD3.out d hd; omega)).cnt h03 hg3 (by omega) ((k : Int) + 1)
            rw [hk1]
            exact h1
          have hDn : ∀ d ∈ W2.heap.size :: Ds, d < (Y.setCell ⟨b3 + 1, 0, none⟩ (.int .i64 ((k : Int) + 1))).heap.size := fun d hd' => by
            rw [World.size_setCell]
            rcases List.mem_cons.1 hd' with rfl | hd'
            · omega
            · have := hD3.out d hd'; omega
          have hsz5 : (Y.setCell ⟨b3 + 1, 0, none⟩ (.int .i64 ((k : Int) + 1))).heap.size = Y.heap.size := World.size_setCell _ _ _
          replace hend := hid hend
          replace hDn := hid hDn
          replace hk := hid hk
          replace hk1 := hid hk1
          clear h hd hP0
          gi_wp2
          refine ⟨by unfold MsL; exact ⟨j + 1, W2.heap.size :: Ds, rfl, rfl, rfl, rfl, rfl, rfl, rfl, rfl, rfl, rfl, by omega, hend, hDn, by omega, by omega, by omega⟩, ?_⟩
          simp [intOf]
          omega
        case body =>
          rintro γ1 pr x post g1 Y hx hq1 hq2 hv1 hr1 hP ⟨rg1, hg1⟩
          obtain ⟨hx32, hxe⟩ := ofXs_inS hx
          have hprl := ofXs_short hx
          obtain ⟨i, pi⟩ := x
          obtain rfl : pi = ctAtP γ1 i := by
            have := hxe
            simp only [Prod.mk.injEq] at this
            exact this.2
          dsimp only at hx32 rg1
          have hany : (pr ++ [(i, ctAtP γ1 i)]).any (fun x => x.1 == j) = (pr.any (fun x => x.1 == j) || (i == j)) := by simp
          have hadd := addJ_snoc j pr (i, ctAtP γ1 i)
          dsimp only at hadd
          clear hxe
          simp only [encO]
          rw [fold2]
          simp only [putAll, List.zip_toArray, List.foldl_toArray', List.foldl_toArray, List.zip_cons_cons, List.zip_nil_left, List.foldl_cons, List.foldl_nil, List.setIfInBounds_toArray, List.set_cons_zero, List.set_cons_succ]
          by_cases hin : i = j
          · have hji := hin.symm
            subst hji
            have hN1 : Y.cell? ⟨g1, 0, none⟩ = some (.string (ctR j).name) := rg1.cell rfl
            have hN2 : Y.cell? ⟨e6, 0, none⟩ = some (.string (ctR j).name) := hP.re.cell rfl
            have hI5 : Y.cell? ⟨e6, 5, none⟩ = some (.string I) := hP.re.cell (by have h := hC5; rw [hC3.out] at h; exact h)
            have cm : Y.cell? ⟨b0, 0, none⟩ = some (.int .i64 (m : Nat)) := hP.i.r0.cell rfl
            obtain ⟨f1, f2, f3, f4, f5, f6⟩ := ctFacts j hlt
            have hst := (hv1 j hlt).1
            have LS := ctSame_any j hlt (ctAtP γ1 j) (ctAtP γ j) Y hst (hP.i.v j hlt).1
            have LL : ∀ W'', IsStrs W'' (ctAtP γ1 j).1 (ctR j).texts.length (ctR j).texts → Calls Tryz.prog 28 #[.agg (ruleA (ctR j).k (ctR j).mn (ctR j).mx (.slice (ctAtP γ1 j).1 (ctR j).texts.length (ctAtP γ1 j).2))] W'' fun e w' => e = .returned (.int .i64 (longN (ctR j).k (ctR j).mn (ctR j).mx (ctR j).texts)) ∧ Below W''.heap.size W'' w' := fun W'' h =>
              longest_any _ _ _ _ _ _ _ f1 f2 f3 W'' h
            have hstB : (ctR j).texts ≠ [] → ∀ x, (ctAtP γ1 j).1 = some x → W2.heap.size + 2 ≤ x.block := fun hne x hx => ((hv1 j hlt).2 hne x hx).1
            have hlen : ctLen j = ((ctR j).name.size : Int) + longN (ctR j).k (ctR j).mn (ctR j).mx (ctR j).texts + 6 := rfl
            rw [if_pos rfl] at hadd
            have hC1' : (ctR j).cells (ctAtP γ j) = C := hC3.out.symm
            rw [hC1'] at LS
            have hPre := hP.re
            rw [hC1'] at hPre
            obtain ⟨R, hR⟩ : ∃ R, R = ruleA (ctR j).k (ctR j).mn (ctR j).mx (.slice (ctAtP γ1 j).1 (ctR j).texts.length (ctAtP γ1 j).2) := ⟨_, rfl⟩
            have hR4 : R.size = 4 := by rw [hR]; rfl
            have hCR : ∀ k v, R.toList[k]? = some v → ((ctR j).cells (ctAtP γ1 j))[1 + k]? = some v := by
              intro k v hk
              rw [hR] at hk
              have hkl : k < 4 := by have := (List.getElem?_eq_some_iff.1 hk).1; simpa [ruleA] using this
              rcases k with _ | _ | _ | _ | k
              · exact hk
              · exact hk
              · exact hk
              · exact hk
              · omega
            rw [← hR] at LL
            obtain ⟨C1, hD1⟩ : ∃ C1, C1 = (ctR j).cells (ctAtP γ1 j) := ⟨_, rfl⟩
            have hD6 : C1.size = 6 := by rw [hD1]; rfl
            rw [← hD1] at LS rg1 hCR ⊢
            obtain ⟨N, hN⟩ : ∃ N, N = (ctR j).name := ⟨_, rfl⟩
            have hD0 : C1[0]? = some (.string N) := by rw [hD1, hN]; rfl
            obtain ⟨L, hL⟩ : ∃ L, L = longN (ctR j).k (ctR j).mn (ctR j).mx (ctR j).texts := ⟨_, rfl⟩
            rw [← hN] at hN1 hN2 f4 hlen
            rw [← hL] at LL f5 f6 hlen
            obtain ⟨nd, hnd⟩ : ∃ nd, nd = ctNeed j m := ⟨_, rfl⟩
            rw [← hnd] at hb1 ⊢
            obtain ⟨S, hSe⟩ : ∃ S, S = ctTot m j + addJ j pr := ⟨_, rfl⟩
            have hS0 : 0 ≤ S ∧ S ≤ 270000 := by
              have h1 := ctTot_bound m j (by omega)
              have h2 := addJ_bound j hlt pr
              rw [hSe]
              constructor
              · omega
              · have h3 : (4106 : Int) * j ≤ 4106 * 32 := by omega
                have h4 : (4106 : Int) * pr.length ≤ 4106 * 32 := by omega
                omega
            rw [← hSe] at hP
            have hS' : ctTot m j + addJ j (pr ++ [(j, ctAtP γ1 j)]) = S + ((N.size : Int) + L + 6) := by rw [hadd, hlen, hSe]; omega
            have hv' : ((pr ++ [(j, ctAtP γ1 j)]).any fun x => x.1 == j) = true := by rw [hany]; simp
            have hrow1 : Y.rangeAt g1 0 C1.toList := fun j v hj => by rw [Nat.zero_add]; exact rg1.cell (by rw [Array.getElem?_toList] at hj; exact hj)
            have hrow2 : Y.rangeAt e6 0 C.toList := fun j v hj => by rw [Nat.zero_add]; exact hPre.cell (by rw [Array.getElem?_toList] at hj; exact hj)
            have hnk : ∀ k, k < e6 + 2 → ¬ (twoOf W2.heap.size k ∨ heldD (fun k => k = e6 + 2) (W2.heap.size + 2) (ctM γ1) k) := fun k hk h => by rcases h with (h | h) | h | h; all_goals omega
            have hgne : g1 ≠ e6 + 1 := by omega
            have hgb : g1 ≠ b3 := by omega
            replace LS := hid LS
            replace LL := hid LL
            replace hst := hid hst
            replace hstB := hid hstB
            replace hP := hid hP
            replace hrow1 := hid hrow1
            replace hrow2 := hid hrow2
            replace rg1 := hid rg1
            replace hS' := hid hS'
            replace hv' := hid hv'
            replace hD6 := hid hD6
            replace hR4 := hid hR4
            replace hCR := hid hCR
            clear hN hL hnd hSe hD1 hR hv1 hr1 hx hC1' hPre hany hadd hlen f1 f2 f3 hP0 hin
            gi_wp2_with (first
              | (with_reducible refine at_opIn (some 50) (.load 58 (.tmp 8)) ?_
                 refine wpListIn_load_midG (o := ⟨some 50, .load _ (.tmp 8), _, _, _, _⟩) rfl 58 (.tmp 8) rfl g1 0 rfl C1.toList _ hrow1.out Tryz.underlying58 rfl (by rw [Array.length_toList, hD6.out]; exact infoField) ?_)
              | (with_reducible refine at_opIn (some 51) (.load 61 (.tmp 6)) ?_
                 refine wpListIn_load_midG (o := ⟨some 51, .load _ (.tmp 6), _, _, _, _⟩) rfl 61 (.tmp 6) rfl e6 0 rfl C.toList _ hrow2.out Tryz.underlying61 rfl (by rw [Array.length_toList, hC1.out]; exact infoRow) ?_)
              | (refine ⟨trivial, rfl, ?_⟩; gi_at_call 32; refine (CallsIn.inRound _ (callsIn_wide.2 LS.out)).mono ?_; rintro e w5 ⟨rfl, hB5⟩
                 have hP5 := hP.out.on (Kept.of_below (S := fun _ => False) hB5) (fun _ h => h.elim) (Z := e6 + 3) h03 hbw z1 z2 z3 hD4 (by omega)
                 have c7 : w5.cell? ⟨e6 + 1, 0, none⟩ = some (.bool (pr.any fun x => x.1 == j)) := hP5.rf.cell rfl
                 have f7 := hP5.rf.free 0
                 have hP6 := hP5.yes h03 (by omega) (by omega) (by omega) (fun d hd => hD3.out d hd)
                 have rg6 := (rg1.out.below hB5 rg1.out.lt).other ⟨e6 + 1, 0, none⟩ (.bool true) hgne
                 have hk6 := (Kept.of_below (S := fun k => ¬ (twoOf W2.heap.size k ∨ heldD (fun k => k = e6 + 2) (W2.heap.size + 2) (ctM γ1) k)) hB5).setCell ⟨e6 + 1, 0, none⟩ (.inl (hnk (e6 + 1) (by omega))) (.bool true)
                 have hst6 := hid ((hst.out.below hB5).keptF ((Kept.refl (fun k => k = e6 + 1) w5).setCell ⟨e6 + 1, 0, none⟩ (.inl rfl) (.bool true)) (fun hne x hx hk => by have := hstB.out hne x hx; omega))
                 replace hP6 := hid hP6
                 replace rg6 := hid rg6
                 replace hk6 := hid hk6
                 clear hP5))
            generalize w5.setCell ⟨e6 + 1, 0, none⟩ (.bool true) = Z at hP6 rg6 hk6 hst6 ⊢
            have LQ : ∀ q : Sub Z, Calls Tryz.prog 28 #[.agg R] q.x fun e w' => e = .returned (.int .i64 L) ∧ Below q.x.heap.size q.x w' := fun q => LL.out q.x (hst6.out.below q.h)
            have q0 : ∀ q : Sub Z, q.x.cell? ⟨g1, 0, none⟩ = some (.string N) := fun q => q.cell rg6.out hD0
            have qr : ∀ q : Sub Z, (Instr.loadAt 37 (.pointer (some ⟨g1, 1, none⟩))).run Tryz.prog q.x = .ok (.agg R) q.x := fun q => by
              have := run_loadAt_mid (P := Tryz.prog) q.x g1 1 37 R.toList _ (fun j v hj => q.cell rg6.out (hCR.out j v hj)) Tryz.underlying37 rfl (by rw [Array.length_toList, hR4.out]; exact infoRule)
              simpa using this
            have q3 : ∀ q : Sub Z, q.x.cell? ⟨b3, 0, none⟩ = some (.int .i64 S) := fun q => q.cell hP6.out.i.r3 rfl
            replace LQ := hid LQ
            replace qr := hid qr
            clear hP hB5 c7 f7 rg1 LS LL hst hrow1 hrow2 hN1 hN2 hI5 cm hix hb1
            refine wpIn_region_last_round (by kernel_rfl) (by kernel_rfl) (by kernel_rfl) (by kernel_rfl) 10 _ rfl rfl ?_
            simp only [muted, mute]
            repeat (first
              | (go_big_quiet_want; refine quiet_load 37 (.tmp 58) rfl rfl qr.out ?_; simp only [Act.put, List.setIfInBounds_toArray, List.set_cons_zero, List.set_cons_succ]; go_big_quiet_on)
              | (go_big_quiet_step (first | (go_at_call 28; with_reducible refine Sub.call _ (LQ.out _)))))
            refine wpQuiet_nil ?_
            intro q
            have k1 := hP6.out.on (Kept.of_below (S := fun _ => False) q.h) (fun _ h => h.elim) (Z := e6 + 3) h03 hbw z1 z2 z3 hD4 (by omega)
            have hkp := hk6.out.trans (Kept.of_below q.h)
            obtain ⟨Y1, hY1⟩ : ∃ Y1, Y1 = q.x := ⟨_, rfl⟩
            rw [← hY1] at k1 hkp ⊢
            have hfr := k1.i.r3.free 0
            have hcf : Y1.cell? ⟨b3, 0, none⟩ = some (.int .i64 S) := k1.i.r3.cell rfl
            obtain ⟨hS00, hS01⟩ := hS0
            have hw1 : IntKind.i64.wrap ((N.size : Int) + L) = (N.size : Int) + L := by rw [IntKind.wrap_i64]; omega
            have hw2 : IntKind.i64.wrap ((N.size : Int) + L + 6) = (N.size : Int) + L + 6 := by rw [IntKind.wrap_i64]; omega
            have hw3 : IntKind.i64.wrap (S + ((N.size : Int) + L + 6)) = S + ((N.size : Int) + L + 6) := by rw [IntKind.wrap_i64]; omega
            unfold Oper.wpIn
            simp [go_sem, hfr, hcf]
            refine ⟨hkp.setCell ⟨b3, 0, none⟩ (.inl (hnk b3 (by omega))) _, ?_⟩
            show MsR b0 b3 g (b3 + 2) e6 γ j (m : Nat) (ctTot m j + addJ j (pr ++ [(j, ctAtP γ1 j)])) (cntTo m j : Nat) ((pr ++ [(j, ctAtP γ1 j)]).any fun x => x.1 == j) Ds w _
            rw [hS'.out, hv'.out]
            exact k1.add h03 hg3 (by omega) (by omega) _
          · have hTN : ((ctR i).name.toList == (ctR j).name.toList) = false := by
              rw [toList_beqB]
              exact decide_eq_false (fun h => hin (names_unlikeM hx32 hlt h))
            have hN1 : Y.cell? ⟨g1, 0, none⟩ = some (.string (ctR i).name) := rg1.cell rfl
            have hN2 : Y.cell? ⟨e6, 0, none⟩ = some (.string (ctR j).name) := hP.re.cell rfl
            generalize (ctR i).name = T at hTN hN1
            generalize (ctR j).name = N at hTN hN2
            generalize (ctR i).cells (ctAtP γ1 i) = C1
            generalize ctNeed i m = nd1
            have hv' : ((pr ++ [(i, ctAtP γ1 i)]).any fun x => x.1 == j) = (pr.any fun x => x.1 == j) := by rw [hany, beq_eq_false_iff_ne.2 hin, Bool.or_false]
            have hS' : ctTot m j + addJ j (pr ++ [(i, ctAtP γ1 i)]) = ctTot m j + addJ j pr := by rw [hadd, if_neg hin, Int.add_zero]
            replace hP := hid hP
            replace hv' := hid hv'
            replace hS' := hid hS'
            replace hany := hid hany
            replace hadd := hid hadd
            clear rg1 hv1 hr1 hx hP0
            gi_wp2
            refine ⟨Kept.refl _ _, ?_⟩
            show MsR b0 b3 g (b3 + 2) e6 γ j (m : Nat) (ctTot m j + addJ j (pr ++ [(i, ctAtP γ1 i)])) (cntTo m j : Nat) ((pr ++ [(i, ctAtP γ1 i)]).any fun x => x.1 == j) Ds w Y
            rw [hS'.out, hv'.out]
            exact hP.out
    · obtain rfl : j = 32 := by omega
      have g1 : decide (((32 : Nat) : Int) < 32) = false := by decide
      have cm : W.cell? ⟨b0, 0, none⟩ = some (.int .i64 (m : Nat)) := hI.out.r0.cell rfl
      gi_wp2_with (refine ⟨trivial, rfl, ?_⟩; gi_at_call 40; refine (callsIn_wide.2 (of_make _ _)).mono ?_; rintro e w2 ⟨rfl, rfl⟩)
      obtain ⟨bm, hbm⟩ : ∃ b, b = W.heap.size := ⟨_, rfl⟩
      have hrm : RowAt (W.alloc (.cells #[.int .i64 (m : Nat)] 3)) bm 3 #[.int .i64 (m : Nat)] := by rw [hbm]; exact RowAt.new _ _ _
      have hI2 := hI.out.on ((Kept.refl (fun _ => False) W).alloc (.cells #[.int .i64 (m : Nat)] 3)) (fun _ h => h.elim) (Z := W.heap.size) h03 hbw (by omega) hS2 hS3 hDs.out
      have hS4 : bm + 1 = (W.alloc (.cells #[.int .i64 (m : Nat)] 3)).heap.size := by rw [World.size_alloc, hbm]
      have hDb := hDs.out
      rw [← hbm] at hS1 hS2 hS3 hDb ⊢
      generalize World.alloc W _ = W2 at hrm hI2 hS4 ⊢
      replace hbm := hid hbm
      replace hI2 := hid hI2
      replace hDb := hid hDb
      clear hI hDs cm
      have hTk : ∀ γ1 k, (False ∨ twoOf W2.heap.size k ∨ (W2.heap.size + 2 ≤ k ∧ k < ctM γ1)) → bm + 1 ≤ k := fun γ1 k h => by
        rcases h with h | (h | h) | h
        · exact h.elim
        · omega
        · omega
        · omega
      have hD4 : ∀ d ∈ Ds, d < bm + 1 := fun d hd => by have := hDb.out d hd; omega
      refine wp_dyn_put (gf := 80) (lb := #[.pointer (some ⟨bm, 0, none⟩)]) rfl (enters_of Tryz.func80 (by kernel_rfl) rfl) (of_on m hm1 hm9 bm W2 hrm)
        (fun _ h => h.elim) (fun k h => by have := hrm.lt; omega) (fun _ => rfl) (fun γ1 X Y hv hk => hv.kept hk (fun k h1 h2 => h1 (.inr h2)))
        (fun x => []) (fun γ1 pr Y => MsI b0 b3 g (b3 + 2) γ (m : Nat) (ctTot m 32) ((cntTo m 32 : Nat) - (pr.length : Nat) : Int) Ds w Y) (fun c γ1 pr Y => False) ?kI ?kIx ?k0 ?kassign ?kbody ?kdone ?kstop
      case kI =>
        rintro γ1 pr Y Y' h _ hk
        exact h.on hk (hTk γ1) h03 hbw (by omega) (by omega) (by omega) hD4
      case kIx => rintro c γ1 pr Y Y' h _ _; exact h
      case kstop => rintro c γ1 pr x post Y hs hx h; exact h.elim
      case k0 =>
        intro γ1 Y hk hs hm hv
        have := hI2.out.on hk (fun _ h => h.elim) (Z := bm + 1) h03 hbw (by omega) (by omega) (by omega) hD4
        simpa using this
      case kassign =>
        intro l2 x Y K hK
        gi_wp2
        simpa [putAll] using hK
      case kbody =>
        rintro γ1 pr x post Y hx hq1 hq2 hv1 hr1 hP
        have hprl := ofXs_short hx
        have hlen : ((cntTo m 32 : Nat) : Int) - ((pr ++ [x]).length : Nat) = (cntTo m 32 : Nat) - (pr.length : Nat) - 1 := by simp; omega
        have hcn := cntTo_le m 32
        obtain ⟨C, hC⟩ : ∃ C : Int, C = (cntTo m 32 : Nat) - (pr.length : Nat) := ⟨_, rfl⟩
        rw [← hC] at hlen hP
        have hCb : -40 ≤ C ∧ C ≤ 40 := by omega
        obtain ⟨hCb1, hCb2⟩ := hCb
        have c4 : Y.cell? ⟨b3 + 1, 0, none⟩ = some (.int .i64 C) := hP.r4.cell rfl
        have f4 := hP.r4.free 0
        have hfin := hid (hP.cnt h03 hg3 (by omega) (C - 1))
        have hkq : Kept (fun k => ¬ (twoOf W2.heap.size k ∨ heldD (fun k => k = bm) (W2.heap.size + 2) (ctM γ1) k)) Y (Y.setCell ⟨b3 + 1, 0, none⟩ (.int .i64 (C - 1))) := (Kept.refl _ _).setCell ⟨b3 + 1, 0, none⟩ (.inl (by
          rintro ((h | h) | h | h)
          · have : b3 + 1 = W2.heap.size := h
            omega
          · have : b3 + 1 = W2.heap.size + 1 := h
            omega
          · have : b3 + 1 = bm := h
            omega
          · have : W2.heap.size + 2 ≤ b3 + 1 := h.1
            omega)) _
        replace hkq := hid hkq
        replace hlen := hid hlen
        clear hP hv1 hx hr1 hC hrm
        simp only [encO]
        rw [fold2]
        simp only [putAll, List.zip_toArray, List.foldl_toArray', List.foldl_toArray, List.zip_cons_cons, List.zip_nil_left, List.foldl_cons, List.foldl_nil, List.setIfInBounds_toArray, List.set_cons_zero, List.set_cons_succ]
        generalize (ctR x.1).cells x.2 = C1
        generalize ctNeed x.1 m = nd1
        gi_wp2
        refine ⟨hkq.out, ?_⟩
        show MsI b0 b3 g (b3 + 2) γ (m : Nat) (ctTot m 32) (((cntTo m 32 : Nat) : Int) - ((pr ++ [x]).length : Nat)) Ds w _
        rw [hlen.out]
        exact hfin.out
      case kdone =>
        rintro γ1 Y hs h hd
        rw [ofXs_lenM, Int.sub_self] at h
        have hE := h.mark hd (by omega) (fun d hd => by have := hDb.out d hd; omega)
        have LB := hid (fun w => bytes_some m hm1 hm9 w)
        have hSb := tot_small m (by omega)
        obtain ⟨S, hSe⟩ : ∃ S, S = ctTot m 32 := ⟨_, rfl⟩
        rw [← hSe] at LB hSb hE
        have gS : decide (S ≤ 4096) = true := decide_eq_true hSb
        have LC : Hid (∀ w, Calls Tryz.prog 25 #[.agg #[.int .i64 3, .int .i64 0, .int .i64 0, .slice none 0 0]] w fun e w' => e = .returned (.int .i64 0) ∧ Below w.heap.size w w') := hid (fun w => ruleRefCheck_any 3 0 0 none 0 0 w)
        have q4 : ∀ q : Sub Y, q.x.cell? ⟨b3 + 1, 0, none⟩ = some (.int .i64 0) := fun q => q.cell hE.r4 rfl
        have q3 : ∀ q : Sub Y, q.x.cell? ⟨b3, 0, none⟩ = some (.int .i64 S) := fun q => q.cell hE.r3 rfl
        have q0 : ∀ q : Sub Y, q.x.cell? ⟨b0, 0, none⟩ = some (.int .i64 (m : Nat)) := fun q => q.cell hE.r0 rfl
        replace hE := hid hE
        have hYs : bm + 3 ≤ Y.heap.size := by omega
        clear h hd hI2 hSe
        gi_wp2
        refine wpIn_region_sub (by kernel_rfl) (by kernel_rfl) ?_
        repeat (go_big_quiet_step (first
          | (go_at_call 41; with_reducible refine Sub.call _ (LB.out _))
          | (go_at_call 25; with_reducible refine Sub.call _ (LC.out _))))
        refine wpQuiet_nil ?_
        intro q
        gi_wp2
        have hE2 := hE.out.on (Kept.of_below (S := fun _ => False) q.h) (fun _ h => h.elim) (Z := bm + 3) h03 hbw (by omega) (by omega) (by omega) (fun d hd => by
          rcases List.mem_cons.1 hd with rfl | hd
          · omega
          · have := hDb.out d hd; omega)
        refine leave_many (W2.heap.size :: Ds) q.x hE2.df hE2.nd fun Z' hk => ⟨_, results_tmp rfl _ _ _, rfl, ?_⟩
        rw [← hb0.out]
        exact below_kept hE2.bel hk hbw (fun d hd => by have := hE2.up _ hd; omega)
end Go.Proofs.YtdjlpmelmhhooaaGreatDoor
