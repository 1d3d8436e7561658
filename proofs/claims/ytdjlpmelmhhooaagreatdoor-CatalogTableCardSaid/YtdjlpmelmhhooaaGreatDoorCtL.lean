/- Catalog: the walk of CatalogTable (printed by mkCtL.py). -/
import Derived.Test.YtdjlpmelmhhooaaGreatDoorCtU
import Derived.Test.YtdjlpmelmhhooaaGreatDoorSkX
import Derived.Test.YtdjlpmelmhhooaaGreatDoorCtT
import Derived.Test.YtdjlpmelmhhooaaGreatDoorFmX1
import Derived.Maps.OwnIn
namespace Go.Proofs.YtdjlpmelmhhooaaGreatDoor
open Go Go.RowKit
set_option linter.unusedSimpArgs false
set_option linter.unusedVariables false

theorem names_unlikeL {i j : Nat} (hi : i < 32) (hj : j < 32) (h : (ctR i).name = (ctR j).name) : i = j := by
  have key : ((List.range 32).all fun i => (List.range 32).all fun j => i == j || (ctR i).name.data.toList != (ctR j).name.data.toList) = true := by kernel_rfl
  have h1 := List.all_eq_true.1 key i (List.mem_range.2 hi)
  have h2 := List.all_eq_true.1 h1 j (List.mem_range.2 hj)
  rw [h] at h2
  simpa using h2
def nmsL (n : Nat) : List ByteArray := (List.range n).map fun i => (ctR i).name
theorem nmsL_next (n : Nat) : nmsL (n + 1) = nmsL n ++ [(ctR n).name] := by simp [nmsL, List.range_succ]
theorem nmsL_len (n : Nat) : (nmsL n).length = n := by simp [nmsL]
theorem nmsL_new {n : Nat} (h : n < 32) : memS (nmsL n) (ctR n).name = false := by
  rw [Bool.eq_false_iff]
  intro hm
  rw [memS_iff, nmsL, List.mem_map] at hm
  obtain ⟨i, hi, he⟩ := hm
  have hi' := List.mem_range.1 hi
  have := names_unlikeL (by omega) h he
  omega
theorem nmsL_small {n : Nat} (h : n ≤ 32) : ∀ s ∈ nmsL n, s.size ≤ maxLen := by
  intro s hs
  rw [nmsL, List.mem_map] at hs
  obtain ⟨i, hi, rfl⟩ := hs
  have hi' := List.mem_range.1 hi
  have : ∀ i, i < 32 → (ctR i).name.size ≤ 100 := by decide
  exact Nat.le_trans (this i (by omega)) (by unfold maxLen; omega)
theorem ctChk : ∀ i, i < 32 → chkN (ctR i).k (ctR i).mn (ctR i).mx (ctR i).texts.length = 0 := by decide
/-- What lies beside all loops. -/
structure TbI (b0 b5 g lo base : Nat) (γ : CtG) (st n : Nat) (ss : List ByteArray) (w X : World) : Prop where
  bel : Below b0 w X
  r0 : RowAt X b0 5 #[.int .u8 (st : Nat)]
  r4 : RowAt X (b0 + 1) 4 #[.bool false]
  r5 : RowAt X b5 52 #[.slice (some ⟨g, 0, none⟩) 32 32]
  r6 : RowAt X (b5 + 1) 3 #[.int .i64 (n : Nat)]
  rg : RowAt X g 61 (ctCells ctTab γ.2).toArray
  v : CtV lo γ X
  rs : ∃ u, RowAt X (b5 + 2) 35 #[u] ∧ Strs X base u ss
theorem TbI.on {b0 b5 g lo base Z : Nat} {γ : CtG} {st n : Nat} {ss : List ByteArray} {w X Y : World} {T : Nat → Prop} (h : TbI b0 b5 g lo base γ st n ss w X) (hk : Kept T X Y) (hT : ∀ k, T k → Z ≤ k ∧ (k < base ∨ X.heap.size ≤ k)) (h05 : b0 + 1 < b5) (hb : b0 ≤ w.heap.size)
    (z1 : b5 + 2 < Z) (z2 : g < Z) (z3 : γ.1 ≤ Z) : TbI b0 b5 g lo base γ st n ss w Y :=
  ⟨below_kept h.bel hk hb (fun k x => by have := (hT k x).1; omega), hk.row h.r0 (fun x => by have := (hT _ x).1; omega), hk.row h.r4 (fun x => by have := (hT _ x).1; omega), hk.row h.r5 (fun x => by have := (hT _ x).1; omega), hk.row h.r6 (fun x => by have := (hT _ x).1; omega), hk.row h.rg (fun x => by have := (hT _ x).1; omega),
    h.v.kept hk (fun k x y => by have := (hT k x).1; omega), by
      obtain ⟨u, h1, h2⟩ := h.rs
      exact ⟨u, hk.row h1 (fun x => by have := (hT _ x).1; omega), h2.kept hk (fun q hq x => by have := h2.lt q hq; have := (hT q x).2; omega)⟩⟩

/-- Behind the first loop: the cut's count, the mark. -/
structure TbJ (b0 b5 g lo bc D : Nat) (γ : CtG) (st k : Nat) (w X : World) : Prop where
  bel : Below b0 w X
  r0 : RowAt X b0 5 #[.int .u8 (st : Nat)]
  r4 : RowAt X (b0 + 1) 4 #[.bool false]
  r5 : RowAt X b5 52 #[.slice (some ⟨g, 0, none⟩) 32 32]
  r6 : RowAt X (b5 + 1) 3 #[.int .i64 32]
  rg : RowAt X g 61 (ctCells ctTab γ.2).toArray
  v : CtV lo γ X
  rs : ∃ a c, RowAt X (b5 + 2) 35 #[.slice a 32 c] ∧ IsStrs X a 32 (nmsL 32) ∧ ∀ x, a = some x → x.block < bc
  rc : RowAt X bc 3 #[.int .i64 (k : Nat)]
  df : X.heap[D]? = some (.deferred (some []))
theorem TbJ.of {b0 b5 g lo base D : Nat} {γ : CtG} {st : Nat} {w X : World} (h : TbI b0 b5 g lo base γ st 32 (nmsL 32) w X) (hd : X.heap[D]? = some (.deferred (some []))) (h05 : b0 + 1 < b5) (hb : b0 ≤ w.heap.size) :
    TbJ b0 b5 g lo X.heap.size D γ st 0 w (X.alloc (.cells #[.int .i64 0] 3)) := by
  have hk : Kept (fun _ => False) X (X.alloc (.cells #[.int .i64 0] 3)) := (Kept.refl _ _).alloc _
  obtain ⟨u, h1, h2⟩ := h.rs
  obtain ⟨a, c, rfl, h3⟩ := h2.read (n := 32) (nmsL_len 32) (nmsL_small (by omega))
  exact ⟨below_kept h.bel hk hb (fun _ h => h.elim), hk.row h.r0 (fun h => h), hk.row h.r4 (fun h => h), hk.row h.r5 (fun h => h), hk.row h.r6 (fun h => h), hk.row h.rg (fun h => h), h.v.kept hk (fun _ h => h.elim),
    ⟨a, c, hk.row h1 (fun h => h), h3.keptF hk (fun _ _ _ h => h), fun x hx => by subst hx; exact (h2.lt x.block rfl).2⟩, RowAt.new _ _ _, (Below.heap_alloc X _ _ (Array.getElem?_eq_some_iff.1 hd).1).trans hd⟩
theorem TbJ.on {b0 b5 g lo bc D Z : Nat} {γ : CtG} {st k : Nat} {w X Y : World} {T : Nat → Prop} (h : TbJ b0 b5 g lo bc D γ st k w X) (hk : Kept T X Y) (hT : ∀ k, T k → Z ≤ k) (h05 : b0 + 1 < b5) (hb : b0 ≤ w.heap.size)
    (z1 : b5 + 2 < Z) (z2 : g < Z) (z3 : γ.1 ≤ Z) (z4 : bc < Z) (z5 : D < Z) : TbJ b0 b5 g lo bc D γ st k w Y := by
  obtain ⟨a, c, h1, h2, h3⟩ := h.rs
  exact ⟨below_kept h.bel hk hb (fun k x => by have := hT k x; omega), hk.row h.r0 (fun x => by have := hT _ x; omega), hk.row h.r4 (fun x => by have := hT _ x; omega), hk.row h.r5 (fun x => by have := hT _ x; omega), hk.row h.r6 (fun x => by have := hT _ x; omega), hk.row h.rg (fun x => by have := hT _ x; omega),
    h.v.kept hk (fun k x y => by have := hT k x; omega), ⟨a, c, hk.row h1 (fun x => by have := hT _ x; omega), h2.keptF hk (fun _ x hx hh => by have := h3 x hx; have := hT _ hh; omega), h3⟩, hk.row h.rc (fun x => by have := hT _ x; omega),
    (hk.block _ (Array.getElem?_eq_some_iff.1 h.df).1 (fun x => by have := hT _ x; omega)).trans h.df⟩
theorem TbJ.cut {b0 b5 g lo bc D : Nat} {γ : CtG} {st k : Nat} {w X : World} (h : TbJ b0 b5 g lo bc D γ st k w X) (h05 : b0 + 1 < b5) (z1 : b5 + 2 < bc) (z2 : g < bc) (z3 : γ.1 ≤ bc) (z5 : D < bc) : TbJ b0 b5 g lo bc D γ st (k + 1) w (X.setCell ⟨bc, 0, none⟩ (.int .i64 ((k : Int) + 1))) := by
  have hk : Kept (fun q => q = bc) X (X.setCell ⟨bc, 0, none⟩ (.int .i64 ((k : Int) + 1))) := (Kept.refl (fun q => q = bc) X).setCell ⟨bc, 0, none⟩ (.inl rfl) _
  obtain ⟨a, c, h1, h2, h3⟩ := h.rs
  exact ⟨h.bel.setCell (p := ⟨bc, 0, none⟩) (by show b0 ≤ bc; omega) _, hk.row h.r0 (fun x => by omega), hk.row h.r4 (fun x => by omega), hk.row h.r5 (fun x => by omega), hk.row h.r6 (fun x => by omega), hk.row h.rg (fun x => by omega),
    h.v.kept hk (fun k x y => by omega), ⟨a, c, hk.row h1 (fun x => by omega), h2.keptF hk (fun _ x hx hh => by have := h3 x hx; omega), h3⟩, (h.rc.set 0 _).eqA (by simp),
    (hk.block _ (Array.getElem?_eq_some_iff.1 h.df).1 (fun x => by omega)).trans h.df⟩
theorem find_one (s : ByteArray) (w : World) : Calls Tryz.prog 34 #[.string s] w fun e w' => ∃ fA N ok, e = .returned (.tuple #[.agg fA, .bool ok]) ∧ fA.size = 6 ∧ fA.all (·.oneCell') = true ∧ fA[0]? = some (.string N) ∧ (ok = false → N = ⟨#[]⟩) ∧
    ((ok = true ∧ ∃ i p, i < 32 ∧ (ctR i).name = s ∧ fA = (ctR i).cells p ∧ IsStrs w' p.1 (ctR i).texts.length (ctR i).texts) ∨ (ok = false ∧ ∀ i, i < 32 → (ctR i).name ≠ s)) ∧ Below w.heap.size w w' := by
  refine (find_any s w).mono ?_
  rintro e w' ⟨h, hB⟩
  rcases h with ⟨i, p, hi, hn, he, hs⟩ | ⟨hn, he⟩
  · exact ⟨_, (ctR i).name, true, he, rfl, ctCells_one _ _, rfl, fun h => (by cases h), .inl ⟨rfl, i, p, hi, hn, rfl, hs⟩, hB⟩
  · exact ⟨_, ⟨#[]⟩, false, he, rfl, fieldA_one _ _ _ _ _ _ _ _, rfl, fun _ => rfl, .inr ⟨rfl, hn⟩, hB⟩
def isB (s : ByteArray) (j : Nat) : Bool := (List.range j).any fun i => decide ((ctR i).name = s)
theorem isB_yes {s : ByteArray} {j : Nat} (h : (ctR j).name = s) : isB s (j + 1) = true := by simp [isB, List.range_succ, h]
theorem isB_no {s : ByteArray} {j : Nat} (h : (ctR j).name ≠ s) : isB s (j + 1) = isB s j := by simp [isB, List.range_succ, h]
theorem isB_mem (s : ByteArray) : memS (nmsL 32) s = isB s 32 := by
  rw [Bool.eq_iff_iff, memS_iff, nmsL, List.mem_map, isB, List.any_eq_true]
  constructor
  · rintro ⟨i, hi, he⟩; exact ⟨i, hi, by simpa using he⟩
  · rintro ⟨i, hi, he⟩; exact ⟨i, hi, by simpa using he⟩
/-- Behind Find: what was found; the second mark. -/
structure TbM (b0 b5 g lo bc D bf D2 : Nat) (γ : CtG) (st ct : Nat) (fA : Array Value) (s : ByteArray) (ok : Bool) (w X : World) : Prop where
  j : TbJ b0 b5 g lo bc D γ st ct w X
  rf : RowAt X bf 58 fA
  d2 : X.heap[D2]? = some (.deferred (some []))
  fd : (ok = true ∧ ∃ i p, i < 32 ∧ (ctR i).name = s ∧ fA = (ctR i).cells p ∧ IsStrs X p.1 (ctR i).texts.length (ctR i).texts) ∨ (ok = false ∧ ∀ i, i < 32 → (ctR i).name ≠ s)
theorem TbM.below {b0 b5 g lo bc D bf D2 : Nat} {γ : CtG} {st ct : Nat} {fA : Array Value} {s : ByteArray} {ok : Bool} {w X Y : World} (h : TbM b0 b5 g lo bc D bf D2 γ st ct fA s ok w X) (hB : Below X.heap.size X Y) (h05 : b0 + 1 < b5) (hb : b0 ≤ w.heap.size)
    (z1 : b5 + 2 < X.heap.size) (z2 : g < X.heap.size) (z3 : γ.1 ≤ X.heap.size) (z4 : bc < X.heap.size) (z5 : D < X.heap.size) : TbM b0 b5 g lo bc D bf D2 γ st ct fA s ok w Y :=
  ⟨h.j.on (Kept.of_below (S := fun _ => False) hB) (Z := X.heap.size) (fun _ h => h.elim) h05 hb z1 z2 z3 z4 z5, h.rf.below hB h.rf.lt, defer_below h.d2 hB, by
    rcases h.fd with ⟨h1, i, p, h2, h3, h4, h5⟩ | h1
    · exact .inl ⟨h1, i, p, h2, h3, h4, h5.below hB⟩
    · exact .inr h1⟩
theorem isB_ok {b0 b5 g lo bc D bf D2 : Nat} {γ : CtG} {st ct : Nat} {fA : Array Value} {s : ByteArray} {ok : Bool} {w X : World} (h : TbM b0 b5 g lo bc D bf D2 γ st ct fA s ok w X) : isB s 32 = ok := by
  rcases h.fd with ⟨rfl, i, p, hi, hn, _, _⟩ | ⟨rfl, hn⟩
  · rw [isB, List.any_eq_true]
    exact ⟨i, List.mem_range.2 hi, by simpa using hn⟩
  · rw [Bool.eq_false_iff]
    intro hh
    rw [isB, List.any_eq_true] at hh
    obtain ⟨i, hi, he⟩ := hh
    exact hn i (List.mem_range.1 hi) (by simpa using he)
theorem tab_rangeL {W : World} {g : Nat} {ps : List CtP} (hA : ∀ (i j : Nat) (v : Value), i < 32 → ((ctR i).cells (ps.getD i (none, 0)))[j]? = some v → (ctCells ctTab ps)[i * 6 + j]? = some v) (hR : RowAt W g 61 (ctCells ctTab ps).toArray) (i : Nat) (hi : i < 32) :
    W.rangeAt g (i * 6) ((ctR i).cells (ps.getD i (none, 0))).toList := fun j v hj => by
  rw [Array.getElem?_toList] at hj
  exact hR.cell (by rw [List.getElem?_toArray]; exact hA i j v hi hj)
theorem arr_range2 (t : Array Value) (n : Nat) (h : t.size = n) : t = ((List.range n).map fun k => t.getD k undef).toArray := by
  apply Array.ext
  · simp [h]
  · intro i h1 h2
    simp [h1]
def TbL (b0 b5 g lo bc D bf D2 : Nat) (γ : CtG) (st ct : Nat) (fA : Array Value) (s : ByteArray) (ok : Bool) (w : World) (a : Act) (W : World) : Prop := ∃ (j : Nat), a.tmps.size = 149 ∧ a.tmps.getD 0 undef = .string s ∧ a.tmps.getD 1 undef = .int .u8 (st : Nat) ∧ a.tmps.getD 3 undef = .pointer (some ⟨b0, 0, none⟩) ∧ a.tmps.getD 4 undef = .pointer (some ⟨b0 + 1, 0, none⟩) ∧ a.tmps.getD 5 undef = .pointer (some ⟨b5, 0, none⟩) ∧ a.tmps.getD 6 undef = .pointer (some ⟨b5 + 1, 0, none⟩) ∧ a.tmps.getD 7 undef = .pointer (some ⟨b5 + 2, 0, none⟩) ∧ a.tmps.getD 10 undef = .pointer (some ⟨bc, 0, none⟩) ∧ a.tmps.getD 11 undef = .pointer (some ⟨bf, 0, none⟩) ∧ a.tmps.getD 12 undef = .bool ok ∧ a.tmps.getD 13 undef = .bool (isB s j) ∧ a.tmps.getD 84 undef = .slice (some ⟨g, 0, none⟩) 32 32 ∧ a.tmps.getD 85 undef = .int .i64 32 ∧ a.tmps.getD 86 undef = .int .i64 (j : Nat) ∧ a.defers = [{ target := .collected D2, args := #[] }, { target := .collected D, args := #[] }] ∧ j ≤ 32 ∧ Hid (TbM b0 b5 g lo bc D bf D2 γ st ct fA s ok w W) ∧ bf < W.heap.size
theorem kept_grown {X Y : World} {row : Option Nat} (hg : X.grownBy Y row) : Kept (fun k => some k = row) X Y := ⟨hg.os, hg.tape, hg.output, hg.size, fun k hk hs => hg.block k hk hs⟩
theorem TbI.push {b0 b5 g lo base : Nat} {γ : CtG} {st n : Nat} {ss ss' : List ByteArray} {w Y W2 : World} {row : Option Nat} (h : TbI b0 b5 g lo base γ st n ss w Y) (hk : Kept (fun k => some k = row) Y W2) (hr : ∀ k, some k = row → base ≤ k) (h05 : b0 + 1 < b5) (hb : b0 ≤ w.heap.size)
    (zb : b5 + 2 < base) (zg : g < b5) (zγ : γ.1 ≤ b5) {v1 : Value} (hown : Strs W2 base v1 ss') : TbI b0 b5 g lo base γ st (n + 1) ss' w ((W2.setCell ⟨b5 + 2, 0, none⟩ v1).setCell ⟨b5 + 1, 0, none⟩ (.int .i64 ((n : Int) + 1))) := by
  have hT : ∀ k, some k = row → base ≤ k := hr
  have hkk : Kept (fun k => k = b5 + 2 ∨ k = b5 + 1) W2 ((W2.setCell ⟨b5 + 2, 0, none⟩ v1).setCell ⟨b5 + 1, 0, none⟩ (.int .i64 ((n : Int) + 1))) := ((Kept.refl _ _).setCell ⟨b5 + 2, 0, none⟩ (.inl (.inl rfl)) _).setCell ⟨b5 + 1, 0, none⟩ (.inl (.inr rfl)) _
  obtain ⟨u, hu1, hu2⟩ := h.rs
  refine ⟨?_, ?_, ?_, ?_, ?_, ?_, ?_, v1, ?_, ?_⟩
  · exact below_kept (below_kept h.bel hk hb (fun k x => by have := hT k x; omega)) hkk hb (fun k x => by omega)
  · exact hkk.row (hk.row h.r0 (fun x => by have := hT _ x; omega)) (fun x => by omega)
  · exact hkk.row (hk.row h.r4 (fun x => by have := hT _ x; omega)) (fun x => by omega)
  · exact hkk.row (hk.row h.r5 (fun x => by have := hT _ x; omega)) (fun x => by omega)
  · have h1 := (hk.row h.r6 (fun x => by have := hT _ x; omega)).other ⟨b5 + 2, 0, none⟩ v1 (by show b5 + 1 ≠ b5 + 2; omega)
    exact (h1.set 0 _).eqA (by simp)
  · exact hkk.row (hk.row h.rg (fun x => by have := hT _ x; omega)) (fun x => by omega)
  · exact (h.v.kept hk (fun k x y => by have := hT k x; omega)).kept hkk (fun k x y => by omega)
  · have h1 := (hk.row hu1 (fun x => by have := hT _ x; omega)).set 0 v1
    exact (h1.eqA (A' := #[v1]) (by simp)).other _ _ (by show b5 + 2 ≠ b5 + 1; omega)
  · exact hown.kept hkk (fun q hq x => by have := hown.lt q hq; omega)

attribute [local go_sem] Oper.semAt_some
set_option maxRecDepth 100000 in
set_option maxHeartbeats 64000000 in
theorem table_core (s : ByteArray) (st : Nat) (hst : st < 256) (hs : s.size ≤ 100) (w : World) (hM : MaxVar w) : Calls Tryz.prog 8 #[.string s, .int .u8 (st : Nat)] w fun e w' => e = .returned (.bool true) ∧ Below w.heap.size w w' := by
  refine (callsIn_wide (n := 0)).1 ?_
  refine callsIn_of_wp_marks Tryz.func8 rfl trivial ?_
  simp only [Tryz.ntmps8, List.size_toArray, List.length_cons, List.length_nil, Nat.reduceAdd, Nat.reduceSub, Array.replicate_succ, Array.replicate_zero, List.push_toArray, List.append_toArray, List.nil_append, List.cons_append]
  have LA := hid (fun w h => ctAwake_any w h)
  have LT := hid (fun w => rtTable_any w)
  have hM0 := hid (fun o o' => (hM.alloc o).alloc o')
  obtain ⟨b0, hb0⟩ : ∃ b, b = w.heap.size := ⟨_, rfl⟩
  have gz : decide ((100 : Int) < (s.size : Int)) = false := decide_eq_false (by omega)
  have gz' : ¬ (100 : Int) < (s.size : Int) := by omega
  clear hM
  gi_wp2_with (first
    | (refine ⟨trivial, rfl, ?_⟩; gi_at_call 29; refine (callsIn_wide.2 (LA.out _ (hM0.out _ _))).mono ?_; rintro e w1 ⟨rfl, hB⟩
       have r0 := hid (((RowAt.new w #[.int .u8 (st : Nat)] 5).alloc (.cells #[.bool false] 4)).below hB (by simp only [World.size_alloc]; omega))
       have r4 := hid ((RowAt.newS w #[.int .u8 (st : Nat)] #[.bool false] 5 4).below hB (by simp only [World.size_alloc]; omega))
       have bel := hid (below_cat hB (below_al (below_al (Below.refl w.heap.size w) _) _))
       have s1 : w.heap.size + 2 ≤ w1.heap.size := by have := hB.size; simpa using this
       clear hB hM0)
    | (refine ⟨trivial, rfl, ?_⟩; gi_at_call 30; refine (callsIn_wide.2 (LT.out _)).mono ?_; rintro e w2 ⟨g, ps, rfl, hR, hA, hgs, hB2⟩
       replace hR := hid hR
       replace hA := hid hA
       replace hB2 := hid hB2)
    | (refine ⟨trivial, rfl, ?_⟩; gi_at_call 31; refine (callsIn_wide.2 (fields_make _)).mono ?_; rintro e w3 ⟨rfl, rfl⟩))
  obtain ⟨b5, hb5⟩ : ∃ b, b = w2.heap.size := ⟨_, rfl⟩
  obtain ⟨γ, hγ⟩ : ∃ γ : CtG, γ = (w2.heap.size, ps) := ⟨_, rfl⟩
  obtain ⟨lo, hlo⟩ : ∃ b, b = w1.heap.size := ⟨_, rfl⟩
  have hlo2 : lo ≤ b5 := by rw [hlo, hb5]; exact hB2.out.size
  have h05 : b0 + 1 < b5 := by omega
  have hlo0 : b0 + 1 < lo := by omega
  have hbw : b0 ≤ w.heap.size := Nat.le_of_eq hb0
  have hg5 : g < b5 := by rw [hb5]; exact hR.out.lt
  have hglo : lo ≤ g := by rw [hlo]; exact hgs
  have hγ1 : γ.1 = b5 := by rw [hγ, hb5]
  have hT0 : ∀ base, TbI b0 b5 g lo base γ st 0 (nmsL 0) w (((w2.alloc (.cells #[.slice (some ⟨g, 0, none⟩) 32 32] 52)).alloc (.cells #[.int .i64 0] 3)).alloc (.cells #[.slice none 0 0] 35)) := by
    intro base
    have hv := ctV_of (m := w2.heap.size) hA.out (Nat.le_refl _)
    have hk : Kept (fun _ => False) w2 (((w2.alloc (.cells #[.slice (some ⟨g, 0, none⟩) 32 32] 52)).alloc (.cells #[.int .i64 0] 3)).alloc (.cells #[.slice none 0 0] 35)) := (((Kept.refl _ _).alloc _).alloc _).alloc _
    refine ⟨?_, ?_, ?_, ?_, ?_, ?_, ?_, ⟨.slice none 0 0, ?_, World.ownsRow_nil _ _ _ _⟩⟩
    · rw [hb0]; exact below_kept (below_cat hB2.out bel.out) hk (Nat.le_refl _) (fun _ h => h.elim)
    · rw [hb0]; exact hk.row (r0.out.below hB2.out r0.out.lt) (fun h => h)
    · rw [hb0]; exact hk.row (r4.out.below hB2.out r4.out.lt) (fun h => h)
    · rw [hb5]; exact ((RowAt.new w2 _ _).alloc _).alloc _
    · rw [hb5]; exact (RowAt.newS w2 _ _ _ _).alloc _
    · rw [hγ]; exact hk.row hR.out (fun h => h)
    · rw [hγ, hlo]; exact hv.kept hk (fun _ h => h.elim)
    · have := RowAt.newS (w2.alloc (.cells #[.slice (some ⟨g, 0, none⟩) 32 32] 52)) #[.int .i64 0] #[.slice none 0 0] 3 35
      rw [World.size_alloc] at this
      rw [hb5]; exact this
  have hS0 : b5 + 3 = (((w2.alloc (.cells #[.slice (some ⟨g, 0, none⟩) 32 32] 52)).alloc (.cells #[.int .i64 0] 3)).alloc (.cells #[.slice none 0 0] 35)).heap.size := by rw [World.size_alloc, World.size_alloc, World.size_alloc, hb5]
  have hcell : ∀ (i j : Nat) (v : Value), i < 32 → ((ctR i).cells (γ.2.getD i (none, 0)))[j]? = some v → (ctCells ctTab γ.2)[i * 6 + j]? = some v := fun i j v hi hv => by
    rw [hγ] at hv ⊢
    exact (ctAt_get hA.out i _ (ctTab_at i hi)).2 j v hv
  rw [← hb0, ← hb5]
  generalize World.alloc (World.alloc (World.alloc w2 _) _) _ = W0 at hT0 hS0 ⊢
  clear hR hA hB2 r0 r4 bel hγ hgs
  replace hcell := hid hcell
  replace hT0 := hid hT0
  replace hb0 := hid hb0
  replace hb5 := hid hb5
  replace hlo := hid hlo
  clear LT LA
  obtain ⟨inf, hi, hz0, hz1, hz2⟩ := info_parts info_str
  replace hi := hid hi
  replace hz0 := hid hz0
  replace hz1 := hid hz1
  replace hz2 := hid hz2
  have hTk : ∀ γ1 k, W0.heap.size + 2 ≤ ctM γ1 → (False ∨ twoOf W0.heap.size k ∨ (W0.heap.size + 2 ≤ k ∧ k < ctM γ1)) → W0.heap.size ≤ k ∧ k < ctM γ1 := fun γ1 k hm h => by
    rcases h with h | (h | h) | h
    · exact h.elim
    · exact ⟨by omega, by omega⟩
    · exact ⟨by omega, by omega⟩
    · exact ⟨by omega, by omega⟩
  refine wp_dyn_box (gf := 76) (lb := #[]) rfl (enters_of Tryz.func76 (by kernel_rfl) rfl) (fields_on W0)
    (fun _ h => h.elim) (fun _ h => h.elim) (fun _ => rfl) (fun γ1 X Y hv hk => hv.kept hk (fun k h1 h2 => h1 (.inr h2)))
    (fun x g1 => [(8, .int .i64 (x.1 : Nat)), (9, .pointer (some ⟨g1, 0, none⟩))]) (fun x g1 X => RowAt X g1 58 ((ctR x.1).cells x.2) ∧ W0.heap.size + 2 ≤ g1)
    (fun x g1 X Y h hk => ⟨hk.row h.1 (fun h2 => by have := h.2; rcases h2 with h2 | h2 <;> omega), h.2⟩)
    (fun γ1 pre X => TbI b0 b5 g lo (ctM γ1) γ st pre.length (nmsL pre.length) w X ∧ W0.heap.size + 2 ≤ ctM γ1) (fun c γ1 pre X => False) ?hI ?hIx ?h0 ?assign ?body ?done ?stop
  case hI =>
    rintro γ1 pre X Y ⟨h1, h2⟩ _ hk
    exact ⟨h1.on hk (Z := W0.heap.size) (fun k h => ⟨(hTk γ1 k h2 h).1, .inl (hTk γ1 k h2 h).2⟩) h05 hbw (by omega) (by omega) (by omega), h2⟩
  case hIx => rintro c γ1 pre X Y h _ _; exact h
  case stop => rintro c γ1 pre x post X hs hx h; exact h.elim
  case h0 =>
    intro γ1 X hk hs hm hv
    exact ⟨(hT0.out _).on hk (Z := W0.heap.size) (fun _ h => h.elim) h05 hbw (by omega) (by omega) (by omega), by rw [hm]; exact hs⟩
  case assign =>
    intro l2 γ1 pre x X K hm1 hm2 hj hK
    obtain ⟨C, hC⟩ : ∃ C, C = (ctR x.1).cells x.2 := ⟨_, rfl⟩
    have hC1 : C.size = 6 := by rw [hC]; rfl
    have hC2 : C.all (·.oneCell') = true := by rw [hC]; exact ctCells_one _ _
    simp only [encF]
    rw [fold2]
    rw [← hC] at hK
    replace hj := hid hj
    replace hK := hid hK
    simp only [← hC]
    replace hC1 := hid hC1
    replace hC2 := hid hC2
    have hC3 := hid hC
    clear hC
    simp only [List.zip_toArray, List.foldl_toArray', List.foldl_toArray, List.zip_cons_cons, List.zip_nil_left, List.foldl_cons, List.foldl_nil, List.setIfInBounds_toArray, List.set_cons_zero, List.set_cons_succ]
    gi_wp2_with (with_reducible refine at_opIn none (.store 58 (.tmp 9) (.tmp 25)) ?_
                 refine wpListIn_store_row (o := ⟨none, .store _ (.tmp 9) (.tmp 25), _, _, _, _⟩) rfl 58 (.tmp 9) (.tmp 25) rfl X.heap.size C rfl (by rfl) 58 _ (RowAt.new X _ _) (by rw [hC1.out]; exact infoField) (by rw [hC1.out]; rfl) hC2.out ?_
                 generalize hYd : World.setRow _ _ _ = Y
                 have hkY : Kept (fun _ => False) X Y := by rw [← hYd]; exact Kept.of_below (below_setRow (below_al (Below.refl _ _) _) (Nat.le_refl _) _)
                 have rY : RowAt Y X.heap.size 58 C := by rw [← hYd]; exact (RowAt.new X _ _).setRow _
                 have hfin := hid (hK.out X.heap.size Y hkY (⟨hj.out.1.on hkY (Z := W0.heap.size) (fun _ h => h.elim) h05 hbw (by omega) (by omega) (by omega), hj.out.2⟩) ⟨rY, by omega⟩ (Nat.le_refl _))
                 clear hYd rY hkY)
    have hh := hfin.out
    simp only [encF, ← hC3.out] at hh
    simpa [putAll] using hh
  case done =>
    rintro γ1 X hs ⟨h, hm⟩ hd
    rw [show (ctXs γ1).length = 32 by simp [ctXs]] at h
    generalize ctM γ1 = base at h hm
    replace hd := hid hd
    replace h := hid h
    gi_wp2_with (refine ⟨trivial, rfl, ?_⟩; gi_at_call 31; refine (callsIn_wide.2 (fields_make _)).mono ?_; rintro e w3 ⟨rfl, rfl⟩)
    obtain ⟨bc, hbc⟩ : ∃ b, b = X.heap.size := ⟨_, rfl⟩
    have hJ0 : TbJ b0 b5 g lo bc W0.heap.size γ st 0 w (X.alloc (.cells #[.int .i64 0] 3)) := by
      rw [hbc]; exact TbJ.of h.out hd.out h05 hbw
    have hSX : bc + 1 = (X.alloc (.cells #[.int .i64 0] 3)).heap.size := by rw [World.size_alloc, hbc]
    rw [← hbc] at hs ⊢
    generalize World.alloc X _ = X1 at hJ0 hSX ⊢
    clear h hd
    replace hbc := hid hbc
    replace hJ0 := hid hJ0
    have hTj : ∀ γ2 k, (False ∨ twoOf X1.heap.size k ∨ (X1.heap.size + 2 ≤ k ∧ k < ctM γ2)) → X1.heap.size ≤ k := fun γ2 k h => by
      rcases h with h | (h | h) | h
      · exact h.elim
      · omega
      · omega
      · omega
    refine wp_dyn_put (gf := 76) (lb := #[]) rfl (enters_of Tryz.func76 (by kernel_rfl) rfl) (fields_on X1)
      (fun _ h => h.elim) (fun _ h => h.elim) (fun _ => rfl) (fun γ2 X Y hv hk => hv.kept hk (fun k h1 h2 => h1 (.inr h2)))
      (fun x => []) (fun γ2 pr Y => TbJ b0 b5 g lo bc W0.heap.size γ st pr.length w Y ∧ pr.length ≤ st) (fun c γ2 pr Y => c = .exit 2 ∧ TbJ b0 b5 g lo bc W0.heap.size γ st pr.length w Y ∧ pr.length = st + 1) ?kI ?kIx ?k0 ?kassign ?kbody ?kdone ?kstop
    case kI =>
      rintro γ2 pr Y Y' ⟨h1, h2⟩ _ hk
      exact ⟨h1.on hk (Z := X1.heap.size) (fun k h => hTj γ2 k h) h05 hbw (by omega) (by omega) (by omega) (by omega) (by omega), h2⟩
    case kIx =>
      rintro c γ2 pr Y Y' ⟨h0, h1, h2⟩ _ hk
      exact ⟨h0, h1.on hk (Z := X1.heap.size) (fun k h => hTj γ2 k h) h05 hbw (by omega) (by omega) (by omega) (by omega) (by omega), h2⟩
    case k0 =>
      intro γ2 Y hk hs hm hv
      exact ⟨hJ0.out.on hk (Z := X1.heap.size) (fun _ h => h.elim) h05 hbw (by omega) (by omega) (by omega) (by omega) (by omega), Nat.zero_le _⟩
    case kassign =>
      intro l2 x Y K hK
      gi_wp2
      simpa [putAll] using hK
    case kbody =>
      rintro γ2 pr x post Y hx hq1 hq2 hv1 hr1 ⟨hJ, hpr⟩
      have hlen : (pr ++ [x]).length = pr.length + 1 := by simp
      have cc : Y.cell? ⟨bc, 0, none⟩ = some (.int .i64 (pr.length : Nat)) := hJ.rc.cell rfl
      have fc := hJ.rc.free 0
      have hJ2 := hJ.cut h05 (by omega) (by omega) (by omega) (by omega)
      have cc2 : (Y.setCell ⟨bc, 0, none⟩ (.int .i64 ((pr.length : Int) + 1))).cell? ⟨bc, 0, none⟩ = some (.int .i64 ((pr.length : Int) + 1)) := (hJ2.rc.eqA (A' := #[.int .i64 ((pr.length : Int) + 1)]) (by simp)).cell rfl
      have c02 : (Y.setCell ⟨bc, 0, none⟩ (.int .i64 ((pr.length : Int) + 1))).cell? ⟨b0, 0, none⟩ = some (.int .u8 (st : Nat)) := hJ2.r0.cell rfl
      have hkq : Kept (fun k => ¬ (twoOf X1.heap.size k ∨ heldD (fun _ => False) (X1.heap.size + 2) (ctM γ2) k)) Y (Y.setCell ⟨bc, 0, none⟩ (.int .i64 ((pr.length : Int) + 1))) := (Kept.refl _ _).setCell ⟨bc, 0, none⟩ (.inl (by
        rintro ((h | h) | h | h)
        · have : bc = X1.heap.size := h
          omega
        · have : bc = X1.heap.size + 1 := h
          omega
        · exact h
        · have : X1.heap.size + 2 ≤ bc := h.1
          omega)) _
      have hcase : (decide ((st : Int) < (pr.length : Int) + 1) = true ∧ pr.length + 1 = st + 1) ∨ (decide ((st : Int) < (pr.length : Int) + 1) = false ∧ pr.length + 1 ≤ st) := by
        by_cases q : pr.length = st
        · exact .inl ⟨decide_eq_true (by omega), by omega⟩
        · exact .inr ⟨decide_eq_false (by omega), by omega⟩
      have hp4 : (pr.length : Int) < 300 := by omega
      replace hJ2 := hid hJ2
      replace hkq := hid hkq
      replace hlen := hid hlen
      clear hJ hv1 hr1 hx hJ0
      simp only [encF]
      rw [fold2]
      simp only [putAll, List.zip_toArray, List.foldl_toArray', List.foldl_toArray, List.zip_cons_cons, List.zip_nil_left, List.foldl_cons, List.foldl_nil, List.setIfInBounds_toArray, List.set_cons_zero, List.set_cons_succ]
      generalize (ctR x.1).cells x.2 = C1
      generalize x.1 = i1
      rcases hcase with ⟨hc, hq⟩ | ⟨hc, hq⟩
      · replace hq := hid hq
        gi_wp2
        refine ⟨hkq.out, rfl, ?_, ?_⟩
        · show TbJ b0 b5 g lo bc W0.heap.size γ st (pr ++ [x]).length w _
          rw [hlen.out]; exact hJ2.out
        · rw [hlen.out]; exact hq.out
      · replace hq := hid hq
        gi_wp2
        refine ⟨hkq.out, ?_, ?_⟩
        · show TbJ b0 b5 g lo bc W0.heap.size γ st (pr ++ [x]).length w _
          rw [hlen.out]; exact hJ2.out
        · show (pr ++ [x]).length ≤ st
          rw [hlen.out]; exact hq.out
    case' kdone =>
      rintro γ2 Y hs2 ⟨hJ, hpr⟩ hd2
      rw [show (ctXs γ2).length = 32 by simp [ctXs]] at hJ hpr
      obtain ⟨ct, hct⟩ : ∃ c, c = 32 := ⟨_, rfl⟩
      have hcm : ct = min 32 (st + 1) := by omega
      rw [← hct] at hJ
      clear hct hpr
    case' kstop =>
      rintro c γ2 pr x post Y hs2 hx ⟨rfl, hJ, hpr⟩ hd2
      obtain ⟨ct, hct⟩ : ∃ c, c = (pr ++ [x]).length := ⟨_, rfl⟩
      have hcm : ct = min 32 (st + 1) := by
        have h1 := congrArg List.length hx
        rw [show (ctXs γ2).length = 32 by simp [ctXs]] at h1
        simp only [List.length_append, List.length_cons, List.length_nil] at h1 hct hpr
        omega
      rw [← hct] at hJ
      clear hct hpr hx
    all_goals
      replace hcm := hid hcm
      replace hd2 := hid hd2
      replace hJ := hid hJ
      have LF := hid (fun w => find_one s w)
      clear hJ0
      gi_wp2_with (first
        | (refine ⟨trivial, rfl, ?_⟩; gi_at_call 34; refine (callsIn_wide.2 (LF.out _)).mono ?_; rintro e w5 ⟨fA, N, ok, rfl, hf6, hf1, hf0, hfn, hfd, hB5⟩
           have hJ5 := hid (hJ.out.on (Kept.of_below (S := fun _ => False) hB5) (Z := X1.heap.size) (fun _ h => h.elim) h05 hbw (by omega) (by omega) (by omega) (by omega) (by omega))
           have hd5 := hid (defer_below hd2.out hB5)
           have hs5 := hB5.size
           replace hf6 := hid hf6
           replace hf1 := hid hf1
           replace hf0 := hid hf0
           replace hfn := hid hfn
           replace hfd := hid hfd
           clear hB5 hJ hd2)
        | (with_reducible refine at_opIn none (.store 58 (.tmp 11) (.tmp 82)) ?_
           refine wpListIn_store_row (o := ⟨none, .store _ (.tmp 11) (.tmp 82), _, _, _, _⟩) rfl 58 (.tmp 11) (.tmp 82) rfl w5.heap.size fA rfl (by rfl) 58 _ (RowAt.new w5 _ _) (by rw [hf6.out]; exact infoField) (by rw [hf6.out]; rfl) hf1.out ?_
           generalize hYd : World.setRow _ _ _ = Y6
           have hB6 : Below w5.heap.size w5 Y6 := by rw [← hYd]; exact below_setRow (below_al (Below.refl _ _) _) (Nat.le_refl _) _
           have hM6 : TbM b0 b5 g lo bc W0.heap.size w5.heap.size X1.heap.size γ st ct fA s ok w Y6 := ⟨hJ5.out.on (Kept.of_below (S := fun _ => False) hB6) (Z := X1.heap.size) (fun _ h => h.elim) h05 hbw (by omega) (by omega) (by omega) (by omega) (by omega), by rw [← hYd]; exact (RowAt.new w5 _ _).setRow _, defer_below hd5.out hB6, by
             rcases hfd.out with ⟨h1, i, p, h2, h3, h4, h5⟩ | h1
             · exact .inl ⟨h1, i, p, h2, h3, h4, h5.below hB6⟩
             · exact .inr h1⟩
           have hs6 : w5.heap.size < Y6.heap.size := hM6.rf.lt
           have c56 : Y6.cell? ⟨b5, 0, none⟩ = some (.slice (some ⟨g, 0, none⟩) 32 32) := hM6.j.r5.cell rfl
           replace hM6 := hid hM6
           clear hYd hB6 hJ5 hd5))
    all_goals
      obtain ⟨bf, hbf⟩ : ∃ b, b = w5.heap.size := ⟨_, rfl⟩
      rw [← hbf] at hM6 hs6 hs5 ⊢
      replace hbf := hid hbf
      refine wpIn_loop (TbL b0 b5 g lo bc W0.heap.size bf X1.heap.size γ st ct fA s ok w) (fun a _ => 33 - (intOf (a.tmps.getD 86 undef)).toNat) ?lstart ?lround
      case lstart => exact ⟨0, rfl, rfl, rfl, rfl, rfl, rfl, rfl, rfl, rfl, rfl, rfl, rfl, rfl, rfl, rfl, rfl, by omega, hM6, hs6⟩
      case lround =>
        clear hM6 hs6 c56
        rintro ⟨t, df⟩ W ⟨j, hsz, e0, e1, e3, e4, e5, e6, e7, e10, e11, e12, e13, e84, e85, e86, hdf, hj32, hMj, hS1⟩
        dsimp only at hsz e0 e1 e3 e4 e5 e6 e7 e10 e11 e12 e13 e84 e85 e86 hdf
        subst hdf
        obtain ⟨f, rfl⟩ : ∃ f : Nat → Value, t = #[.string s, .int .u8 (st : Nat), f 2, .pointer (some ⟨b0, 0, none⟩), .pointer (some ⟨b0 + 1, 0, none⟩), .pointer (some ⟨b5, 0, none⟩), .pointer (some ⟨b5 + 1, 0, none⟩), .pointer (some ⟨b5 + 2, 0, none⟩), f 8, f 9, .pointer (some ⟨bc, 0, none⟩), .pointer (some ⟨bf, 0, none⟩), .bool ok, .bool (isB s j), f 14, f 15, f 16, f 17, f 18, f 19, f 20, f 21, f 22, f 23, f 24, f 25, f 26, f 27, f 28, f 29, f 30, f 31, f 32, f 33, f 34, f 35, f 36, f 37, f 38, f 39, f 40, f 41, f 42, f 43, f 44, f 45, f 46, f 47, f 48, f 49, f 50, f 51, f 52, f 53, f 54, f 55, f 56, f 57, f 58, f 59, f 60, f 61, f 62, f 63, f 64, f 65, f 66, f 67, f 68, f 69, f 70, f 71, f 72, f 73, f 74, f 75, f 76, f 77, f 78, f 79, f 80, f 81, f 82, f 83, .slice (some ⟨g, 0, none⟩) 32 32, .int .i64 32, .int .i64 (j : Nat), f 87, f 88, f 89, f 90, f 91, f 92, f 93, f 94, f 95, f 96, f 97, f 98, f 99, f 100, f 101, f 102, f 103, f 104, f 105, f 106, f 107, f 108, f 109, f 110, f 111, f 112, f 113, f 114, f 115, f 116, f 117, f 118, f 119, f 120, f 121, f 122, f 123, f 124, f 125, f 126, f 127, f 128, f 129, f 130, f 131, f 132, f 133, f 134, f 135, f 136, f 137, f 138, f 139, f 140, f 141, f 142, f 143, f 144, f 145, f 146, f 147, f 148] := ⟨fun k => t.getD k undef, by
          refine (arr_range2 t 149 hsz).trans ?_
          show (#[t.getD 0 undef, t.getD 1 undef, t.getD 2 undef, t.getD 3 undef, t.getD 4 undef, t.getD 5 undef, t.getD 6 undef, t.getD 7 undef, t.getD 8 undef, t.getD 9 undef, t.getD 10 undef, t.getD 11 undef, t.getD 12 undef, t.getD 13 undef, t.getD 14 undef, t.getD 15 undef, t.getD 16 undef, t.getD 17 undef, t.getD 18 undef, t.getD 19 undef, t.getD 20 undef, t.getD 21 undef, t.getD 22 undef, t.getD 23 undef, t.getD 24 undef, t.getD 25 undef, t.getD 26 undef, t.getD 27 undef, t.getD 28 undef, t.getD 29 undef, t.getD 30 undef, t.getD 31 undef, t.getD 32 undef, t.getD 33 undef, t.getD 34 undef, t.getD 35 undef, t.getD 36 undef, t.getD 37 undef, t.getD 38 undef, t.getD 39 undef, t.getD 40 undef, t.getD 41 undef, t.getD 42 undef, t.getD 43 undef, t.getD 44 undef, t.getD 45 undef, t.getD 46 undef, t.getD 47 undef, t.getD 48 undef, t.getD 49 undef, t.getD 50 undef, t.getD 51 undef, t.getD 52 undef, t.getD 53 undef, t.getD 54 undef, t.getD 55 undef, t.getD 56 undef, t.getD 57 undef, t.getD 58 undef, t.getD 59 undef, t.getD 60 undef, t.getD 61 undef, t.getD 62 undef, t.getD 63 undef, t.getD 64 undef, t.getD 65 undef, t.getD 66 undef, t.getD 67 undef, t.getD 68 undef, t.getD 69 undef, t.getD 70 undef, t.getD 71 undef, t.getD 72 undef, t.getD 73 undef, t.getD 74 undef, t.getD 75 undef, t.getD 76 undef, t.getD 77 undef, t.getD 78 undef, t.getD 79 undef, t.getD 80 undef, t.getD 81 undef, t.getD 82 undef, t.getD 83 undef, t.getD 84 undef, t.getD 85 undef, t.getD 86 undef, t.getD 87 undef, t.getD 88 undef, t.getD 89 undef, t.getD 90 undef, t.getD 91 undef, t.getD 92 undef, t.getD 93 undef, t.getD 94 undef, t.getD 95 undef, t.getD 96 undef, t.getD 97 undef, t.getD 98 undef, t.getD 99 undef, t.getD 100 undef, t.getD 101 undef, t.getD 102 undef, t.getD 103 undef, t.getD 104 undef, t.getD 105 undef, t.getD 106 undef, t.getD 107 undef, t.getD 108 undef, t.getD 109 undef, t.getD 110 undef, t.getD 111 undef, t.getD 112 undef, t.getD 113 undef, t.getD 114 undef, t.getD 115 undef, t.getD 116 undef, t.getD 117 undef, t.getD 118 undef, t.getD 119 undef, t.getD 120 undef, t.getD 121 undef, t.getD 122 undef, t.getD 123 undef, t.getD 124 undef, t.getD 125 undef, t.getD 126 undef, t.getD 127 undef, t.getD 128 undef, t.getD 129 undef, t.getD 130 undef, t.getD 131 undef, t.getD 132 undef, t.getD 133 undef, t.getD 134 undef, t.getD 135 undef, t.getD 136 undef, t.getD 137 undef, t.getD 138 undef, t.getD 139 undef, t.getD 140 undef, t.getD 141 undef, t.getD 142 undef, t.getD 143 undef, t.getD 144 undef, t.getD 145 undef, t.getD 146 undef, t.getD 147 undef, t.getD 148 undef] : Array Value) = _
          rw [e0, e1, e3, e4, e5, e6, e7, e10, e11, e12, e13, e84, e85, e86]⟩
        clear hsz e0 e1 e3 e4 e5 e6 e7 e10 e11 e12 e13 e84 e85 e86
        by_cases hlt : j < 32
        · have g1 : decide ((j : Int) < 32) = true := decide_eq_true (by omega)
          have g1' : (j : Int) < 32 := by omega
          have hrng := tab_rangeL hcell.out hMj.out.j.rg j hlt
          obtain ⟨C, hC⟩ : ∃ C, C = (ctR j).cells (γ.2.getD j (none, 0)) := ⟨_, rfl⟩
          obtain ⟨T, hT⟩ : ∃ T, T = (ctR j).name := ⟨_, rfl⟩
          have hC6 : C.size = 6 := by rw [hC]; rfl
          have hCo : C.all (·.oneCell') = true := by rw [hC]; exact ctCells_one _ _
          have hC0 : C[0]? = some (.string T) := by rw [hC, hT]; rfl
          rw [← hC] at hrng
          have hC3 := hid hC
          replace hrng := hid hrng
          replace hC6 := hid hC6
          replace hCo := hid hCo
          clear hC
          by_cases hd : (T.toList == s.toList) = true
          · have hTs : (ctR j).name = s := by rw [← hT]; rw [toList_beqB] at hd; exact of_decide_eq_true hd
            obtain ⟨i, p, hi, hin, hfA, hst⟩ : ∃ i p, i < 32 ∧ (ctR i).name = s ∧ fA = (ctR i).cells p ∧ IsStrs W p.1 (ctR i).texts.length (ctR i).texts := by
              rcases hMj.out.fd with ⟨_, h⟩ | ⟨_, h⟩
              · exact h
              · exact absurd hTs (h j hlt)
            obtain rfl : j = i := names_unlikeL hlt hi (hTs.trans hin.symm)
            have hisb := hid (isB_yes hTs)
            have hstv := (hMj.out.j.v j hlt).1
            have LS : ∀ Y, Below W.heap.size W Y → Calls Tryz.prog 32 #[.agg fA, .agg C] Y fun e w' => e = .returned (.bool true) ∧ Below Y.heap.size Y w' := fun Y hB => by
              rw [hfA, hC3.out]
              exact ctSame_any j hlt _ _ Y (hst.below hB) (hstv.below hB)
            have hf6' : fA.size = 6 := by rw [hfA]; rfl
            replace LS := hid LS
            replace hT := hid hT
            replace hfA := hid hfA
            clear hst hstv hin hTs
            gi_wp2_with (first
            | (with_reducible refine at_opIn (some 89) (.load 61 (.tmp 88)) ?_
               refine wpListIn_load_mid (o := ⟨some 89, .load _ (.tmp 88), _, _, _, _⟩) rfl 61 (.tmp 88) rfl g (j * 6) rfl C.toList _ hrng.out Tryz.underlying61 rfl (by rw [Array.length_toList, hC6.out]; exact infoRow) ?_)
            | (with_reducible refine at_opIn none (.store 61 (.tmp 15) (.tmp 89)) ?_
               refine wpListIn_store_row (o := ⟨none, .store _ (.tmp 15) (.tmp 89), _, _, _, _⟩) rfl 61 (.tmp 15) (.tmp 89) rfl W.heap.size C rfl (by rfl) 61 _ (RowAt.new W _ _) (by rw [hC6.out]; exact infoRow) (by rw [hC6.out]; rfl) hCo.out ?_
               generalize hYd : World.setRow _ _ _ = Y7
               have hB7 : Below W.heap.size W Y7 := by rw [← hYd]; exact below_setRow (below_al (Below.refl _ _) _) (Nat.le_refl _) _
               have hM7 := hMj.out.below hB7 h05 hbw (by omega) (by omega) (by omega) (by omega) (by omega)
               have hs7 := hB7.size
               have r7 : RowAt Y7 W.heap.size 61 C := by rw [← hYd]; exact (RowAt.new W _ _).setRow _
               have cT : Y7.cell? ⟨W.heap.size, 0, none⟩ = some (.string T) := r7.cell hC0
               replace r7 := hid r7
               replace hM7 := hid hM7
               have hB7' := hid hB7
               clear hYd hB7)
            | (with_reducible refine at_opIn (some 94) (.load 58 (.tmp 11)) ?_
               refine wpListIn_load_mid (o := ⟨some 94, .load _ (.tmp 11), _, _, _, _⟩) rfl 58 (.tmp 11) rfl bf 0 rfl fA.toList _ (fun k v hk => by rw [Nat.zero_add]; exact hM7.out.rf.cell (by rw [Array.getElem?_toList] at hk; exact hk)) Tryz.underlying58 rfl (by rw [Array.length_toList, hf6']; exact infoField) ?_)
            | (with_reducible refine at_opIn (some 95) (.load 61 (.tmp 15)) ?_
               refine wpListIn_load_mid (o := ⟨some 95, .load _ (.tmp 15), _, _, _, _⟩) rfl 61 (.tmp 15) rfl W.heap.size 0 rfl C.toList _ (fun k v hk => by rw [Nat.zero_add]; exact r7.out.cell (by rw [Array.getElem?_toList] at hk; exact hk)) Tryz.underlying61 rfl (by rw [Array.length_toList, hC6.out]; exact infoRow) ?_)
            | (refine ⟨trivial, rfl, ?_⟩; gi_at_call 32; refine (callsIn_wide.2 (LS.out _ hB7'.out)).mono ?_; rintro e w8 ⟨rfl, hB8⟩
               have hM8 := hid (hM7.out.below hB8 h05 hbw (by omega) (by omega) (by omega) (by omega) (by omega))
               have hs8 := hB8.size
               clear hB8))
            refine ⟨by unfold TbL; exact ⟨j + 1, rfl, rfl, rfl, rfl, rfl, rfl, rfl, rfl, rfl, rfl, rfl, (congrArg Value.bool hisb.out.symm), rfl, rfl, rfl, rfl, by omega, hM8, by omega⟩, ?_⟩
            simp [intOf]
            omega
          · have hd' : (T.toList == s.toList) = false := by simpa using hd
            have hisb := hid (isB_no (s := s) (j := j) (by rw [← hT]; rw [toList_beqB] at hd'; exact of_decide_eq_false hd'))
            replace hT := hid hT
            clear hd
            gi_wp2_with (first
            | (with_reducible refine at_opIn (some 89) (.load 61 (.tmp 88)) ?_
               refine wpListIn_load_mid (o := ⟨some 89, .load _ (.tmp 88), _, _, _, _⟩) rfl 61 (.tmp 88) rfl g (j * 6) rfl C.toList _ hrng.out Tryz.underlying61 rfl (by rw [Array.length_toList, hC6.out]; exact infoRow) ?_)
            | (with_reducible refine at_opIn none (.store 61 (.tmp 15) (.tmp 89)) ?_
               refine wpListIn_store_row (o := ⟨none, .store _ (.tmp 15) (.tmp 89), _, _, _, _⟩) rfl 61 (.tmp 15) (.tmp 89) rfl W.heap.size C rfl (by rfl) 61 _ (RowAt.new W _ _) (by rw [hC6.out]; exact infoRow) (by rw [hC6.out]; rfl) hCo.out ?_
               generalize hYd : World.setRow _ _ _ = Y7
               have hB7 : Below W.heap.size W Y7 := by rw [← hYd]; exact below_setRow (below_al (Below.refl _ _) _) (Nat.le_refl _) _
               have hM7 := hMj.out.below hB7 h05 hbw (by omega) (by omega) (by omega) (by omega) (by omega)
               have hs7 := hB7.size
               have r7 : RowAt Y7 W.heap.size 61 C := by rw [← hYd]; exact (RowAt.new W _ _).setRow _
               have cT : Y7.cell? ⟨W.heap.size, 0, none⟩ = some (.string T) := r7.cell hC0
               replace r7 := hid r7
               replace hM7 := hid hM7
               clear hYd hB7))
            refine ⟨by unfold TbL; exact ⟨j + 1, rfl, rfl, rfl, rfl, rfl, rfl, rfl, rfl, rfl, rfl, rfl, (congrArg Value.bool hisb.out.symm), rfl, rfl, rfl, rfl, by omega, hM7, by omega⟩, ?_⟩
            simp [intOf]
            omega
        · obtain rfl : j = 32 := by omega
          have g1 : decide (((32 : Nat) : Int) < 32) = false := by decide
          have hok := isB_ok hMj.out
          rw [hok]
          have LMs := hid (fun w => messages_any w)
          obtain ⟨M, hMe⟩ : ∃ M, M = msgA := ⟨_, rfl⟩
          have hM1 : M.size = 10 := by rw [hMe]; rfl
          have hM2 : M.all (·.oneCell') = true := by rw [hMe]; simp [msgA, msgL, Value.oneCell']
          have hM3 := hid hMe
          rw [← hMe] at LMs
          replace hM1 := hid hM1
          replace hM2 := hid hM2
          replace hok := hid hok
          clear hMe
          gi_wp2_with (first
            | (refine ⟨trivial, rfl, ?_⟩; gi_at_call 35; refine (callsIn_wide.2 (LMs.out _)).mono ?_; rintro e w8 ⟨rfl, hB8⟩
               have hM8 := hid (hMj.out.below hB8 h05 hbw (by omega) (by omega) (by omega) (by omega) (by omega))
               have hs8 := hB8.size
               clear hB8)
            | (with_reducible refine at_opIn none (.store 65 (.tmp 16) (.tmp 98)) ?_
               refine wpListIn_store_row (o := ⟨none, .store _ (.tmp 16) (.tmp 98), _, _, _, _⟩) rfl 65 (.tmp 16) (.tmp 98) rfl w8.heap.size M rfl (by rfl) 65 _ (RowAt.new w8 _ _) (by rw [hM1.out]; exact infoMsg) (by rw [hM1.out]; rfl) hM2.out ?_
               generalize hYd : World.setRow _ _ _ = Y9
               have hB9 : Below w8.heap.size w8 Y9 := by rw [← hYd]; exact below_setRow (below_al (Below.refl _ _) _) (Nat.le_refl _) _
               have hM9 := hid (hM8.out.below hB9 h05 hbw (by omega) (by omega) (by omega) (by omega) (by omega))
               have r9 : RowAt Y9 w8.heap.size 65 M := by rw [← hYd]; exact (RowAt.new w8 _ _).setRow _
               have hs9 := hB9.size
               replace r9 := hid r9
               clear hYd hB9))
          obtain ⟨bz, hbz⟩ : ∃ b, b = w8.heap.size := ⟨_, rfl⟩
          rw [← hbz] at r9 hs9 hs8 ⊢
          replace hbz := hid hbz
          obtain ⟨sa, sc, hsa, hss, _⟩ := hM9.out.j.rs
          have q0 := hid hM9.out.j.r0
          have q5 := hid hM9.out.j.r5
          have q6 := hid hM9.out.j.r6
          have q7 := hid hsa
          have qc := hid hM9.out.j.rc
          have qf := hid hM9.out.rf
          have LCt : Hid (∀ V, Below Y9.heap.size Y9 V → Calls Tryz.prog 33 #[.slice sa 32 sc, .string s] V fun e w' => e = .returned (.bool ok) ∧ V = w') := hid (fun V hB => by
            have := contains_strs sa 32 sc (nmsL 32) s (by omega) V (hss.below hB)
            rw [isB_mem, hok.out] at this
            exact this)
          have LNm := hid (fun V => refNames_any V)
          have LMg := hid (fun V => message_any s V)
          have LNb := hid (fun V => refNumber_any s V)
          have hstM : Hid (IsStrs Y9 (some ⟨bz, 1, none⟩) 9 msgL) := hid (msg_strs (by rw [← hM3.out]; exact r9.out))
          have hM0 : Hid (M[0]? = some (.string ⟨#[]⟩)) := hid (by rw [hM3.out]; rfl)
          have hmn : ∀ ts t w, (Builtin.min_ ts t #[.int .i64 32, .int .i64 ((st : Int) + 1)]).run Tryz.prog w = .ok (.int .i64 (ct : Nat)) w := fun ts t w => by
            rw [run_mn2]
            have : min (32 : Int) ((st : Int) + 1) = (ct : Int) := by have := hcm.out; omega
            rw [this]
          have hw1 : IntKind.i64.wrap ((st : Int) + 1) = (st : Int) + 1 := by rw [IntKind.wrap_i64]; omega
          have hw0 : IntKind.i64.wrap (st : Int) = (st : Int) := by rw [IntKind.wrap_i64]; omega
          have below_al0 : ∀ V : World, Below V.heap.size V V := fun V => Below.refl _ _
          clear hss
          simp only [Act.put]
          cases ok with
          | true =>
            refine wpIn_region_eachS 50 149 (phiOf [QV (.int .i64 32), QV (.slice (some ⟨g, 0, none⟩) 32 32), QV (.int .i64 32), QV (.bool true), QV (.bool true), QV (.int .i64 (ct : Nat)), QV (.int .i64 32), QV (.int .u8 (st : Nat)), QV (.int .i64 (st : Nat)), QV (.int .i64 ((st : Int) + 1)), QV (.int .i64 (ct : Nat)), QV (.bool true), QV (.bool true), QV (.bool true), QV (.bool true), QV (.slice sa 32 sc), QV (.string s), QV (.bool true), QV (.bool true), QV (.bool true), QV (.bool true), QV (.bool true), QV (.bool true), QV (.bool true), QV (.bool true), QV (.bool true), QV (.bool true), QV (.bool true), fun _ _ => True, fun _ _ => True, fun _ _ => True, QV (.bool true), QV (.bool true), QV (.bool true), QV (.slice (some ⟨bz, 1, none⟩) 9 9), SVs 9 msgL, QV (.bool true), QV (.bool true), QV (.bool true), QV (.pointer (some ⟨bz, 0, none⟩)), QV (.string ⟨#[]⟩), QV (.bool true), QV (.bool true), QV (.bool true), QV (.string s), QV (.int .i64 (msgN s : Nat)), QV (.string s), QV (.int .i64 (msgN s : Nat)), QV (.bool true), QV (.bool true)]) (by kernel_rfl) (by kernel_rfl) (by kernel_rfl) (by kernel_rfl) (by kernel_rfl) rfl (phi_stays ?c30_st) ?c30_g ?c30_op ?c30_fin
            case c30_st => simp only [List.forall_mem_cons]; exact ⟨stays_qv _, stays_qv _, stays_qv _, stays_qv _, stays_qv _, stays_qv _, stays_qv _, stays_qv _, stays_qv _, stays_qv _, stays_qv _, stays_qv _, stays_qv _, stays_qv _, stays_qv _, stays_qv _, stays_qv _, stays_qv _, stays_qv _, stays_qv _, stays_qv _, stays_qv _, stays_qv _, stays_qv _, stays_qv _, stays_qv _, stays_qv _, stays_qv _, stays_true, stays_true, stays_true, stays_qv _, stays_qv _, stays_qv _, stays_qv _, stays_svs _ _, stays_qv _, stays_qv _, stays_qv _, stays_qv _, stays_qv _, stays_qv _, stays_qv _, stays_qv _, stays_qv _, stays_qv _, stays_qv _, stays_qv _, stays_qv _, stays_qv _, fun _ h => by cases h⟩
            case c30_g =>
              change ∀ p ∈ ([(4, true), (13, true), (20, true), (25, true), (27, false), (33, true), (38, true), (43, true)] : List (Nat × Bool)), _
              intro p hp
              simp only [List.mem_cons, List.not_mem_nil, or_false] at hp
              rcases hp with rfl | rfl | rfl | rfl | rfl | rfl | rfl | rfl <;> (intro v W h; first | exact .inl h | exact .inr ⟨h, by intro i o hi ho hgd v2 W2; rcases i with _ | _ | _ | _ | _ | _ | _ | _ | _ | _ | _ | _ | _ | _ | _ | _ | _ | _ | _ | _ | _ | _ | _ | _ | _ | _ | _ | _ | _ | _ | _ | _ | _ | _ | _ | _ | _ | _ | _ | _ | _ | _ | _ | _ | _ | _ | _ | _ | _ | _ | i; all_goals first | exact trivial | (cases ho; cases hgd) | omega⟩)
            case c30_op =>
              simp only [List.take_succ_cons, List.take_zero]
              refine ⟨fun a V hB hold hdep hgv => ?_, ?_⟩
              · have h6 : a.tmps.getD 6 undef = .pointer (some ⟨b5 + 1, 0, none⟩) := (hold 6 (by kernel_rfl)).trans rfl
                have hc : V.cell? ⟨b5 + 1, 0, none⟩ = some (.int .i64 32) := (q6.out.below hB q6.out.lt).cell rfl
                unfold OpOk
                simp [execOp, go_sem, eval_tmp, eval_const, eval_func, h6, hc]
                exact ⟨Below.refl _ _, rfl⟩
              refine ⟨fun a V hB hold hdep hgv => ?_, ?_⟩
              · have h5 : a.tmps.getD 5 undef = .pointer (some ⟨b5, 0, none⟩) := (hold 5 (by kernel_rfl)).trans rfl
                have hc : V.cell? ⟨b5, 0, none⟩ = some (.slice (some ⟨g, 0, none⟩) 32 32) := (q5.out.below hB q5.out.lt).cell rfl
                unfold OpOk
                simp [execOp, go_sem, eval_tmp, eval_const, eval_func, h5, hc]
                exact ⟨Below.refl _ _, rfl⟩
              refine ⟨fun a V hB hold hdep hgv => ?_, ?_⟩
              · have h100 : a.tmps.getD 100 undef = .slice (some ⟨g, 0, none⟩) 32 32 := hdep 1 100 (by kernel_rfl) rfl
                unfold OpOk
                simp [execOp, go_sem, eval_tmp, eval_const, eval_func, h100]
                exact ⟨Below.refl _ _, rfl⟩
              refine ⟨fun a V hB hold hdep hgv => ?_, ?_⟩
              · have h99 : a.tmps.getD 99 undef = .int .i64 32 := hdep 0 99 (by kernel_rfl) rfl
                have h101 : a.tmps.getD 101 undef = .int .i64 32 := hdep 2 101 (by kernel_rfl) rfl
                unfold OpOk
                simp [execOp, go_sem, eval_tmp, eval_const, eval_func, h99, h101]
                exact ⟨Below.refl _ _, rfl⟩
              refine ⟨fun a V hB hold hdep hgv => ?_, ?_⟩
              · have h102 : a.tmps.getD 102 undef = .bool true := hdep 3 102 (by kernel_rfl) rfl
                unfold OpOk
                simp [execOp, go_sem, eval_tmp, eval_const, eval_func, h102]
                exact ⟨Below.refl _ _, rfl⟩
              refine ⟨fun a V hB hold hdep hgv => ?_, ?_⟩
              · have h10 : a.tmps.getD 10 undef = .pointer (some ⟨bc, 0, none⟩) := (hold 10 (by kernel_rfl)).trans rfl
                have hc : V.cell? ⟨bc, 0, none⟩ = some (.int .i64 (ct : Nat)) := (qc.out.below hB qc.out.lt).cell rfl
                unfold OpOk
                simp [execOp, go_sem, eval_tmp, eval_const, eval_func, h10, hc]
                exact ⟨Below.refl _ _, rfl⟩
              refine ⟨fun a V hB hold hdep hgv => ?_, ?_⟩
              · have h6 : a.tmps.getD 6 undef = .pointer (some ⟨b5 + 1, 0, none⟩) := (hold 6 (by kernel_rfl)).trans rfl
                have hc : V.cell? ⟨b5 + 1, 0, none⟩ = some (.int .i64 32) := (q6.out.below hB q6.out.lt).cell rfl
                unfold OpOk
                simp [execOp, go_sem, eval_tmp, eval_const, eval_func, h6, hc]
                exact ⟨Below.refl _ _, rfl⟩
              refine ⟨fun a V hB hold hdep hgv => ?_, ?_⟩
              · have h3 : a.tmps.getD 3 undef = .pointer (some ⟨b0, 0, none⟩) := (hold 3 (by kernel_rfl)).trans rfl
                have hc : V.cell? ⟨b0, 0, none⟩ = some (.int .u8 (st : Nat)) := (q0.out.below hB q0.out.lt).cell rfl
                unfold OpOk
                simp [execOp, go_sem, eval_tmp, eval_const, eval_func, h3, hc]
                exact ⟨Below.refl _ _, rfl⟩
              refine ⟨fun a V hB hold hdep hgv => ?_, ?_⟩
              · have h106 : a.tmps.getD 106 undef = .int .u8 (st : Nat) := hdep 7 106 (by kernel_rfl) rfl
                unfold OpOk
                simp [execOp, go_sem, eval_tmp, eval_const, eval_func, h106, hw0]
                exact ⟨Below.refl _ _, rfl⟩
              refine ⟨fun a V hB hold hdep hgv => ?_, ?_⟩
              · have h107 : a.tmps.getD 107 undef = .int .i64 (st : Nat) := hdep 8 107 (by kernel_rfl) rfl
                unfold OpOk
                simp [execOp, go_sem, eval_tmp, eval_const, eval_func, h107, hw1]
                exact ⟨Below.refl _ _, rfl⟩
              refine ⟨fun a V hB hold hdep hgv => ?_, ?_⟩
              · have h105 : a.tmps.getD 105 undef = .int .i64 32 := hdep 6 105 (by kernel_rfl) rfl
                have h108 : a.tmps.getD 108 undef = .int .i64 ((st : Int) + 1) := hdep 9 108 (by kernel_rfl) rfl
                unfold OpOk
                simp [execOp, go_sem, eval_tmp, eval_const, eval_func, h105, h108, hmn]
                exact ⟨Below.refl _ _, rfl⟩
              refine ⟨fun a V hB hold hdep hgv => ?_, ?_⟩
              · have h104 : a.tmps.getD 104 undef = .int .i64 (ct : Nat) := hdep 5 104 (by kernel_rfl) rfl
                have h109 : a.tmps.getD 109 undef = .int .i64 (ct : Nat) := hdep 10 109 (by kernel_rfl) rfl
                unfold OpOk
                simp [execOp, go_sem, eval_tmp, eval_const, eval_func, h104, h109]
                exact ⟨Below.refl _ _, rfl⟩
              refine ⟨fun a V hB hold hdep hgv => ?_, ?_⟩
              · have h103 : a.tmps.getD 103 undef = .bool true := hdep 4 103 (by kernel_rfl) rfl
                have h110 : a.tmps.getD 110 undef = .bool true := hdep 11 110 (by kernel_rfl) rfl
                unfold OpOk
                simp [execOp, go_sem, eval_tmp, eval_const, eval_func, h103, h110]
                exact ⟨Below.refl _ _, rfl⟩
              refine ⟨fun a V hB hold hdep hgv => ?_, ?_⟩
              · have h111 : a.tmps.getD 111 undef = .bool true := hdep 12 111 (by kernel_rfl) rfl
                unfold OpOk
                simp [execOp, go_sem, eval_tmp, eval_const, eval_func, h111]
                exact ⟨Below.refl _ _, rfl⟩
              refine ⟨fun a V hB hold hdep hgv => ?_, ?_⟩
              · have h12 : a.tmps.getD 12 undef = .bool true := (hold 12 (by kernel_rfl)).trans rfl
                unfold OpOk
                simp [execOp, go_sem, eval_tmp, eval_const, eval_func, h12]
                exact ⟨Below.refl _ _, rfl⟩
              refine ⟨fun a V hB hold hdep hgv => ?_, ?_⟩
              · have h7 : a.tmps.getD 7 undef = .pointer (some ⟨b5 + 2, 0, none⟩) := (hold 7 (by kernel_rfl)).trans rfl
                have hc : V.cell? ⟨b5 + 2, 0, none⟩ = some (.slice sa 32 sc) := (q7.out.below hB q7.out.lt).cell rfl
                unfold OpOk
                simp [execOp, go_sem, eval_tmp, eval_const, eval_func, h7, hc]
                exact ⟨Below.refl _ _, rfl⟩
              refine ⟨fun a V hB hold hdep hgv => ?_, ?_⟩
              · have h0 : a.tmps.getD 0 undef = .string s := (hold 0 (by kernel_rfl)).trans rfl
                unfold OpOk
                simp [execOp, go_sem, eval_tmp, eval_const, eval_func, h0]
                exact ⟨Below.refl _ _, rfl⟩
              refine ⟨fun a V hB hold hdep hgv => ?_, ?_⟩
              · have h114 : a.tmps.getD 114 undef = .slice sa 32 sc := hdep 15 114 (by kernel_rfl) rfl
                have h115 : a.tmps.getD 115 undef = .string s := hdep 16 115 (by kernel_rfl) rfl
                unfold OpOk
                simp [execOp, go_sem, eval_tmp, eval_const, eval_func, h114, h115]
                (with_reducible refine (LCt.out V hB).mono ?_); rintro e W2 ⟨rfl, rfl⟩; exact ⟨_, rfl, Below.refl _ _, rfl⟩
              refine ⟨fun a V hB hold hdep hgv => ?_, ?_⟩
              · have h113 : a.tmps.getD 113 undef = .bool true := hdep 14 113 (by kernel_rfl) rfl
                have h116 : a.tmps.getD 116 undef = .bool true := hdep 17 116 (by kernel_rfl) rfl
                unfold OpOk
                simp [execOp, go_sem, eval_tmp, eval_const, eval_func, h113, h116]
                exact ⟨Below.refl _ _, rfl⟩
              refine ⟨fun a V hB hold hdep hgv => ?_, ?_⟩
              · have h112 : a.tmps.getD 112 undef = .bool true := hdep 13 112 (by kernel_rfl) rfl
                have h117 : a.tmps.getD 117 undef = .bool true := hdep 18 117 (by kernel_rfl) rfl
                unfold OpOk
                simp [execOp, go_sem, eval_tmp, eval_const, eval_func, h112, h117]
                exact ⟨Below.refl _ _, rfl⟩
              refine ⟨fun a V hB hold hdep hgv => ?_, ?_⟩
              · have h118 : a.tmps.getD 118 undef = .bool true := hdep 19 118 (by kernel_rfl) rfl
                unfold OpOk
                simp [execOp, go_sem, eval_tmp, eval_const, eval_func, h118]
                exact ⟨Below.refl _ _, rfl⟩
              refine ⟨fun a V hB hold hdep hgv => ?_, ?_⟩
              · have h12 : a.tmps.getD 12 undef = .bool true := (hold 12 (by kernel_rfl)).trans rfl
                unfold OpOk
                simp [execOp, go_sem, eval_tmp, eval_const, eval_func, h12]
                exact ⟨Below.refl _ _, rfl⟩
              refine ⟨fun a V hB hold hdep hgv => ?_, ?_⟩
              · have h13 : a.tmps.getD 13 undef = .bool true := (hold 13 (by kernel_rfl)).trans rfl
                unfold OpOk
                simp [execOp, go_sem, eval_tmp, eval_const, eval_func, h13]
                exact ⟨Below.refl _ _, rfl⟩
              refine ⟨fun a V hB hold hdep hgv => ?_, ?_⟩
              · have h120 : a.tmps.getD 120 undef = .bool true := hdep 21 120 (by kernel_rfl) rfl
                have h121 : a.tmps.getD 121 undef = .bool true := hdep 22 121 (by kernel_rfl) rfl
                unfold OpOk
                simp [execOp, go_sem, eval_tmp, eval_const, eval_func, h120, h121]
                exact ⟨Below.refl _ _, rfl⟩
              refine ⟨fun a V hB hold hdep hgv => ?_, ?_⟩
              · have h119 : a.tmps.getD 119 undef = .bool true := hdep 20 119 (by kernel_rfl) rfl
                have h122 : a.tmps.getD 122 undef = .bool true := hdep 23 122 (by kernel_rfl) rfl
                unfold OpOk
                simp [execOp, go_sem, eval_tmp, eval_const, eval_func, h119, h122]
                exact ⟨Below.refl _ _, rfl⟩
              refine ⟨fun a V hB hold hdep hgv => ?_, ?_⟩
              · have h123 : a.tmps.getD 123 undef = .bool true := hdep 24 123 (by kernel_rfl) rfl
                unfold OpOk
                simp [execOp, go_sem, eval_tmp, eval_const, eval_func, h123]
                exact ⟨Below.refl _ _, rfl⟩
              refine ⟨fun a V hB hold hdep hgv => ?_, ?_⟩
              · have h12 : a.tmps.getD 12 undef = .bool true := (hold 12 (by kernel_rfl)).trans rfl
                unfold OpOk
                simp [execOp, go_sem, eval_tmp, eval_const, eval_func, h12]
                exact ⟨Below.refl _ _, rfl⟩
              refine ⟨fun a V hB hold hdep hgv => ?_, ?_⟩
              · have h125 : a.tmps.getD 125 undef = .bool true := hdep 26 125 (by kernel_rfl) rfl
                unfold OpOk
                simp [execOp, go_sem, eval_tmp, eval_const, eval_func, h125]
                exact ⟨Below.refl _ _, rfl⟩
              refine ⟨fun a V hB hold hdep hgv => ?_, ?_⟩
              · have h11 : a.tmps.getD 11 undef = .pointer (some ⟨bf, 0, none⟩) := (hold 11 (by kernel_rfl)).trans rfl
                have hx := hgv 27 false rfl 126 rfl
                have h126 : a.tmps.getD 126 undef = .bool true := hdep 27 126 (by kernel_rfl) rfl
                rw [h126] at hx
                cases hx
              refine ⟨fun a V hB hold hdep hgv => ?_, ?_⟩
              · obtain h127 := hdep 28 127 (by kernel_rfl) rfl
                have hx := hgv 27 false rfl 126 rfl
                have h126 : a.tmps.getD 126 undef = .bool true := hdep 27 126 (by kernel_rfl) rfl
                rw [h126] at hx
                cases hx
              refine ⟨fun a V hB hold hdep hgv => ?_, ?_⟩
              · obtain h128 := hdep 29 128 (by kernel_rfl) rfl
                have hx := hgv 27 false rfl 126 rfl
                have h126 : a.tmps.getD 126 undef = .bool true := hdep 27 126 (by kernel_rfl) rfl
                rw [h126] at hx
                cases hx
              refine ⟨fun a V hB hold hdep hgv => ?_, ?_⟩
              · have h126 : a.tmps.getD 126 undef = .bool true := hdep 27 126 (by kernel_rfl) rfl
                obtain h129 := hdep 30 129 (by kernel_rfl) rfl
                unfold OpOk
                simp [execOp, go_sem, eval_tmp, eval_const, eval_func, h126, h129]
                exact ⟨Below.refl _ _, rfl⟩
              refine ⟨fun a V hB hold hdep hgv => ?_, ?_⟩
              · have h124 : a.tmps.getD 124 undef = .bool true := hdep 25 124 (by kernel_rfl) rfl
                have h130 : a.tmps.getD 130 undef = .bool true := hdep 31 130 (by kernel_rfl) rfl
                unfold OpOk
                simp [execOp, go_sem, eval_tmp, eval_const, eval_func, h124, h130]
                exact ⟨Below.refl _ _, rfl⟩
              refine ⟨fun a V hB hold hdep hgv => ?_, ?_⟩
              · have h131 : a.tmps.getD 131 undef = .bool true := hdep 32 131 (by kernel_rfl) rfl
                unfold OpOk
                simp [execOp, go_sem, eval_tmp, eval_const, eval_func, h131]
                exact ⟨Below.refl _ _, rfl⟩
              refine ⟨fun a V hB hold hdep hgv => ?_, ?_⟩
              · have h16 : a.tmps.getD 16 undef = .pointer (some ⟨bz, 0, none⟩) := (hold 16 (by kernel_rfl)).trans rfl
                unfold OpOk
                simp [execOp, go_sem, eval_tmp, eval_const, eval_func, h16]
                exact ⟨Below.refl _ _, rfl⟩
              refine ⟨fun a V hB hold hdep hgv => ?_, ?_⟩
              · unfold OpOk
                simp [execOp, go_sem, eval_tmp, eval_const, eval_func]
                (with_reducible refine (LNm.out V).mono ?_); rintro e W2 ⟨a', c', rfl, hi', hb⟩; exact ⟨_, rfl, hb, ⟨a', c', rfl, hi'⟩⟩
              refine ⟨fun a V hB hold hdep hgv => ?_, ?_⟩
              · have h133 : a.tmps.getD 133 undef = .slice (some ⟨bz, 1, none⟩) 9 9 := hdep 34 133 (by kernel_rfl) rfl
                obtain ⟨na, nc, h134, hni⟩ := hdep 35 134 (by kernel_rfl) rfl
                unfold OpOk
                simp [execOp, go_sem, eval_tmp, eval_const, eval_func, h133, h134]
                (with_reducible refine (equal_strs (some ⟨bz, 1, none⟩) na 9 9 nc msgL (by omega) V (hstM.out.below hB) hni).mono ?_); rintro e W2 ⟨rfl, hb⟩; exact ⟨_, rfl, hb, rfl⟩
              refine ⟨fun a V hB hold hdep hgv => ?_, ?_⟩
              · have h132 : a.tmps.getD 132 undef = .bool true := hdep 33 132 (by kernel_rfl) rfl
                have h135 : a.tmps.getD 135 undef = .bool true := hdep 36 135 (by kernel_rfl) rfl
                unfold OpOk
                simp [execOp, go_sem, eval_tmp, eval_const, eval_func, h132, h135]
                exact ⟨Below.refl _ _, rfl⟩
              refine ⟨fun a V hB hold hdep hgv => ?_, ?_⟩
              · have h136 : a.tmps.getD 136 undef = .bool true := hdep 37 136 (by kernel_rfl) rfl
                unfold OpOk
                simp [execOp, go_sem, eval_tmp, eval_const, eval_func, h136]
                exact ⟨Below.refl _ _, rfl⟩
              refine ⟨fun a V hB hold hdep hgv => ?_, ?_⟩
              · have h16 : a.tmps.getD 16 undef = .pointer (some ⟨bz, 0, none⟩) := (hold 16 (by kernel_rfl)).trans rfl
                unfold OpOk
                simp [execOp, go_sem, eval_tmp, eval_const, eval_func, h16]
                exact ⟨Below.refl _ _, rfl⟩
              refine ⟨fun a V hB hold hdep hgv => ?_, ?_⟩
              · have h138 : a.tmps.getD 138 undef = .pointer (some ⟨bz, 0, none⟩) := hdep 39 138 (by kernel_rfl) rfl
                have hc : V.cell? ⟨bz, 0, none⟩ = some (.string ⟨#[]⟩) := (r9.out.below hB r9.out.lt).cell hM0.out
                unfold OpOk
                simp [execOp, go_sem, eval_tmp, eval_const, eval_func, h138, hc]
                exact ⟨Below.refl _ _, rfl⟩
              refine ⟨fun a V hB hold hdep hgv => ?_, ?_⟩
              · have h139 : a.tmps.getD 139 undef = .string ⟨#[]⟩ := hdep 40 139 (by kernel_rfl) rfl
                unfold OpOk
                simp [execOp, go_sem, eval_tmp, eval_const, eval_func, h139]
                exact ⟨Below.refl _ _, rfl⟩
              refine ⟨fun a V hB hold hdep hgv => ?_, ?_⟩
              · have h137 : a.tmps.getD 137 undef = .bool true := hdep 38 137 (by kernel_rfl) rfl
                have h140 : a.tmps.getD 140 undef = .bool true := hdep 41 140 (by kernel_rfl) rfl
                unfold OpOk
                simp [execOp, go_sem, eval_tmp, eval_const, eval_func, h137, h140]
                exact ⟨Below.refl _ _, rfl⟩
              refine ⟨fun a V hB hold hdep hgv => ?_, ?_⟩
              · have h141 : a.tmps.getD 141 undef = .bool true := hdep 42 141 (by kernel_rfl) rfl
                unfold OpOk
                simp [execOp, go_sem, eval_tmp, eval_const, eval_func, h141]
                exact ⟨Below.refl _ _, rfl⟩
              refine ⟨fun a V hB hold hdep hgv => ?_, ?_⟩
              · have h0 : a.tmps.getD 0 undef = .string s := (hold 0 (by kernel_rfl)).trans rfl
                unfold OpOk
                simp [execOp, go_sem, eval_tmp, eval_const, eval_func, h0]
                exact ⟨Below.refl _ _, rfl⟩
              refine ⟨fun a V hB hold hdep hgv => ?_, ?_⟩
              · have h143 : a.tmps.getD 143 undef = .string s := hdep 44 143 (by kernel_rfl) rfl
                unfold OpOk
                simp [execOp, go_sem, eval_tmp, eval_const, eval_func, h143]
                (with_reducible refine (LMg.out V).mono ?_); rintro e W2 ⟨rfl, hb⟩; exact ⟨_, rfl, hb, rfl⟩
              refine ⟨fun a V hB hold hdep hgv => ?_, ?_⟩
              · have h0 : a.tmps.getD 0 undef = .string s := (hold 0 (by kernel_rfl)).trans rfl
                unfold OpOk
                simp [execOp, go_sem, eval_tmp, eval_const, eval_func, h0]
                exact ⟨Below.refl _ _, rfl⟩
              refine ⟨fun a V hB hold hdep hgv => ?_, ?_⟩
              · have h145 : a.tmps.getD 145 undef = .string s := hdep 46 145 (by kernel_rfl) rfl
                unfold OpOk
                simp [execOp, go_sem, eval_tmp, eval_const, eval_func, h145]
                (with_reducible refine (LNb.out V).mono ?_); rintro e W2 ⟨rfl, hb⟩; exact ⟨_, rfl, hb, rfl⟩
              refine ⟨fun a V hB hold hdep hgv => ?_, ?_⟩
              · have h144 : a.tmps.getD 144 undef = .int .i64 (msgN s : Nat) := hdep 45 144 (by kernel_rfl) rfl
                have h146 : a.tmps.getD 146 undef = .int .i64 (msgN s : Nat) := hdep 47 146 (by kernel_rfl) rfl
                unfold OpOk
                simp [execOp, go_sem, eval_tmp, eval_const, eval_func, h144, h146]
                exact ⟨Below.refl _ _, rfl⟩
              refine ⟨fun a V hB hold hdep hgv => ?_, ?_⟩
              · have h142 : a.tmps.getD 142 undef = .bool true := hdep 43 142 (by kernel_rfl) rfl
                have h147 : a.tmps.getD 147 undef = .bool true := hdep 48 147 (by kernel_rfl) rfl
                unfold OpOk
                simp [execOp, go_sem, eval_tmp, eval_const, eval_func, h142, h147]
                exact ⟨Below.refl _ _, rfl⟩
              trivial
            case c30_fin =>
              intro X V hB hX
              have e99 : X 99 = .int .i64 32 := hX 0 99 (by decide) rfl
              have e100 : X 100 = .slice (some ⟨g, 0, none⟩) 32 32 := hX 1 100 (by decide) rfl
              have e101 : X 101 = .int .i64 32 := hX 2 101 (by decide) rfl
              have e102 : X 102 = .bool true := hX 3 102 (by decide) rfl
              have e103 : X 103 = .bool true := hX 4 103 (by decide) rfl
              have e104 : X 104 = .int .i64 (ct : Nat) := hX 5 104 (by decide) rfl
              have e105 : X 105 = .int .i64 32 := hX 6 105 (by decide) rfl
              have e106 : X 106 = .int .u8 (st : Nat) := hX 7 106 (by decide) rfl
              have e107 : X 107 = .int .i64 (st : Nat) := hX 8 107 (by decide) rfl
              have e108 : X 108 = .int .i64 ((st : Int) + 1) := hX 9 108 (by decide) rfl
              have e109 : X 109 = .int .i64 (ct : Nat) := hX 10 109 (by decide) rfl
              have e110 : X 110 = .bool true := hX 11 110 (by decide) rfl
              have e111 : X 111 = .bool true := hX 12 111 (by decide) rfl
              have e112 : X 112 = .bool true := hX 13 112 (by decide) rfl
              have e113 : X 113 = .bool true := hX 14 113 (by decide) rfl
              have e114 : X 114 = .slice sa 32 sc := hX 15 114 (by decide) rfl
              have e115 : X 115 = .string s := hX 16 115 (by decide) rfl
              have e116 : X 116 = .bool true := hX 17 116 (by decide) rfl
              have e117 : X 117 = .bool true := hX 18 117 (by decide) rfl
              have e118 : X 118 = .bool true := hX 19 118 (by decide) rfl
              have e119 : X 119 = .bool true := hX 20 119 (by decide) rfl
              have e120 : X 120 = .bool true := hX 21 120 (by decide) rfl
              have e121 : X 121 = .bool true := hX 22 121 (by decide) rfl
              have e122 : X 122 = .bool true := hX 23 122 (by decide) rfl
              have e123 : X 123 = .bool true := hX 24 123 (by decide) rfl
              have e124 : X 124 = .bool true := hX 25 124 (by decide) rfl
              have e125 : X 125 = .bool true := hX 26 125 (by decide) rfl
              have e126 : X 126 = .bool true := hX 27 126 (by decide) rfl
              obtain e127 := hX 28 127 (by decide) rfl
              obtain e128 := hX 29 128 (by decide) rfl
              obtain e129 := hX 30 129 (by decide) rfl
              have e130 : X 130 = .bool true := hX 31 130 (by decide) rfl
              have e131 : X 131 = .bool true := hX 32 131 (by decide) rfl
              have e132 : X 132 = .bool true := hX 33 132 (by decide) rfl
              have e133 : X 133 = .slice (some ⟨bz, 1, none⟩) 9 9 := hX 34 133 (by decide) rfl
              obtain ⟨na, nc, e134, hni⟩ := hX 35 134 (by decide) rfl
              have e135 : X 135 = .bool true := hX 36 135 (by decide) rfl
              have e136 : X 136 = .bool true := hX 37 136 (by decide) rfl
              have e137 : X 137 = .bool true := hX 38 137 (by decide) rfl
              have e138 : X 138 = .pointer (some ⟨bz, 0, none⟩) := hX 39 138 (by decide) rfl
              have e139 : X 139 = .string ⟨#[]⟩ := hX 40 139 (by decide) rfl
              have e140 : X 140 = .bool true := hX 41 140 (by decide) rfl
              have e141 : X 141 = .bool true := hX 42 141 (by decide) rfl
              have e142 : X 142 = .bool true := hX 43 142 (by decide) rfl
              have e143 : X 143 = .string s := hX 44 143 (by decide) rfl
              have e144 : X 144 = .int .i64 (msgN s : Nat) := hX 45 144 (by decide) rfl
              have e145 : X 145 = .string s := hX 46 145 (by decide) rfl
              have e146 : X 146 = .int .i64 (msgN s : Nat) := hX 47 146 (by decide) rfl
              have e147 : X 147 = .bool true := hX 48 147 (by decide) rfl
              have e148 : X 148 = .bool true := hX 49 148 (by decide) rfl
              clear hX
              change wpList Tryz.prog _ _ _ { tmps := putAll [(99, X 99), (100, X 100), (101, X 101), (102, X 102), (103, X 103), (104, X 104), (105, X 105), (106, X 106), (107, X 107), (108, X 108), (109, X 109), (110, X 110), (111, X 111), (112, X 112), (113, X 113), (114, X 114), (115, X 115), (116, X 116), (117, X 117), (118, X 118), (119, X 119), (120, X 120), (121, X 121), (122, X 122), (123, X 123), (124, X 124), (125, X 125), (126, X 126), (127, X 127), (128, X 128), (129, X 129), (130, X 130), (131, X 131), (132, X 132), (133, X 133), (134, X 134), (135, X 135), (136, X 136), (137, X 137), (138, X 138), (139, X 139), (140, X 140), (141, X 141), (142, X 142), (143, X 143), (144, X 144), (145, X 145), (146, X 146), (147, X 147), (148, X 148)] _, defers := _ } V
              simp only [Act.put, putAll, List.foldl_cons, List.foldl_nil, List.setIfInBounds_toArray, List.set_cons_zero, List.set_cons_succ, List.drop_succ_cons, List.drop_zero, e99, e100, e101, e102, e103, e104, e105, e106, e107, e108, e109, e110, e111, e112, e113, e114, e115, e116, e117, e118, e119, e120, e121, e122, e123, e124, e125, e126, e127, e128, e129, e130, e131, e132, e133, e134, e135, e136, e137, e138, e139, e140, e141, e142, e143, e144, e145, e146, e147, e148]
              clear e99 e100 e101 e102 e103 e104 e105 e106 e107 e108 e109 e110 e111 e112 e113 e114 e115 e116 e117 e118 e119 e120 e121 e122 e123 e124 e125 e126 e127 e128 e129 e130 e131 e132 e133 e134 e135 e136 e137 e138 e139 e140 e141 e142 e143 e144 e145 e146 e147 e148
              have hM10 := hM9.out.below hB h05 hbw (by omega) (by omega) (by omega) (by omega) (by omega)
              have r4v := hM10.j.r4
              have c4 : V.cell? ⟨b0 + 1, 0, none⟩ = some (.bool false) := r4v.cell rfl
              have f4 := r4v.free 0
              have r40 := hid ((r4v.set 0 (.bool true)).eqA (A' := #[.bool true]) (by simp))
              have bel9 := hid (hM10.j.bel.setCell (p := ⟨b0 + 1, 0, none⟩) (by show b0 ≤ b0 + 1; omega) (.bool true))
              have d19 := hid (defer_cell hM10.j.df ⟨b0 + 1, 0, none⟩ (.bool true) (by show W0.heap.size ≠ b0 + 1; omega))
              have d29 := hid (defer_cell hM10.d2 ⟨b0 + 1, 0, none⟩ (.bool true) (by show X1.heap.size ≠ b0 + 1; omega))
              clear hM10 r4v
              go_wp2
              generalize V.setCell ⟨b0 + 1, 0, none⟩ (.bool true) = Z at r40 bel9 d19 d29 ⊢
              gi_wp2
              refine leave_many [X1.heap.size, W0.heap.size] Z (fun d hd => ?_) (by simp; omega) fun Z' hk => ⟨_, results_cell1 rfl _ _ (b0 + 1) _ rfl ((hk.row r40.out (fun h => ?_)).cell (j := 0) rfl) Tryz.underlying4, rfl, ?_⟩
              · simp only [List.mem_cons, List.not_mem_nil, or_false] at hd
                rcases hd with rfl | rfl
                · exact d29.out
                · exact d19.out
              · simp only [List.mem_cons, List.not_mem_nil, or_false] at h
                omega
              · rw [← hb0.out]
                exact below_kept bel9.out hk hbw (fun d hd => by simp only [List.mem_cons, List.not_mem_nil, or_false] at hd; omega)
          | false =>
            have hf00 : Hid (fA[0]? = some (.string ⟨#[]⟩)) := hid (by rw [← hfn.out rfl]; exact hf0.out)
            refine wpIn_region_eachS 50 149 (phiOf [QV (.int .i64 32), QV (.slice (some ⟨g, 0, none⟩) 32 32), QV (.int .i64 32), QV (.bool true), QV (.bool true), QV (.int .i64 (ct : Nat)), QV (.int .i64 32), QV (.int .u8 (st : Nat)), QV (.int .i64 (st : Nat)), QV (.int .i64 ((st : Int) + 1)), QV (.int .i64 (ct : Nat)), QV (.bool true), QV (.bool true), QV (.bool true), QV (.bool false), QV (.slice sa 32 sc), QV (.string s), QV (.bool false), QV (.bool true), QV (.bool true), QV (.bool true), QV (.bool false), QV (.bool false), QV (.bool true), QV (.bool true), QV (.bool true), QV (.bool false), QV (.bool false), QV (.pointer (some ⟨bf, 0, none⟩)), QV (.string ⟨#[]⟩), QV (.bool true), QV (.bool true), QV (.bool true), QV (.bool true), QV (.slice (some ⟨bz, 1, none⟩) 9 9), SVs 9 msgL, QV (.bool true), QV (.bool true), QV (.bool true), QV (.pointer (some ⟨bz, 0, none⟩)), QV (.string ⟨#[]⟩), QV (.bool true), QV (.bool true), QV (.bool true), QV (.string s), QV (.int .i64 (msgN s : Nat)), QV (.string s), QV (.int .i64 (msgN s : Nat)), QV (.bool true), QV (.bool true)]) (by kernel_rfl) (by kernel_rfl) (by kernel_rfl) (by kernel_rfl) (by kernel_rfl) rfl (phi_stays ?c30_st) ?c30_g ?c30_op ?c30_fin
            case c30_st => simp only [List.forall_mem_cons]; exact ⟨stays_qv _, stays_qv _, stays_qv _, stays_qv _, stays_qv _, stays_qv _, stays_qv _, stays_qv _, stays_qv _, stays_qv _, stays_qv _, stays_qv _, stays_qv _, stays_qv _, stays_qv _, stays_qv _, stays_qv _, stays_qv _, stays_qv _, stays_qv _, stays_qv _, stays_qv _, stays_qv _, stays_qv _, stays_qv _, stays_qv _, stays_qv _, stays_qv _, stays_qv _, stays_qv _, stays_qv _, stays_qv _, stays_qv _, stays_qv _, stays_qv _, stays_svs _ _, stays_qv _, stays_qv _, stays_qv _, stays_qv _, stays_qv _, stays_qv _, stays_qv _, stays_qv _, stays_qv _, stays_qv _, stays_qv _, stays_qv _, stays_qv _, stays_qv _, fun _ h => by cases h⟩
            case c30_g =>
              change ∀ p ∈ ([(4, true), (13, true), (20, true), (25, true), (27, false), (33, true), (38, true), (43, true)] : List (Nat × Bool)), _
              intro p hp
              simp only [List.mem_cons, List.not_mem_nil, or_false] at hp
              rcases hp with rfl | rfl | rfl | rfl | rfl | rfl | rfl | rfl <;> (intro v W h; first | exact .inl h | exact .inr ⟨h, by intro i o hi ho hgd v2 W2; rcases i with _ | _ | _ | _ | _ | _ | _ | _ | _ | _ | _ | _ | _ | _ | _ | _ | _ | _ | _ | _ | _ | _ | _ | _ | _ | _ | _ | _ | _ | _ | _ | _ | _ | _ | _ | _ | _ | _ | _ | _ | _ | _ | _ | _ | _ | _ | _ | _ | _ | _ | i; all_goals first | exact trivial | (cases ho; cases hgd) | omega⟩)
            case c30_op =>
              simp only [List.take_succ_cons, List.take_zero]
              refine ⟨fun a V hB hold hdep hgv => ?_, ?_⟩
              · have h6 : a.tmps.getD 6 undef = .pointer (some ⟨b5 + 1, 0, none⟩) := (hold 6 (by kernel_rfl)).trans rfl
                have hc : V.cell? ⟨b5 + 1, 0, none⟩ = some (.int .i64 32) := (q6.out.below hB q6.out.lt).cell rfl
                unfold OpOk
                simp [execOp, go_sem, eval_tmp, eval_const, eval_func, h6, hc]
                exact ⟨Below.refl _ _, rfl⟩
              refine ⟨fun a V hB hold hdep hgv => ?_, ?_⟩
              · have h5 : a.tmps.getD 5 undef = .pointer (some ⟨b5, 0, none⟩) := (hold 5 (by kernel_rfl)).trans rfl
                have hc : V.cell? ⟨b5, 0, none⟩ = some (.slice (some ⟨g, 0, none⟩) 32 32) := (q5.out.below hB q5.out.lt).cell rfl
                unfold OpOk
                simp [execOp, go_sem, eval_tmp, eval_const, eval_func, h5, hc]
                exact ⟨Below.refl _ _, rfl⟩
              refine ⟨fun a V hB hold hdep hgv => ?_, ?_⟩
              · have h100 : a.tmps.getD 100 undef = .slice (some ⟨g, 0, none⟩) 32 32 := hdep 1 100 (by kernel_rfl) rfl
                unfold OpOk
                simp [execOp, go_sem, eval_tmp, eval_const, eval_func, h100]
                exact ⟨Below.refl _ _, rfl⟩
              refine ⟨fun a V hB hold hdep hgv => ?_, ?_⟩
              · have h99 : a.tmps.getD 99 undef = .int .i64 32 := hdep 0 99 (by kernel_rfl) rfl
                have h101 : a.tmps.getD 101 undef = .int .i64 32 := hdep 2 101 (by kernel_rfl) rfl
                unfold OpOk
                simp [execOp, go_sem, eval_tmp, eval_const, eval_func, h99, h101]
                exact ⟨Below.refl _ _, rfl⟩
              refine ⟨fun a V hB hold hdep hgv => ?_, ?_⟩
              · have h102 : a.tmps.getD 102 undef = .bool true := hdep 3 102 (by kernel_rfl) rfl
                unfold OpOk
                simp [execOp, go_sem, eval_tmp, eval_const, eval_func, h102]
                exact ⟨Below.refl _ _, rfl⟩
              refine ⟨fun a V hB hold hdep hgv => ?_, ?_⟩
              · have h10 : a.tmps.getD 10 undef = .pointer (some ⟨bc, 0, none⟩) := (hold 10 (by kernel_rfl)).trans rfl
                have hc : V.cell? ⟨bc, 0, none⟩ = some (.int .i64 (ct : Nat)) := (qc.out.below hB qc.out.lt).cell rfl
                unfold OpOk
                simp [execOp, go_sem, eval_tmp, eval_const, eval_func, h10, hc]
                exact ⟨Below.refl _ _, rfl⟩
              refine ⟨fun a V hB hold hdep hgv => ?_, ?_⟩
              · have h6 : a.tmps.getD 6 undef = .pointer (some ⟨b5 + 1, 0, none⟩) := (hold 6 (by kernel_rfl)).trans rfl
                have hc : V.cell? ⟨b5 + 1, 0, none⟩ = some (.int .i64 32) := (q6.out.below hB q6.out.lt).cell rfl
                unfold OpOk
                simp [execOp, go_sem, eval_tmp, eval_const, eval_func, h6, hc]
                exact ⟨Below.refl _ _, rfl⟩
              refine ⟨fun a V hB hold hdep hgv => ?_, ?_⟩
              · have h3 : a.tmps.getD 3 undef = .pointer (some ⟨b0, 0, none⟩) := (hold 3 (by kernel_rfl)).trans rfl
                have hc : V.cell? ⟨b0, 0, none⟩ = some (.int .u8 (st : Nat)) := (q0.out.below hB q0.out.lt).cell rfl
                unfold OpOk
                simp [execOp, go_sem, eval_tmp, eval_const, eval_func, h3, hc]
                exact ⟨Below.refl _ _, rfl⟩
              refine ⟨fun a V hB hold hdep hgv => ?_, ?_⟩
              · have h106 : a.tmps.getD 106 undef = .int .u8 (st : Nat) := hdep 7 106 (by kernel_rfl) rfl
                unfold OpOk
                simp [execOp, go_sem, eval_tmp, eval_const, eval_func, h106, hw0]
                exact ⟨Below.refl _ _, rfl⟩
              refine ⟨fun a V hB hold hdep hgv => ?_, ?_⟩
              · have h107 : a.tmps.getD 107 undef = .int .i64 (st : Nat) := hdep 8 107 (by kernel_rfl) rfl
                unfold OpOk
                simp [execOp, go_sem, eval_tmp, eval_const, eval_func, h107, hw1]
                exact ⟨Below.refl _ _, rfl⟩
              refine ⟨fun a V hB hold hdep hgv => ?_, ?_⟩
              · have h105 : a.tmps.getD 105 undef = .int .i64 32 := hdep 6 105 (by kernel_rfl) rfl
                have h108 : a.tmps.getD 108 undef = .int .i64 ((st : Int) + 1) := hdep 9 108 (by kernel_rfl) rfl
                unfold OpOk
                simp [execOp, go_sem, eval_tmp, eval_const, eval_func, h105, h108, hmn]
                exact ⟨Below.refl _ _, rfl⟩
              refine ⟨fun a V hB hold hdep hgv => ?_, ?_⟩
              · have h104 : a.tmps.getD 104 undef = .int .i64 (ct : Nat) := hdep 5 104 (by kernel_rfl) rfl
                have h109 : a.tmps.getD 109 undef = .int .i64 (ct : Nat) := hdep 10 109 (by kernel_rfl) rfl
                unfold OpOk
                simp [execOp, go_sem, eval_tmp, eval_const, eval_func, h104, h109]
                exact ⟨Below.refl _ _, rfl⟩
              refine ⟨fun a V hB hold hdep hgv => ?_, ?_⟩
              · have h103 : a.tmps.getD 103 undef = .bool true := hdep 4 103 (by kernel_rfl) rfl
                have h110 : a.tmps.getD 110 undef = .bool true := hdep 11 110 (by kernel_rfl) rfl
                unfold OpOk
                simp [execOp, go_sem, eval_tmp, eval_const, eval_func, h103, h110]
                exact ⟨Below.refl _ _, rfl⟩
              refine ⟨fun a V hB hold hdep hgv => ?_, ?_⟩
              · have h111 : a.tmps.getD 111 undef = .bool true := hdep 12 111 (by kernel_rfl) rfl
                unfold OpOk
                simp [execOp, go_sem, eval_tmp, eval_const, eval_func, h111]
                exact ⟨Below.refl _ _, rfl⟩
              refine ⟨fun a V hB hold hdep hgv => ?_, ?_⟩
              · have h12 : a.tmps.getD 12 undef = .bool false := (hold 12 (by kernel_rfl)).trans rfl
                unfold OpOk
                simp [execOp, go_sem, eval_tmp, eval_const, eval_func, h12]
                exact ⟨Below.refl _ _, rfl⟩
              refine ⟨fun a V hB hold hdep hgv => ?_, ?_⟩
              · have h7 : a.tmps.getD 7 undef = .pointer (some ⟨b5 + 2, 0, none⟩) := (hold 7 (by kernel_rfl)).trans rfl
                have hc : V.cell? ⟨b5 + 2, 0, none⟩ = some (.slice sa 32 sc) := (q7.out.below hB q7.out.lt).cell rfl
                unfold OpOk
                simp [execOp, go_sem, eval_tmp, eval_const, eval_func, h7, hc]
                exact ⟨Below.refl _ _, rfl⟩
              refine ⟨fun a V hB hold hdep hgv => ?_, ?_⟩
              · have h0 : a.tmps.getD 0 undef = .string s := (hold 0 (by kernel_rfl)).trans rfl
                unfold OpOk
                simp [execOp, go_sem, eval_tmp, eval_const, eval_func, h0]
                exact ⟨Below.refl _ _, rfl⟩
              refine ⟨fun a V hB hold hdep hgv => ?_, ?_⟩
              · have h114 : a.tmps.getD 114 undef = .slice sa 32 sc := hdep 15 114 (by kernel_rfl) rfl
                have h115 : a.tmps.getD 115 undef = .string s := hdep 16 115 (by kernel_rfl) rfl
                unfold OpOk
                simp [execOp, go_sem, eval_tmp, eval_const, eval_func, h114, h115]
                (with_reducible refine (LCt.out V hB).mono ?_); rintro e W2 ⟨rfl, rfl⟩; exact ⟨_, rfl, Below.refl _ _, rfl⟩
              refine ⟨fun a V hB hold hdep hgv => ?_, ?_⟩
              · have h113 : a.tmps.getD 113 undef = .bool false := hdep 14 113 (by kernel_rfl) rfl
                have h116 : a.tmps.getD 116 undef = .bool false := hdep 17 116 (by kernel_rfl) rfl
                unfold OpOk
                simp [execOp, go_sem, eval_tmp, eval_const, eval_func, h113, h116]
                exact ⟨Below.refl _ _, rfl⟩
              refine ⟨fun a V hB hold hdep hgv => ?_, ?_⟩
              · have h112 : a.tmps.getD 112 undef = .bool true := hdep 13 112 (by kernel_rfl) rfl
                have h117 : a.tmps.getD 117 undef = .bool true := hdep 18 117 (by kernel_rfl) rfl
                unfold OpOk
                simp [execOp, go_sem, eval_tmp, eval_const, eval_func, h112, h117]
                exact ⟨Below.refl _ _, rfl⟩
              refine ⟨fun a V hB hold hdep hgv => ?_, ?_⟩
              · have h118 : a.tmps.getD 118 undef = .bool true := hdep 19 118 (by kernel_rfl) rfl
                unfold OpOk
                simp [execOp, go_sem, eval_tmp, eval_const, eval_func, h118]
                exact ⟨Below.refl _ _, rfl⟩
              refine ⟨fun a V hB hold hdep hgv => ?_, ?_⟩
              · have h12 : a.tmps.getD 12 undef = .bool false := (hold 12 (by kernel_rfl)).trans rfl
                unfold OpOk
                simp [execOp, go_sem, eval_tmp, eval_const, eval_func, h12]
                exact ⟨Below.refl _ _, rfl⟩
              refine ⟨fun a V hB hold hdep hgv => ?_, ?_⟩
              · have h13 : a.tmps.getD 13 undef = .bool false := (hold 13 (by kernel_rfl)).trans rfl
                unfold OpOk
                simp [execOp, go_sem, eval_tmp, eval_const, eval_func, h13]
                exact ⟨Below.refl _ _, rfl⟩
              refine ⟨fun a V hB hold hdep hgv => ?_, ?_⟩
              · have h120 : a.tmps.getD 120 undef = .bool false := hdep 21 120 (by kernel_rfl) rfl
                have h121 : a.tmps.getD 121 undef = .bool false := hdep 22 121 (by kernel_rfl) rfl
                unfold OpOk
                simp [execOp, go_sem, eval_tmp, eval_const, eval_func, h120, h121]
                exact ⟨Below.refl _ _, rfl⟩
              refine ⟨fun a V hB hold hdep hgv => ?_, ?_⟩
              · have h119 : a.tmps.getD 119 undef = .bool true := hdep 20 119 (by kernel_rfl) rfl
                have h122 : a.tmps.getD 122 undef = .bool true := hdep 23 122 (by kernel_rfl) rfl
                unfold OpOk
                simp [execOp, go_sem, eval_tmp, eval_const, eval_func, h119, h122]
                exact ⟨Below.refl _ _, rfl⟩
              refine ⟨fun a V hB hold hdep hgv => ?_, ?_⟩
              · have h123 : a.tmps.getD 123 undef = .bool true := hdep 24 123 (by kernel_rfl) rfl
                unfold OpOk
                simp [execOp, go_sem, eval_tmp, eval_const, eval_func, h123]
                exact ⟨Below.refl _ _, rfl⟩
              refine ⟨fun a V hB hold hdep hgv => ?_, ?_⟩
              · have h12 : a.tmps.getD 12 undef = .bool false := (hold 12 (by kernel_rfl)).trans rfl
                unfold OpOk
                simp [execOp, go_sem, eval_tmp, eval_const, eval_func, h12]
                exact ⟨Below.refl _ _, rfl⟩
              refine ⟨fun a V hB hold hdep hgv => ?_, ?_⟩
              · have h125 : a.tmps.getD 125 undef = .bool false := hdep 26 125 (by kernel_rfl) rfl
                unfold OpOk
                simp [execOp, go_sem, eval_tmp, eval_const, eval_func, h125]
                exact ⟨Below.refl _ _, rfl⟩
              refine ⟨fun a V hB hold hdep hgv => ?_, ?_⟩
              · have h11 : a.tmps.getD 11 undef = .pointer (some ⟨bf, 0, none⟩) := (hold 11 (by kernel_rfl)).trans rfl
                unfold OpOk
                simp [execOp, go_sem, eval_tmp, eval_const, eval_func, h11]
                exact ⟨Below.refl _ _, rfl⟩
              refine ⟨fun a V hB hold hdep hgv => ?_, ?_⟩
              · have h127 : a.tmps.getD 127 undef = .pointer (some ⟨bf, 0, none⟩) := hdep 28 127 (by kernel_rfl) rfl
                have hc : V.cell? ⟨bf, 0, none⟩ = some (.string ⟨#[]⟩) := (qf.out.below hB qf.out.lt).cell hf00.out
                unfold OpOk
                simp [execOp, go_sem, eval_tmp, eval_const, eval_func, h127, hc]
                exact ⟨Below.refl _ _, rfl⟩
              refine ⟨fun a V hB hold hdep hgv => ?_, ?_⟩
              · have h128 : a.tmps.getD 128 undef = .string ⟨#[]⟩ := hdep 29 128 (by kernel_rfl) rfl
                unfold OpOk
                simp [execOp, go_sem, eval_tmp, eval_const, eval_func, h128]
                exact ⟨Below.refl _ _, rfl⟩
              refine ⟨fun a V hB hold hdep hgv => ?_, ?_⟩
              · have h126 : a.tmps.getD 126 undef = .bool false := hdep 27 126 (by kernel_rfl) rfl
                have h129 : a.tmps.getD 129 undef = .bool true := hdep 30 129 (by kernel_rfl) rfl
                unfold OpOk
                simp [execOp, go_sem, eval_tmp, eval_const, eval_func, h126, h129]
                exact ⟨Below.refl _ _, rfl⟩
              refine ⟨fun a V hB hold hdep hgv => ?_, ?_⟩
              · have h124 : a.tmps.getD 124 undef = .bool true := hdep 25 124 (by kernel_rfl) rfl
                have h130 : a.tmps.getD 130 undef = .bool true := hdep 31 130 (by kernel_rfl) rfl
                unfold OpOk
                simp [execOp, go_sem, eval_tmp, eval_const, eval_func, h124, h130]
                exact ⟨Below.refl _ _, rfl⟩
              refine ⟨fun a V hB hold hdep hgv => ?_, ?_⟩
              · have h131 : a.tmps.getD 131 undef = .bool true := hdep 32 131 (by kernel_rfl) rfl
                unfold OpOk
                simp [execOp, go_sem, eval_tmp, eval_const, eval_func, h131]
                exact ⟨Below.refl _ _, rfl⟩
              refine ⟨fun a V hB hold hdep hgv => ?_, ?_⟩
              · have h16 : a.tmps.getD 16 undef = .pointer (some ⟨bz, 0, none⟩) := (hold 16 (by kernel_rfl)).trans rfl
                unfold OpOk
                simp [execOp, go_sem, eval_tmp, eval_const, eval_func, h16]
                exact ⟨Below.refl _ _, rfl⟩
              refine ⟨fun a V hB hold hdep hgv => ?_, ?_⟩
              · unfold OpOk
                simp [execOp, go_sem, eval_tmp, eval_const, eval_func]
                (with_reducible refine (LNm.out V).mono ?_); rintro e W2 ⟨a', c', rfl, hi', hb⟩; exact ⟨_, rfl, hb, ⟨a', c', rfl, hi'⟩⟩
              refine ⟨fun a V hB hold hdep hgv => ?_, ?_⟩
              · have h133 : a.tmps.getD 133 undef = .slice (some ⟨bz, 1, none⟩) 9 9 := hdep 34 133 (by kernel_rfl) rfl
                obtain ⟨na, nc, h134, hni⟩ := hdep 35 134 (by kernel_rfl) rfl
                unfold OpOk
                simp [execOp, go_sem, eval_tmp, eval_const, eval_func, h133, h134]
                (with_reducible refine (equal_strs (some ⟨bz, 1, none⟩) na 9 9 nc msgL (by omega) V (hstM.out.below hB) hni).mono ?_); rintro e W2 ⟨rfl, hb⟩; exact ⟨_, rfl, hb, rfl⟩
              refine ⟨fun a V hB hold hdep hgv => ?_, ?_⟩
              · have h132 : a.tmps.getD 132 undef = .bool true := hdep 33 132 (by kernel_rfl) rfl
                have h135 : a.tmps.getD 135 undef = .bool true := hdep 36 135 (by kernel_rfl) rfl
                unfold OpOk
                simp [execOp, go_sem, eval_tmp, eval_const, eval_func, h132, h135]
                exact ⟨Below.refl _ _, rfl⟩
              refine ⟨fun a V hB hold hdep hgv => ?_, ?_⟩
              · have h136 : a.tmps.getD 136 undef = .bool true := hdep 37 136 (by kernel_rfl) rfl
                unfold OpOk
                simp [execOp, go_sem, eval_tmp, eval_const, eval_func, h136]
                exact ⟨Below.refl _ _, rfl⟩
              refine ⟨fun a V hB hold hdep hgv => ?_, ?_⟩
              · have h16 : a.tmps.getD 16 undef = .pointer (some ⟨bz, 0, none⟩) := (hold 16 (by kernel_rfl)).trans rfl
                unfold OpOk
                simp [execOp, go_sem, eval_tmp, eval_const, eval_func, h16]
                exact ⟨Below.refl _ _, rfl⟩
              refine ⟨fun a V hB hold hdep hgv => ?_, ?_⟩
              · have h138 : a.tmps.getD 138 undef = .pointer (some ⟨bz, 0, none⟩) := hdep 39 138 (by kernel_rfl) rfl
                have hc : V.cell? ⟨bz, 0, none⟩ = some (.string ⟨#[]⟩) := (r9.out.below hB r9.out.lt).cell hM0.out
                unfold OpOk
                simp [execOp, go_sem, eval_tmp, eval_const, eval_func, h138, hc]
                exact ⟨Below.refl _ _, rfl⟩
              refine ⟨fun a V hB hold hdep hgv => ?_, ?_⟩
              · have h139 : a.tmps.getD 139 undef = .string ⟨#[]⟩ := hdep 40 139 (by kernel_rfl) rfl
                unfold OpOk
                simp [execOp, go_sem, eval_tmp, eval_const, eval_func, h139]
                exact ⟨Below.refl _ _, rfl⟩
              refine ⟨fun a V hB hold hdep hgv => ?_, ?_⟩
              · have h137 : a.tmps.getD 137 undef = .bool true := hdep 38 137 (by kernel_rfl) rfl
                have h140 : a.tmps.getD 140 undef = .bool true := hdep 41 140 (by kernel_rfl) rfl
                unfold OpOk
                simp [execOp, go_sem, eval_tmp, eval_const, eval_func, h137, h140]
                exact ⟨Below.refl _ _, rfl⟩
              refine ⟨fun a V hB hold hdep hgv => ?_, ?_⟩
              · have h141 : a.tmps.getD 141 undef = .bool true := hdep 42 141 (by kernel_rfl) rfl
                unfold OpOk
                simp [execOp, go_sem, eval_tmp, eval_const, eval_func, h141]
                exact ⟨Below.refl _ _, rfl⟩
              refine ⟨fun a V hB hold hdep hgv => ?_, ?_⟩
              · have h0 : a.tmps.getD 0 undef = .string s := (hold 0 (by kernel_rfl)).trans rfl
                unfold OpOk
                simp [execOp, go_sem, eval_tmp, eval_const, eval_func, h0]
                exact ⟨Below.refl _ _, rfl⟩
              refine ⟨fun a V hB hold hdep hgv => ?_, ?_⟩
              · have h143 : a.tmps.getD 143 undef = .string s := hdep 44 143 (by kernel_rfl) rfl
                unfold OpOk
                simp [execOp, go_sem, eval_tmp, eval_const, eval_func, h143]
                (with_reducible refine (LMg.out V).mono ?_); rintro e W2 ⟨rfl, hb⟩; exact ⟨_, rfl, hb, rfl⟩
              refine ⟨fun a V hB hold hdep hgv => ?_, ?_⟩
              · have h0 : a.tmps.getD 0 undef = .string s := (hold 0 (by kernel_rfl)).trans rfl
                unfold OpOk
                simp [execOp, go_sem, eval_tmp, eval_const, eval_func, h0]
                exact ⟨Below.refl _ _, rfl⟩
              refine ⟨fun a V hB hold hdep hgv => ?_, ?_⟩
              · have h145 : a.tmps.getD 145 undef = .string s := hdep 46 145 (by kernel_rfl) rfl
                unfold OpOk
                simp [execOp, go_sem, eval_tmp, eval_const, eval_func, h145]
                (with_reducible refine (LNb.out V).mono ?_); rintro e W2 ⟨rfl, hb⟩; exact ⟨_, rfl, hb, rfl⟩
              refine ⟨fun a V hB hold hdep hgv => ?_, ?_⟩
              · have h144 : a.tmps.getD 144 undef = .int .i64 (msgN s : Nat) := hdep 45 144 (by kernel_rfl) rfl
                have h146 : a.tmps.getD 146 undef = .int .i64 (msgN s : Nat) := hdep 47 146 (by kernel_rfl) rfl
                unfold OpOk
                simp [execOp, go_sem, eval_tmp, eval_const, eval_func, h144, h146]
                exact ⟨Below.refl _ _, rfl⟩
              refine ⟨fun a V hB hold hdep hgv => ?_, ?_⟩
              · have h142 : a.tmps.getD 142 undef = .bool true := hdep 43 142 (by kernel_rfl) rfl
                have h147 : a.tmps.getD 147 undef = .bool true := hdep 48 147 (by kernel_rfl) rfl
                unfold OpOk
                simp [execOp, go_sem, eval_tmp, eval_const, eval_func, h142, h147]
                exact ⟨Below.refl _ _, rfl⟩
              trivial
            case c30_fin =>
              intro X V hB hX
              have e99 : X 99 = .int .i64 32 := hX 0 99 (by decide) rfl
              have e100 : X 100 = .slice (some ⟨g, 0, none⟩) 32 32 := hX 1 100 (by decide) rfl
              have e101 : X 101 = .int .i64 32 := hX 2 101 (by decide) rfl
              have e102 : X 102 = .bool true := hX 3 102 (by decide) rfl
              have e103 : X 103 = .bool true := hX 4 103 (by decide) rfl
              have e104 : X 104 = .int .i64 (ct : Nat) := hX 5 104 (by decide) rfl
              have e105 : X 105 = .int .i64 32 := hX 6 105 (by decide) rfl
              have e106 : X 106 = .int .u8 (st : Nat) := hX 7 106 (by decide) rfl
              have e107 : X 107 = .int .i64 (st : Nat) := hX 8 107 (by decide) rfl
              have e108 : X 108 = .int .i64 ((st : Int) + 1) := hX 9 108 (by decide) rfl
              have e109 : X 109 = .int .i64 (ct : Nat) := hX 10 109 (by decide) rfl
              have e110 : X 110 = .bool true := hX 11 110 (by decide) rfl
              have e111 : X 111 = .bool true := hX 12 111 (by decide) rfl
              have e112 : X 112 = .bool true := hX 13 112 (by decide) rfl
              have e113 : X 113 = .bool false := hX 14 113 (by decide) rfl
              have e114 : X 114 = .slice sa 32 sc := hX 15 114 (by decide) rfl
              have e115 : X 115 = .string s := hX 16 115 (by decide) rfl
              have e116 : X 116 = .bool false := hX 17 116 (by decide) rfl
              have e117 : X 117 = .bool true := hX 18 117 (by decide) rfl
              have e118 : X 118 = .bool true := hX 19 118 (by decide) rfl
              have e119 : X 119 = .bool true := hX 20 119 (by decide) rfl
              have e120 : X 120 = .bool false := hX 21 120 (by decide) rfl
              have e121 : X 121 = .bool false := hX 22 121 (by decide) rfl
              have e122 : X 122 = .bool true := hX 23 122 (by decide) rfl
              have e123 : X 123 = .bool true := hX 24 123 (by decide) rfl
              have e124 : X 124 = .bool true := hX 25 124 (by decide) rfl
              have e125 : X 125 = .bool false := hX 26 125 (by decide) rfl
              have e126 : X 126 = .bool false := hX 27 126 (by decide) rfl
              have e127 : X 127 = .pointer (some ⟨bf, 0, none⟩) := hX 28 127 (by decide) rfl
              have e128 : X 128 = .string ⟨#[]⟩ := hX 29 128 (by decide) rfl
              have e129 : X 129 = .bool true := hX 30 129 (by decide) rfl
              have e130 : X 130 = .bool true := hX 31 130 (by decide) rfl
              have e131 : X 131 = .bool true := hX 32 131 (by decide) rfl
              have e132 : X 132 = .bool true := hX 33 132 (by decide) rfl
              have e133 : X 133 = .slice (some ⟨bz, 1, none⟩) 9 9 := hX 34 133 (by decide) rfl
              obtain ⟨na, nc, e134, hni⟩ := hX 35 134 (by decide) rfl
              have e135 : X 135 = .bool true := hX 36 135 (by decide) rfl
              have e136 : X 136 = .bool true := hX 37 136 (by decide) rfl
              have e137 : X 137 = .bool true := hX 38 137 (by decide) rfl
              have e138 : X 138 = .pointer (some ⟨bz, 0, none⟩) := hX 39 138 (by decide) rfl
              have e139 : X 139 = .string ⟨#[]⟩ := hX 40 139 (by decide) rfl
              have e140 : X 140 = .bool true := hX 41 140 (by decide) rfl
              have e141 : X 141 = .bool true := hX 42 141 (by decide) rfl
              have e142 : X 142 = .bool true := hX 43 142 (by decide) rfl
              have e143 : X 143 = .string s := hX 44 143 (by decide) rfl
              have e144 : X 144 = .int .i64 (msgN s : Nat) := hX 45 144 (by decide) rfl
              have e145 : X 145 = .string s := hX 46 145 (by decide) rfl
              have e146 : X 146 = .int .i64 (msgN s : Nat) := hX 47 146 (by decide) rfl
              have e147 : X 147 = .bool true := hX 48 147 (by decide) rfl
              have e148 : X 148 = .bool true := hX 49 148 (by decide) rfl
              clear hX
              change wpList Tryz.prog _ _ _ { tmps := putAll [(99, X 99), (100, X 100), (101, X 101), (102, X 102), (103, X 103), (104, X 104), (105, X 105), (106, X 106), (107, X 107), (108, X 108), (109, X 109), (110, X 110), (111, X 111), (112, X 112), (113, X 113), (114, X 114), (115, X 115), (116, X 116), (117, X 117), (118, X 118), (119, X 119), (120, X 120), (121, X 121), (122, X 122), (123, X 123), (124, X 124), (125, X 125), (126, X 126), (127, X 127), (128, X 128), (129, X 129), (130, X 130), (131, X 131), (132, X 132), (133, X 133), (134, X 134), (135, X 135), (136, X 136), (137, X 137), (138, X 138), (139, X 139), (140, X 140), (141, X 141), (142, X 142), (143, X 143), (144, X 144), (145, X 145), (146, X 146), (147, X 147), (148, X 148)] _, defers := _ } V
              simp only [Act.put, putAll, List.foldl_cons, List.foldl_nil, List.setIfInBounds_toArray, List.set_cons_zero, List.set_cons_succ, List.drop_succ_cons, List.drop_zero, e99, e100, e101, e102, e103, e104, e105, e106, e107, e108, e109, e110, e111, e112, e113, e114, e115, e116, e117, e118, e119, e120, e121, e122, e123, e124, e125, e126, e127, e128, e129, e130, e131, e132, e133, e134, e135, e136, e137, e138, e139, e140, e141, e142, e143, e144, e145, e146, e147, e148]
              clear e99 e100 e101 e102 e103 e104 e105 e106 e107 e108 e109 e110 e111 e112 e113 e114 e115 e116 e117 e118 e119 e120 e121 e122 e123 e124 e125 e126 e127 e128 e129 e130 e131 e132 e133 e134 e135 e136 e137 e138 e139 e140 e141 e142 e143 e144 e145 e146 e147 e148
              have hM10 := hM9.out.below hB h05 hbw (by omega) (by omega) (by omega) (by omega) (by omega)
              have r4v := hM10.j.r4
              have c4 : V.cell? ⟨b0 + 1, 0, none⟩ = some (.bool false) := r4v.cell rfl
              have f4 := r4v.free 0
              have r40 := hid ((r4v.set 0 (.bool true)).eqA (A' := #[.bool true]) (by simp))
              have bel9 := hid (hM10.j.bel.setCell (p := ⟨b0 + 1, 0, none⟩) (by show b0 ≤ b0 + 1; omega) (.bool true))
              have d19 := hid (defer_cell hM10.j.df ⟨b0 + 1, 0, none⟩ (.bool true) (by show W0.heap.size ≠ b0 + 1; omega))
              have d29 := hid (defer_cell hM10.d2 ⟨b0 + 1, 0, none⟩ (.bool true) (by show X1.heap.size ≠ b0 + 1; omega))
              clear hM10 r4v
              go_wp2
              generalize V.setCell ⟨b0 + 1, 0, none⟩ (.bool true) = Z at r40 bel9 d19 d29 ⊢
              gi_wp2
              refine leave_many [X1.heap.size, W0.heap.size] Z (fun d hd => ?_) (by simp; omega) fun Z' hk => ⟨_, results_cell1 rfl _ _ (b0 + 1) _ rfl ((hk.row r40.out (fun h => ?_)).cell (j := 0) rfl) Tryz.underlying4, rfl, ?_⟩
              · simp only [List.mem_cons, List.not_mem_nil, or_false] at hd
                rcases hd with rfl | rfl
                · exact d29.out
                · exact d19.out
              · simp only [List.mem_cons, List.not_mem_nil, or_false] at h
                omega
              · rw [← hb0.out]
                exact below_kept bel9.out hk hbw (fun d hd => by simp only [List.mem_cons, List.not_mem_nil, or_false] at hd; omega)
  case body =>
    rintro γ1 pre x post g1 X hx hq1 hq2 hv1 hr1 ⟨hT, hm⟩ ⟨rg1, hg1⟩
    obtain ⟨hp32, hxe, hpre⟩ := ctXs_pre hx
    obtain ⟨n, p⟩ := x
    obtain ⟨hn, rfl⟩ : n = pre.length ∧ p = ctAtP γ1 n := by
      have := hxe
      simp only [Prod.mk.injEq] at this
      exact ⟨this.1, by rw [this.1]; exact this.2⟩
    have hlen : (pre ++ [(n, ctAtP γ1 n)]).length = n + 1 := by simp [hn]
    rw [← hn] at hT hp32
    clear hxe hpre hx hn
    dsimp only at rg1
    obtain ⟨u, hu1, hu2⟩ := hT.rs
    obtain ⟨ua, uc, hue⟩ := hu2.shape
    rw [nmsL_len] at hue
    subst hue
    obtain ⟨ua2, uc2, hue2, hus⟩ := hu2.read (n := n) (nmsL_len n) (nmsL_small (by omega))
    obtain ⟨rfl, rfl⟩ : ua = ua2 ∧ uc = uc2 := by simp only [Value.slice.injEq] at hue2; exact ⟨hue2.1, hue2.2.2⟩
    have q6 : ∀ q : Sub X, q.x.cell? ⟨b5 + 1, 0, none⟩ = some (.int .i64 (n : Nat)) := fun q => q.cell hT.r6 rfl
    have q5 : ∀ q : Sub X, q.x.cell? ⟨b5, 0, none⟩ = some (.slice (some ⟨g, 0, none⟩) 32 32) := fun q => q.cell hT.r5 rfl
    have q7 : ∀ q : Sub X, q.x.cell? ⟨b5 + 2, 0, none⟩ = some (.slice ua n uc) := fun q => q.cell hu1 rfl
    have q90 : ∀ q : Sub X, q.x.cell? ⟨g1, 0, none⟩ = some (.string (ctR n).name) := fun q => q.cell rg1 rfl
    have hst1 := (hv1 n hp32).1
    have hst2 := (hT.v n hp32).1
    obtain ⟨C1, hC1⟩ : ∃ C1, C1 = (ctR n).cells (ctAtP γ1 n) := ⟨_, rfl⟩
    obtain ⟨C, hC⟩ : ∃ C, C = (ctR n).cells (ctAtP γ n) := ⟨_, rfl⟩
    have hC16 : C1.size = 6 := by rw [hC1]; rfl
    have hC6 : C.size = 6 := by rw [hC]; rfl
    have LS : ∀ q : Sub X, Calls Tryz.prog 32 #[.agg C1, .agg C] q.x fun e w' => e = .returned (.bool true) ∧ Below q.x.heap.size q.x w' := fun q => by
      rw [hC1, hC]
      exact ctSame_any n hp32 _ _ q.x (hst1.below q.h) (hst2.below q.h)
    have LC : ∀ q : Sub X, Calls Tryz.prog 33 #[.slice ua n uc, .string (ctR n).name] q.x fun e w' => e = .returned (.bool false) ∧ q.x = w' := fun q => by
      have := contains_strs ua n uc (nmsL n) (ctR n).name (by omega) q.x (hus.below q.h)
      rw [nmsL_new hp32] at this
      exact this
    obtain ⟨R, hR⟩ : ∃ R, R = ruleA (ctR n).k (ctR n).mn (ctR n).mx (.slice (ctAtP γ1 n).1 (ctR n).texts.length (ctAtP γ1 n).2) := ⟨_, rfl⟩
    have hR4 : R.size = 4 := by rw [hR]; rfl
    have hCR : ∀ k v, R.toList[k]? = some v → C1[1 + k]? = some v := by
      intro k v hk
      rw [hR] at hk
      rw [hC1]
      have hkl : k < 4 := by have := (List.getElem?_eq_some_iff.1 hk).1; simpa [ruleA] using this
      rcases k with _ | _ | _ | _ | k
      · exact hk
      · exact hk
      · exact hk
      · exact hk
      · omega
    have LK : ∀ q : Sub X, Calls Tryz.prog 24 #[.agg R] q.x fun e w' => e = .returned (.int .i64 0) ∧ Below q.x.heap.size q.x w' := fun q => by
      have := ruleCheck_any (ctR n).k (ctR n).mn (ctR n).mx (ctAtP γ1 n).1 (ctR n).texts.length (ctAtP γ1 n).2 q.x
      rw [ctChk n hp32, ← hR] at this
      exact this
    have qr : ∀ q : Sub X, (Instr.loadAt 37 (.pointer (some ⟨g1, 1, none⟩))).run Tryz.prog q.x = .ok (.agg R) q.x := fun q => by
      have := run_loadAt_mid (P := Tryz.prog) q.x g1 1 37 R.toList _ (fun j v hj => q.cell rg1 (by rw [← hC1]; exact hCR j v hj)) Tryz.underlying37 rfl (by rw [Array.length_toList, hR4]; exact infoRule)
      simpa using this
    have qf : ∀ q : Sub X, (Instr.loadAt 58 (.pointer (some ⟨g1, 0, none⟩))).run Tryz.prog q.x = .ok (.agg C1) q.x := fun q => by
      have := run_loadAt_mid (P := Tryz.prog) q.x g1 0 58 C1.toList _ (fun j v hj => by rw [Nat.zero_add]; exact q.cell rg1 (by rw [← hC1]; rw [Array.getElem?_toList] at hj; exact hj)) Tryz.underlying58 rfl (by rw [Array.length_toList, hC16]; exact infoField)
      simpa using this
    have qt : ∀ q : Sub X, (Instr.loadAt 61 (.pointer (some ⟨g, n * 6, none⟩))).run Tryz.prog q.x = .ok (.agg C) q.x := fun q => by
      have := run_loadAt_mid (P := Tryz.prog) q.x g (n * 6) 61 C.toList _ (fun j v hj => q.cell hT.rg (by rw [List.getElem?_toArray]; exact hcell.out n j v hp32 (by rw [Array.getElem?_toList, hC] at hj; exact hj))) Tryz.underlying61 rfl (by rw [Array.length_toList, hC6]; exact infoRow)
      simpa using this
    have gn1 : ((n : Int) != (n : Int)) = false := by simp
    have gn2 : decide ((32 : Int) ≤ (n : Int)) = false := decide_eq_false (by omega)
    have gn2' : ¬ (32 : Int) ≤ (n : Int) := by omega
    have gn3 : (n : Int) < 32 := by omega
    simp only [encF]
    rw [fold2]
    rw [← hC1]
    simp only [putAll, List.zip_toArray, List.foldl_toArray', List.foldl_toArray, List.zip_cons_cons, List.zip_nil_left, List.foldl_cons, List.foldl_nil, List.setIfInBounds_toArray, List.set_cons_zero, List.set_cons_succ]
    obtain ⟨N, hN⟩ : ∃ N, N = (ctR n).name := ⟨_, rfl⟩
    rw [← hN] at q90 LC
    replace LS := hid LS
    replace LC := hid LC
    replace LK := hid LK
    replace qr := hid qr
    replace qf := hid qf
    replace qt := hid qt
    replace hT := hid hT
    replace hu1 := hid hu1
    replace hu2 := hid hu2
    replace hlen := hid hlen
    replace rg1 := hid rg1
    replace hN := hid hN
    replace hv1 := hid hv1
    clear hst1 hst2 hC1 hC hC16 hC6 hR hR4 hCR hr1 hus hue2
    gi_wp2
    refine wpIn_region_round (by kernel_rfl) (by kernel_rfl) (by kernel_rfl) ?_
    repeat (first
      | (go_big_quiet_want; refine quiet_load 58 (.tmp 9) rfl rfl qf.out ?_; simp only [Act.put, List.setIfInBounds_toArray, List.set_cons_zero, List.set_cons_succ]; go_big_quiet_on)
      | (go_big_quiet_want; refine quiet_load 61 (.tmp 39) rfl rfl qt.out ?_; simp only [Act.put, List.setIfInBounds_toArray, List.set_cons_zero, List.set_cons_succ]; go_big_quiet_on)
      | (go_big_quiet_want; refine quiet_load 37 (.tmp 51) rfl rfl qr.out ?_; simp only [Act.put, List.setIfInBounds_toArray, List.set_cons_zero, List.set_cons_succ]; go_big_quiet_on)
      | (go_big_quiet_step (first
          | (go_at_call 32; with_reducible refine Sub.call _ (LS.out _))
          | (go_at_call 33; with_reducible refine Sub.same _ (LC.out _))
          | (go_at_call 24; with_reducible refine Sub.call _ (LK.out _)))))
    refine wpQuiet_nil ?_
    intro q
    have hkX := hid (Kept.of_below (S := fun _ => False) q.h)
    have hTq := hT.out.on hkX.out (Z := W0.heap.size) (fun _ h => h.elim) h05 hbw (by omega) (by omega) (by omega)
    have hu1q := hkX.out.row hu1.out (fun h => h)
    have hu2q := hu2.out.kept hkX.out (fun _ _ h => h)
    have rgq := hkX.out.row rg1.out (fun h => h)
    have hqs := hkX.out.size
    generalize q.x = Y at hkX hTq hu1q hu2q rgq hqs ⊢
    have cN : ∀ o, (Y.alloc o).cell? ⟨g1, 0, none⟩ = some (.string N) := fun o => (rgq.alloc o).cell (by rw [hN.out]; rfl)
    have cN0 : Y.cell? ⟨g1, 0, none⟩ = some (.string N) := rgq.cell (by rw [hN.out]; rfl)
    have c7 : Y.cell? ⟨b5 + 2, 0, none⟩ = some (.slice ua n uc) := hu1q.cell rfl
    have hu3 : Y.ownsRow (ctM γ1) 9 1 (.slice ua n uc) n ((nmsL n).map Value.string) := by
      have := hu2q
      unfold Strs at this
      rwa [nmsL_len] at this
    have hrow : ∀ k, some k = (Value.slice ua n uc).ownBlock → ctM γ1 ≤ k := fun k hk => (hu2q.lt k hk.symm).1
    replace hu3 := hid hu3
    replace hTq := hid hTq
    replace hu1q := hid hu1q
    replace hrow := hid hrow
    clear q6 q5 q7 q90 hu1 hu2 hu2q hT rg1 rgq LS LC LK qr qf qt
    gi_wp2_with (gi_at_builtin; refine wpListIn_append_own_at _ rfl _ _ 35 rfl (ctM γ1) 9 inf _ 1 16 Tryz.underlying35 hi.out hz0.out hz1.out hz2.out rfl (by decide) _ _ _ rfl (hu3.out.alloc _) ⟨Y.heap.size, 0, none⟩ 1 1 [.string N] rfl rfl (cell_one_new _ _ _) (fun x hx => by simp at hx; subst hx; rfl) (by unfold maxLen; omega) (by omega) (by simp; omega) ?_
                 intro v1 w5 hown1 hgrow1 hnil1 hat1
                 obtain ⟨a1, c1, rfl⟩ := own_shape hown1
                 have hk5 := ((Kept.refl (fun k => some k = (Value.slice ua n uc).ownBlock) Y).alloc (.cells #[.string N] 9)).trans (kept_grown hgrow1)
                 have hown2 : Strs w5 (ctM γ1) (.slice a1 (n + 1) c1) (nmsL (n + 1)) := by
                   unfold Strs
                   rw [nmsL_len, nmsL_next, List.map_append, ← hN.out]
                   exact hown1
                 have hTZ := hTq.out.push hk5 hrow.out h05 hbw (by omega) hg5 (by omega) hown2
                 have r75 := hk5.row hu1q.out (fun h => by have := hrow.out _ h; omega)
                 have c75 : w5.cell? ⟨b5 + 2, 0, none⟩ = some (.slice ua n uc) := r75.cell rfl
                 have f75 := r75.free 0
                 have r65 := (hk5.row hTq.out.r6 (fun h => by have := hrow.out _ h; omega)).other ⟨b5 + 2, 0, none⟩ (.slice a1 (n + 1) c1) (by show b5 + 1 ≠ b5 + 2; omega)
                 have c65 : (w5.setCell ⟨b5 + 2, 0, none⟩ (.slice a1 (n + 1) c1)).cell? ⟨b5 + 1, 0, none⟩ = some (.int .i64 (n : Nat)) := r65.cell rfl
                 have f65 := r65.free 0
                 have e6 : ((w5.setCell ⟨b5 + 2, 0, none⟩ (.slice a1 (n + 1) c1)).setCell ⟨b5 + 1, 0, none⟩ (.int .i64 ((n : Int) + 1))).cell? ⟨b5 + 1, 0, none⟩ = some (.int .i64 ((n : Int) + 1)) := (hTZ.r6.eqA (A' := #[.int .i64 ((n : Int) + 1)]) (by simp)).cell rfl
                 have e0 : ((w5.setCell ⟨b5 + 2, 0, none⟩ (.slice a1 (n + 1) c1)).setCell ⟨b5 + 1, 0, none⟩ (.int .i64 ((n : Int) + 1))).cell? ⟨b0, 0, none⟩ = some (.int .u8 (st : Nat)) := hTZ.r0.cell rfl
                 have e5 : ((w5.setCell ⟨b5 + 2, 0, none⟩ (.slice a1 (n + 1) c1)).setCell ⟨b5 + 1, 0, none⟩ (.int .i64 ((n : Int) + 1))).cell? ⟨b5, 0, none⟩ = some (.slice (some ⟨g, 0, none⟩) 32 32) := hTZ.r5.cell rfl
                 have hkF := ((hk5.mono (T := fun k => some k = (Value.slice ua n uc).ownBlock ∨ k = b5 + 2 ∨ k = b5 + 1) fun k _ h => .inl h).setCell ⟨b5 + 2, 0, none⟩ (.inl (.inr (.inl rfl))) (.slice a1 (n + 1) c1)).setCell ⟨b5 + 1, 0, none⟩ (.inl (.inr (.inr rfl))) (.int .i64 ((n : Int) + 1))
                 have gst : decide ((st : Int) + 32 < (n : Int) + 1) = false := decide_eq_false (by omega)
                 have gst' : ¬ (st : Int) + 32 < (n : Int) + 1 := by omega
                 replace hTZ := hid hTZ
                 replace hkF := hid hkF
                 clear hown1 hown2 hk5 r75 r65 hgrow1 hnil1 hat1)
    refine ⟨(hkX.out.mono fun k _ h => h.elim).trans (hkF.out.mono fun k hk h hh => ?_), ?_⟩
    · have hkn : ctM γ1 ≤ k ∨ k = b5 + 2 ∨ k = b5 + 1 := by
        rcases h with h | h
        · exact .inl (hrow.out k h)
        · exact .inr h
      rcases hh with (hh | hh) | hh | hh
      · omega
      · omega
      · exact hh
      · omega
    · show TbI b0 b5 g lo (ctM γ1) γ st (pre ++ [(n, ctAtP γ1 n)]).length (nmsL (pre ++ [(n, ctAtP γ1 n)]).length) w _
      rw [hlen.out]
      exact hTZ.out
set_option maxRecDepth 100000 in
set_option maxHeartbeats 8000000 in
theorem table_long (s : ByteArray) (st : Nat) (hst : st < 256) (hs : 100 < s.size) (w : World) (hM : MaxVar w) : Calls Tryz.prog 8 #[.string s, .int .u8 (st : Nat)] w fun e w' => e = .returned (.bool true) ∧ Below w.heap.size w w' := by
  refine (callsIn_wide (n := 0)).1 ?_
  refine callsIn_of_wp_marks Tryz.func8 rfl trivial ?_
  simp only [Tryz.ntmps8, List.size_toArray, List.length_cons, List.length_nil, Nat.reduceAdd, Nat.reduceSub, Array.replicate_succ, Array.replicate_zero, List.push_toArray, List.append_toArray, List.nil_append, List.cons_append]
  have LA := hid (fun w h => ctAwake_any w h)
  have hM0 := hid (fun o o' => (hM.alloc o).alloc o')
  have gz : decide ((100 : Int) < (s.size : Int)) = true := decide_eq_true (by omega)
  have gz' : (100 : Int) < (s.size : Int) := by omega
  clear hM
  gi_wp2_with (refine ⟨trivial, rfl, ?_⟩; gi_at_call 29; refine (callsIn_wide.2 (LA.out _ (hM0.out _ _))).mono ?_; rintro e w1 ⟨rfl, hB⟩
               have r4 := (RowAt.newS w #[.int .u8 (st : Nat)] #[.bool false] 5 4).below hB (by simp only [World.size_alloc]; omega)
               have bel := below_cat hB (below_al (below_al (Below.refl w.heap.size w) _) _)
               have c4 : w1.cell? ⟨w.heap.size + 1, 0, none⟩ = some (.bool false) := r4.cell rfl
               have f4 := r4.free 0
               have r40 := hid ((r4.set 0 (.bool true)).eqA (A' := #[.bool true]) (by simp))
               have bel9 := hid (bel.setCell (p := ⟨w.heap.size + 1, 0, none⟩) (by show w.heap.size ≤ w.heap.size + 1; omega) (.bool true))
               clear hB hM0 r4 bel)
  exact leave_none ⟨_, results_cell1 rfl _ _ (w.heap.size + 1) _ rfl (r40.out.cell (j := 0) rfl) Tryz.underlying4, rfl, bel9.out⟩
theorem catalogTable_row (a0 : ByteArray) (a1 : Int) (_ : a0.size ≤ 140737488351232) (w1 : (Lit.int .u8 a1).wf = true) (w : World) (hM : MaxVar w) : Calls Tryz.prog 8 #[.string a0, .int .u8 a1] w fun e w' => e = .returned (.bool true) ∧ Below w.heap.size w w' := by
  obtain ⟨p1, q1⟩ := bounds_u8 w1
  obtain ⟨n, rfl⟩ := Int.eq_ofNat_of_zero_le p1
  by_cases h : a0.size ≤ 100
  · exact table_core a0 n (by omega) h w hM
  · exact table_long a0 n (by omega) (by omega) w hM
end Go.Proofs.YtdjlpmelmhhooaaGreatDoor
