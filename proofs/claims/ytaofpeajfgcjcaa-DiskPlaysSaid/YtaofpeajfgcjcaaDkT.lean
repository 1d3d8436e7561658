/- Disk: acts; rows of blocks; what a script leaves. -/
import Derived.Test.YtaofpeajfgcjcaaDkS
import Derived.Test.YtaofpeajfgcjcaaRcs
namespace Go.Proofs.Ytaofpeajfgcjcaa
open Go Go.RowKit Go.Maps
set_option linter.unusedSimpArgs false
set_option linter.unusedVariables false

/-- What is done: Do, At, B. -/
abbrev ActT := Int × Int × UInt8
def actV (q : ActT) : List Value := [.int .i64 q.1, .int .i64 q.2.1, .int .u8 (q.2.2.toNat : Nat)]
abbrev K3 : List FK := [.int .i64, .int .i64, .int .u8]
def actOk (q : ActT) : Prop := (Lit.int .i64 q.1).wf = true ∧ (Lit.int .i64 q.2.1).wf = true
/-- A slice of acts. -/
def IsActs (w : World) (a : Option Addr) (len : Nat) (qs : List ActT) : Prop := IsRecs K3 w a len (qs.map actV) ∧ ∀ q ∈ qs, actOk q
theorem acts_of {w : World} {a : Option Addr} {len : Nat} {rs : List (List Value)} (h : IsRecs K3 w a len rs) : ∃ qs, IsActs w a len qs := by
  have each : ∀ r ∈ rs, ∃ q : ActT, r = actV q ∧ actOk q := by
    intro r hr
    obtain ⟨i, hi⟩ := List.getElem?_of_mem hr
    obtain ⟨⟨hl, hk⟩, _⟩ := h.at hi
    match r, hl with
    | [x, y, z], _ =>
      obtain ⟨n0, rfl, w0⟩ := hk 0 _ _ rfl rfl
      obtain ⟨n1, rfl, w1⟩ := hk 1 _ _ rfl rfl
      obtain ⟨n2, rfl, w2⟩ := hk 2 _ _ rfl rfl
      obtain ⟨b1, b2⟩ := bounds_u8 w2
      refine ⟨(n0, n1, UInt8.ofNat n2.toNat), ?_, w0, w1⟩
      have e : ((UInt8.ofNat n2.toNat).toNat : Int) = n2 := by rw [UInt8.toNat_ofNat']; omega
      simp only [actV, e]
  have key : ∀ rs : List (List Value), (∀ r ∈ rs, ∃ q : ActT, r = actV q ∧ actOk q) → ∃ qs : List ActT, rs = qs.map actV ∧ ∀ q ∈ qs, actOk q := by
    intro rs
    induction rs with
    | nil => intro _; exact ⟨[], rfl, fun q hq => (by cases hq)⟩
    | cons r rs ih =>
      intro hh
      obtain ⟨q, h1, h2⟩ := hh r (.head _)
      obtain ⟨qs, h3, h4⟩ := ih (fun r hr => hh r (.tail _ hr))
      exact ⟨q :: qs, by rw [h1, h3]; rfl, fun x hx => by
        cases hx with
        | head => exact h2
        | tail _ hx => exact h4 x hx⟩
  obtain ⟨qs, h1, h2⟩ := key rs each
  subst h1
  exact ⟨qs, h, h2⟩
theorem IsActs.len {w : World} {a : Option Addr} {len : Nat} {qs : List ActT} (h : IsActs w a len qs) : qs.length = len := by have := h.1.len; simpa using this
theorem IsActs.below {w w' : World} {a : Option Addr} {len : Nat} {qs : List ActT} (h : IsActs w a len qs) (hB : Below w.heap.size w w') : IsActs w' a len qs := ⟨h.1.below hB, h.2⟩
theorem IsActs.at {w : World} {a : Option Addr} {len : Nat} {qs : List ActT} (h : IsActs w a len qs) {i : Nat} {q : ActT} (hi : qs[i]? = some q) : actOk q ∧ ∃ x, a = some x ∧ ∀ (j : Nat) (v : Value), (actV q)[j]? = some v → w.cell? ((x.add (i * 3)).add j) = some v := by
  obtain ⟨_, x, hx, hc⟩ := h.1.at (i := i) (r := actV q) (by rw [List.getElem?_map, hi]; rfl)
  exact ⟨h.2 q (List.mem_of_getElem? hi), x, hx, fun j v hj => by rw [Deep.add_add]; exact hc j v hj⟩
/-- What a script of writes leaves. -/
def DS.runW (S : DS) (qs : List ActT) : DS := qs.foldl (fun S q => (S.write q.2.1 (fillB q.2.2)).2) S
theorem runW_snoc (S : DS) (qs : List ActT) (q : ActT) : S.runW (qs ++ [q]) = ((S.runW qs).write q.2.1 (fillB q.2.2)).2 := by simp [DS.runW]
/-- Without a fuse, and few steps. -/
structure DS.Calm (S : DS) (n k : Nat) : Prop where
  n : S.n = n
  f : S.fuse = -1
  s1 : 0 ≤ S.steps
  s2 : S.steps ≤ k
  h : S.hangs.length ≤ k
  d : S.down = false
theorem DS.Calm.ok {S : DS} {n k : Nat} (h : S.Calm n k) (hk : k ≤ 1000) : S.Ok := ⟨by rw [h.f]; decide, by rw [h.f]; decide, h.s1, by have := h.s2; omega, by have := h.h; omega⟩
theorem burn_off : burn (-1) = -1 := by decide
theorem DS.Calm.write {S : DS} {n k : Nat} (h : S.Calm n k) (a : Int) (b : Blk) : (S.write a b).2.Calm n (k + 1) := by
  unfold DS.write
  have hf := h.f
  have hs1 := h.s1
  have hs2 := h.s2
  have hh := h.h
  split
  · exact ⟨h.n, h.f, h.s1, by show S.steps ≤ _; push_cast; omega, by show S.hangs.length ≤ _; omega, h.d⟩
  · rw [if_neg (by rw [h.f]; decide)]
    exact ⟨h.n, by show burn S.fuse = -1; rw [h.f, burn_off], by show 0 ≤ S.steps + 1; omega, by show S.steps + 1 ≤ _; push_cast; omega, by show (S.hangs ++ _).length ≤ _; simp; omega, h.d⟩
theorem DS.Calm.sync {S : DS} {n k : Nat} (h : S.Calm n k) : (S.sync).2.Calm n (k + 1) := by
  unfold DS.sync
  have hs1 := h.s1
  have hs2 := h.s2
  have hh := h.h
  split
  · exact ⟨h.n, h.f, h.s1, by show S.steps ≤ _; push_cast; omega, by show S.hangs.length ≤ _; omega, h.d⟩
  · rw [if_neg (by rw [h.f]; decide)]
    exact ⟨h.n, by show burn S.fuse = -1; rw [h.f, burn_off], by show 0 ≤ S.steps + 1; omega, by show S.steps + 1 ≤ _; push_cast; omega, by show ([] : List (Nat × Blk)).length ≤ _; simp, h.d⟩
theorem DS.Calm.crash {S : DS} {n k : Nat} (h : S.Calm n k) (keep : Int) : (S.crash keep).Calm n k := ⟨h.n, rfl, h.s1, h.s2, by simp [DS.crash], rfl⟩
theorem DS.Calm.new (n : Nat) : (DS.new n).Calm n 0 := ⟨rfl, rfl, by simp [DS.new], by simp [DS.new], by simp [DS.new], rfl⟩
theorem DS.Calm.runW {S : DS} {n k : Nat} (h : S.Calm n k) (qs : List ActT) : (S.runW qs).Calm n (k + qs.length) := by
  refine snoc_ind (p := fun qs => (S.runW qs).Calm n (k + qs.length)) (by simpa [DS.runW] using h) (fun l a ih => ?_) qs
  rw [runW_snoc, List.length_append, List.length_singleton, ← Nat.add_assoc]
  exact ih.write _ _
theorem DS.Calm.mayE {S : DS} {n k : Nat} (h : S.Calm n k) (a : Nat) (ha : a < n) : S.mayE (a : Int) = 0 := by
  unfold DS.mayE mayN
  rw [h.d, h.n]
  simp only [Bool.false_eq_true, if_false]
  rw [if_neg (by omega)]

/-- The cells of a row of blocks. -/
def blksA (bs : List Blk) : List Value := bs.flatMap fun b => (blkA b).toList
theorem blksA_snoc (bs : List Blk) (b : Blk) : blksA (bs ++ [b]) = blksA bs ++ (blkA b).toList := by simp [blksA]
theorem blksA_length (bs : List Blk) : (blksA bs).length = bs.length * 128 := by
  induction bs with
  | nil => rfl
  | cons b bs ih => simp only [blksA, List.flatMap_cons, List.length_append, List.length_cons] at *; rw [ih, Array.length_toList, blkA_size]; omega
theorem blksA_get (bs : List Blk) (i : Nat) (b : Blk) (hi : bs[i]? = some b) (j : Nat) (hj : j < 128) : (blksA bs)[i * 128 + j]? = (blkA b)[j]? := by
  induction bs generalizing i with
  | nil => simp at hi
  | cons q bs ih =>
    simp only [blksA, List.flatMap_cons] at *
    cases i with
    | zero =>
      obtain rfl : q = b := by simpa using hi
      rw [List.getElem?_append_left (by rw [Array.length_toList, blkA_size]; omega)]
      simp
    | succ i =>
      rw [List.getElem?_append_right (by rw [Array.length_toList, blkA_size]; omega), Array.length_toList, blkA_size, show (i + 1) * 128 + j - 128 = i * 128 + j by omega]
      exact ih i (by simpa using hi)
theorem blksA_set (bs : List Blk) (i : Nat) (b : Blk) (hi : i < bs.length) : (blksA bs).take (i * 128) ++ (blkA b).toList ++ (blksA bs).drop (i * 128 + 128) = blksA (bs.set i b) := by
  induction bs generalizing i with
  | nil => simp at hi
  | cons q bs ih =>
    have hq : (blkA q).toList.length = 128 := by rw [Array.length_toList, blkA_size]
    cases i with
    | zero =>
      simp only [blksA, List.flatMap_cons, List.set_cons_zero, Nat.zero_mul, List.take_zero, List.nil_append, Nat.zero_add]
      rw [List.drop_append, hq]
      simp [hq]
    | succ i =>
      have := ih i (by simpa using hi)
      simp only [blksA, List.flatMap_cons, List.set_cons_succ] at this ⊢
      rw [← this, List.take_append, List.drop_append, hq, show (i + 1) * 128 - 128 = i * 128 by omega, show (i + 1) * 128 + 128 - 128 = i * 128 + 128 by omega]
      rw [List.take_of_length_le (by rw [hq]; omega), List.drop_of_length_le (by rw [hq]; omega)]
      simp
/-- A slice of blocks of the function's own. -/
def IsBlks (w : World) (v : Value) (bs : List Blk) : Prop := w.ownsRow 0 32 128 v bs.length (blksA bs)
theorem IsBlks.kept {T : Nat → Prop} {w w' : World} {v : Value} {bs : List Blk} (h : IsBlks w v bs) (hk : Kept T w w') (hT : ∀ g, v.ownBlock = some g → ¬ T g) : IsBlks w' v bs := ownsRow_kept h hk hT
theorem IsBlks.shape {w : World} {v : Value} {bs : List Blk} (h : IsBlks w v bs) : ∃ q c, v = .slice q bs.length c ∧ (0 < bs.length → ∃ g, q = some ⟨g, 0, none⟩ ∧ v.ownBlock = some g) := by
  rcases h.2 with ⟨h1, h2⟩ | ⟨g, cap, cur, h1, _⟩
  · exact ⟨none, 0, by rw [h1, h2], fun h => by omega⟩
  · exact ⟨_, _, h1, fun _ => ⟨g, rfl, by rw [h1]; rfl⟩⟩
theorem IsBlks.range {w : World} {v : Value} {bs : List Blk} {g i : Nat} {b : Blk} (h : IsBlks w v bs) (hg : v.ownBlock = some g) (hi : bs[i]? = some b) : w.rangeAt g (i * 128) (blkA b).toList := by
  intro j u hj
  have h1 : j < 128 := by have := (List.getElem?_eq_some_iff.1 hj).1; rwa [Array.length_toList, blkA_size] at this
  have h2 := World.ownsRow.cells h hg (i * 128 + j) u (by rw [blksA_get bs i b hi j h1]; rwa [Array.getElem?_toList] at hj)
  rwa [Addr.add_mid, Nat.zero_add] at h2
theorem infoBk : (Try.prog.info? 32).map (fun i => (i.zero.map fun z => z.cells.size, i.size, i.bytes)) = some (some 128, 128, 128) := by kernel_rfl
theorem buildSlice_blk (b : Blk) (w : World) : (Instr.buildSlice 35 1 #[(0, .agg (blkA b))]).run Try.prog w = .ok (.slice (some ⟨w.heap.size, 0, none⟩) 1 1) (w.alloc (.cells (blkA b) 32)) :=
  run_buildSlice1 w _ _ (blkA b) Try.underlying35 (by rw [blkA_size]; kernel_rfl) (by rw [blkA_size]; omega) (by rw [blkA_size]; omega)
theorem splice_take {l c : List Value} {off m : Nat} (h : off + c.length ≤ m) (hl : m ≤ l.length) : (l.take off ++ c ++ l.drop (off + c.length)).take m = (l.take m).take off ++ c ++ (l.take m).drop (off + c.length) := by
  have h1 : (l.take off).length = off := by rw [List.length_take]; omega
  rw [List.take_append, List.take_of_length_le (by rw [List.length_append, h1]; exact h), List.length_append, h1, List.take_take, List.drop_take, show min off m = off by omega]
/-- A block is stored into a row of blocks. -/
theorem IsBlks.put {w : World} {v : Value} {bs : List Blk} {g i : Nat} (h : IsBlks w v bs) (hg : v.ownBlock = some g) (hi : i < bs.length) (b : Blk) :
    ∃ cur, RowAt w g 32 cur ∧ i * 128 + 128 ≤ cur.size ∧ IsBlks (w.setRow g (cur.toList.take (i * 128) ++ (blkA b).toList ++ cur.toList.drop (i * 128 + (blkA b).toList.length)).toArray) v (bs.set i b) := by
  have hbl : (blkA b).toList.length = 128 := by rw [Array.length_toList, blkA_size]
  rcases h.2 with ⟨h1, h2⟩ | ⟨g', cap, cur, hv, hb, hg', hnc, hcm, hcs, htake⟩
  · rw [h1] at hg; cases hg
  · have : g' = g := by rw [hv] at hg; simpa [Value.ownBlock] using hg
    subst this
    have hfit : bs.length * 128 ≤ cur.size := by rw [hcs]; exact Nat.mul_le_mul_right _ hnc
    refine ⟨cur, hg', by omega, ?_⟩
    refine ⟨by rw [blksA_length, List.length_set], .inr ⟨g', cap, _, by rw [List.length_set]; exact hv, hb, setRow_heap w g' cur _ _ _ hg', by rw [List.length_set]; exact hnc, hcm, ?_, ?_⟩⟩
    · simp only [List.size_toArray, List.length_append, List.length_take, List.length_drop, Array.length_toList, hbl]
      omega
    · rw [List.length_set, ← blksA_set bs i b hi, ← htake]
      have := splice_take (l := cur.toList) (c := (blkA b).toList) (off := i * 128) (m := bs.length * 128) (by rw [hbl]; omega) (by rw [Array.length_toList]; exact hfit)
      rw [hbl] at this ⊢
      rw [List.toList_toArray, this]
end Go.Proofs.Ytaofpeajfgcjcaa
