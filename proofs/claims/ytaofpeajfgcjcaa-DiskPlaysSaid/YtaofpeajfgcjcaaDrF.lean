/- Both disks: the disk and the document's, in the same state; what an act does to it. -/
import Derived.Test.YtaofpeajfgcjcaaDrE
namespace Go.Proofs.Ytaofpeajfgcjcaa
open Go Go.RowKit Go.Maps
set_option linter.unusedSimpArgs false
set_option linter.unusedVariables false

/-- The disk at d (blocks F) and the document's at q (blocks G) are both S. -/
structure Pair (w : World) (F G : Nat → Prop) (d q : Nat) (S : DS) : Prop where
  dk : Dk w F d S
  rk : Rk w G q S
  dis : ∀ k, F k → ¬ G k
theorem Pair.kept {T : Nat → Prop} {w w' : World} {F G : Nat → Prop} {d q : Nat} {S : DS} (h : Pair w F G d q S) (hk : Kept T w w') (hT : ∀ k, F k ∨ G k → ¬ T k) : Pair w' F G d q S := ⟨h.dk.kept hk (fun k hf => hT k (.inl hf)), h.rk.kept hk (fun k hg => hT k (.inr hg)), h.dis⟩
theorem Pair.below {w w' : World} {F G : Nat → Prop} {d q : Nat} {S : DS} (h : Pair w F G d q S) (hb : Below w.heap.size w w') : Pair w' F G d q S := ⟨h.dk.below hb, h.rk.below hb, h.dis⟩
theorem Pair.lt {w : World} {F G : Nat → Prop} {d q : Nat} {S : DS} (h : Pair w F G d q S) : ∀ k, F k ∨ G k → k < w.heap.size := fun k hk => hk.elim (h.dk.lt k) (h.rk.lt k)
/-- The first of the two is done. -/
def Mid (w : World) (F G : Nat → Prop) (d q : Nat) (S S' : DS) (W : World) : Prop := ∃ F', Dk W F' d S' ∧ Rk W G q S ∧ (∀ k, F' k → ¬ G k) ∧ ∀ k, F' k → F k ∨ w.heap.size ≤ k
theorem Mid.below {w W W' : World} {F G : Nat → Prop} {d q : Nat} {S S' : DS} (h : Mid w F G d q S S' W) (hb : Below W.heap.size W W') : Mid w F G d q S S' W' := by
  obtain ⟨F', h1, h2, h3, h4⟩ := h
  exact ⟨F', h1.below hb, h2.below hb, h3, h4⟩
theorem Pair.mid {w W W2 : World} {F G : Nat → Prop} {d q : Nat} {S S' : DS} (h : Pair w F G d q S) (hb : Below w.heap.size w W) (ht : DkTo W F d S' W2) : Mid w F G d q S S' W2 := by
  obtain ⟨F', h1, h2, h3⟩ := ht
  refine ⟨F', h1, (h.rk.below hb).kept h2 (fun k hg hf => h.dis k hf hg), fun k hf' hg => ?_, fun k hf' => (h3 k hf').imp id (Nat.le_trans hb.size)⟩
  rcases h3 k hf' with hf | hge
  · exact h.dis k hf hg
  · have := h.rk.lt k hg
    have := hb.size
    omega
/-- Both are done. -/
def Fin (w : World) (F G : Nat → Prop) (d q : Nat) (S' : DS) (W : World) : Prop := ∃ F' G', Pair W F' G' d q S' ∧ ∀ k, F' k ∨ G' k → F k ∨ G k ∨ w.heap.size ≤ k
theorem Fin.below {w W W' : World} {F G : Nat → Prop} {d q : Nat} {S' : DS} (h : Fin w F G d q S' W) (hb : Below W.heap.size W W') : Fin w F G d q S' W' := by
  obtain ⟨F', G', h1, h2⟩ := h
  exact ⟨F', G', h1.below hb, h2⟩
theorem Mid.fin {w W W2 : World} {F G : Nat → Prop} {d q : Nat} {S S' : DS} (h : Mid w F G d q S S' W) (hsz : w.heap.size ≤ W.heap.size) (ht : RkTo W G q S' W2) : Fin w F G d q S' W2 := by
  obtain ⟨F', h1, h2, h3, h4⟩ := h
  obtain ⟨G', g1, g2, g3⟩ := ht
  refine ⟨F', G', ⟨h1.kept g2 h3, g1, fun k hf hg => ?_⟩, fun k hk => ?_⟩
  · rcases g3 k hg with hg | hge
    · exact h3 k hf hg
    · have := h1.lt k hf
      omega
  · rcases hk with hf | hg
    · exact (h4 k hf).imp id .inr
    · exact .inr ((g3 k hg).imp id (Nat.le_trans hsz))
def PairTo (w : World) (F G : Nat → Prop) (d q : Nat) (S' : DS) (w' : World) : Prop := Fin w F G d q S' w' ∧ Kept (fun k => F k ∨ G k) w w'
theorem PairTo.at {w : World} {F G : Nat → Prop} {d q : Nat} {S' : DS} {w' : World} (h : PairTo w F G d q S' w') : ∃ F' G', Pair w' F' G' d q S' ∧ Kept (fun k => F k ∨ G k) w w' ∧ ∀ k, F' k ∨ G' k → F k ∨ G k ∨ w.heap.size ≤ k := by
  obtain ⟨⟨F', G', h1, h2⟩, h3⟩ := h
  exact ⟨F', G', h1, h3, h2⟩
theorem Pair.both {w w1 w2 w3 : World} {F G : Nat → Prop} {d q : Nat} {S S' : DS} (h : Pair w F G d q S) (hb : Below w.heap.size w w1) (h1 : DkTo w1 F d S' w2) (h2 : RkTo w2 G q S' w3) : PairTo w F G d q S' w3 := by
  have hm := h.mid hb h1
  obtain ⟨F', _, k1, _⟩ := id h1
  obtain ⟨G', _, k2, _⟩ := id h2
  exact ⟨hm.fin (Nat.le_trans hb.size k1.size) h2, (Kept.of_below hb).trans ((k1.mono fun k _ h => .inl h).trans (k2.mono fun k _ h => .inr h))⟩
/-- One act. -/
def DS.act (S : DS) (q : ActT) : DS :=
  if q.1.tmod 5 = 1 ∨ q.1.tmod 5 = -1 then (S.sync).2 else if q.1.tmod 5 = 2 ∨ q.1.tmod 5 = -2 then S else if q.1.tmod 5 = 3 ∨ q.1.tmod 5 = -3 then S.setFuse q.2.1
  else if q.1.tmod 5 = 4 ∨ q.1.tmod 5 = -4 then S.crash q.2.1 else (S.write q.2.1 (fillB q.2.2)).2
def DS.play (S : DS) (qs : List ActT) : DS := qs.foldl DS.act S
theorem play_snoc (S : DS) (qs : List ActT) (q : ActT) : S.play (qs ++ [q]) = (S.play qs).act q := by simp [DS.play]
/-- What is sure of its numbers. -/
structure DS.Bnd (S : DS) (n k : Nat) : Prop where
  n : S.n = n
  f1 : -1 ≤ S.fuse
  f2 : S.fuse ≤ 9223372036854775807
  s1 : 0 ≤ S.steps
  s2 : S.steps ≤ k
  h : S.hangs.length ≤ k
theorem DS.Bnd.ok {S : DS} {n k : Nat} (h : S.Bnd n k) (hk : k ≤ 1000) : S.Ok := ⟨h.f1, h.f2, h.s1, by have := h.s2; omega, by have := h.h; omega⟩
theorem DS.Bnd.more {S : DS} {n k : Nat} (h : S.Bnd n k) : S.Bnd n (k + 1) := ⟨h.n, h.f1, h.f2, h.s1, by have := h.s2; push_cast; omega, by have := h.h; omega⟩
theorem burn_bnd {f : Int} (h1 : -1 ≤ f) (h2 : f ≤ 9223372036854775807) (h0 : f ≠ 0) : -1 ≤ burn f ∧ burn f ≤ 9223372036854775807 := by unfold burn; omega
theorem DS.Bnd.burnt {S : DS} {n k : Nat} (h : S.Bnd n k) : S.burnt.Bnd n k := ⟨h.n, h.f1, h.f2, h.s1, h.s2, h.h⟩
theorem DS.Bnd.new (n : Nat) : (DS.new n).Bnd n 0 := ⟨rfl, by simp [DS.new], by simp [DS.new], by simp [DS.new], by simp [DS.new], by simp [DS.new]⟩
theorem DS.Bnd.write {S : DS} {n k : Nat} (h : S.Bnd n k) (a : Int) (b : Blk) : (S.write a b).2.Bnd n (k + 1) := by
  unfold DS.write
  split
  · exact h.more
  · split
    · exact h.burnt.more
    · rename_i h0
      have hb := burn_bnd h.f1 h.f2 h0
      have := h.s1; have := h.s2; have := h.h
      exact ⟨h.n, hb.1, hb.2, by show 0 ≤ S.steps + 1; omega, by show S.steps + 1 ≤ _; push_cast; omega, by show (S.hangs ++ _).length ≤ _; simp; omega⟩
theorem DS.Bnd.sync {S : DS} {n k : Nat} (h : S.Bnd n k) : (S.sync).2.Bnd n (k + 1) := by
  unfold DS.sync
  split
  · exact h.more
  · split
    · exact h.burnt.more
    · rename_i h0
      have hb := burn_bnd h.f1 h.f2 h0
      have := h.s1; have := h.s2; have := h.h
      exact ⟨h.n, hb.1, hb.2, by show 0 ≤ S.steps + 1; omega, by show S.steps + 1 ≤ _; push_cast; omega, by show ([] : List (Nat × Blk)).length ≤ _; simp⟩
theorem DS.Bnd.act {S : DS} {n k : Nat} (h : S.Bnd n k) (q : ActT) (hq : actOk q) : (S.act q).Bnd n (k + 1) := by
  have hb := bounds_i64 hq.2
  unfold DS.act
  split
  · exact h.sync
  · split
    · exact h.more
    · split
      · have := h.more
        exact ⟨this.n, by show -1 ≤ max q.2.1 (-1); omega, by show max q.2.1 (-1) ≤ _; omega, this.s1, this.s2, this.h⟩
      · split
        · have := h.more
          exact ⟨this.n, by show (-1 : Int) ≤ -1; omega, by show (-1 : Int) ≤ _; omega, this.s1, this.s2, by show ([] : List (Nat × Blk)).length ≤ _; simp⟩
        · exact h.write _ _
theorem DS.Bnd.play {S : DS} {n k : Nat} (h : S.Bnd n k) (qs : List ActT) (hq : ∀ q ∈ qs, actOk q) : (S.play qs).Bnd n (k + qs.length) := by
  revert hq
  refine snoc_ind (p := fun qs => (∀ q ∈ qs, actOk q) → (S.play qs).Bnd n (k + qs.length)) (fun _ => by simpa [DS.play] using h) (fun l a ih hq => ?_) qs
  rw [play_snoc, List.length_append, List.length_singleton, ← Nat.add_assoc]
  exact (ih fun q hq' => hq q (by simp [hq'])).act _ (hq a (by simp))
end Go.Proofs.Ytaofpeajfgcjcaa
