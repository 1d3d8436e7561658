/- Disk: what stands in memory beside a disk, in the laws' walks. -/
import Derived.Test.YtaofpeajfgcjcaaDkU
namespace Go.Proofs.Ytaofpeajfgcjcaa
open Go Go.RowKit Go.Maps
set_option linter.unusedSimpArgs false
set_option linter.unusedVariables false

theorem wp_iter_box {P : Program} {α : Type} {g : Operand} {ps : Array Tmp} {assign body : Code} {Q : Exit → Act → World → Prop} {a : Act} {w : World}
    {gf : Nat} {lb : Array Value} (hg : a.eval g = .func (.func gf) #[] lb) (eg : ∀ args w, (callFunc gf args).run P w = .ok (.enter gf args) w)
    {encs : α → Array Value} {S D : Nat → Prop} {xs : List α} (hit : IterOn P gf lb encs S D xs w) (hSlt : ∀ k, S k → k < w.heap.size) (hDlt : ∀ k, D k → k < w.heap.size) (hps : ∀ x, (encs x).size = ps.size)
    (us : α → Nat → List (Nat × Value)) (R : α → Nat → World → Prop) (hR : ∀ x g W W', R x g W → Kept (fun k => S k ∨ twoOf w.heap.size k) W W' → R x g W') (I : List α → World → Prop) (Ix : Code → List α → World → Prop)
    (hI : ∀ pre W W', I pre W → Kept (fun k => S k ∨ twoOf w.heap.size k) W W' → I pre W') (hIx : ∀ c pre W W', Ix c pre W → Kept (fun k => S k ∨ twoOf w.heap.size k) W W' → Ix c pre W')
    (h0 : I [] w)
    (hassign : ∀ (l : Nat) (pre : List α) (x : α) (W : World) (K : Act → World → Prop), w.heap.size + 2 ≤ W.heap.size → I pre W → (∀ g W', Kept (fun _ => False) W W' → I pre W' → R x g W' → K { tmps := putAll (us x g) ((ps.zip (encs x)).foldl (fun t (p, v) => t.setIfInBounds p v) a.tmps), defers := [] } W') →
      assign.wpIn (Fence.wide.inRound l) 0 P (Exit.then K (fun _ _ _ => False)) { tmps := (ps.zip (encs x)).foldl (fun t (p, v) => t.setIfInBounds p v) a.tmps, defers := [] } W)
    (hbody : ∀ (pre : List α) (x : α) (post : List α) (g : Nat) (W : World), xs = pre ++ x :: post → w.heap.size + 2 ≤ W.heap.size → (∃ r, W.heap[w.heap.size + 1]? = some (.loop r)) → I pre W → R x g W →
      body.wpIn (Fence.wide.inRound (w.heap.size + 1)) 0 P (roundTo (twoOf w.heap.size) D I Ix (pre ++ [x]) W) { tmps := putAll (us x g) ((ps.zip (encs x)).foldl (fun t (p, v) => t.setIfInBounds p v) a.tmps), defers := [] } W)
    (hdone : ∀ W, w.heap.size + 2 ≤ W.heap.size → I xs W → W.heap[w.heap.size]? = some (.deferred (some [])) → Q .normal { a with defers := { target := .collected w.heap.size, args := #[] } :: a.defers } W)
    (hstop : ∀ c pre x post W, w.heap.size + 2 ≤ W.heap.size → xs = pre ++ x :: post → Ix c (pre ++ [x]) W → W.heap[w.heap.size]? = some (.deferred (some [])) → c.wpIn Fence.wide 0 P Q { a with defers := { target := .collected w.heap.size, args := #[] } :: a.defers } W) :
    (Code.rangeFunc g ps assign body).wpIn Fence.wide 0 P Q a w :=
  wp_iter hg eg hit hSlt hDlt hps I Ix hI hIx h0 (fun x a' W => ∃ g, a' = { tmps := putAll (us x g) ((ps.zip (encs x)).foldl (fun t (p, v) => t.setIfInBounds p v) a.tmps), defers := [] } ∧ R x g W) (fun x a' W W' ⟨g, h1, h2⟩ hk => ⟨g, h1, hR x g W W' h2 hk⟩)
    (fun l pre x W K hs hi hK => hassign l pre x W K hs hi fun g W' hk hi' hr => hK _ _ hk hi' ⟨g, rfl, hr⟩) (fun pre x post a' W hx hsz hr hi ⟨g, ha, hg⟩ => by subst ha; exact hbody pre x post g W hx hsz hr hi hg) hdone hstop
theorem opR_append_blk {o : Oper} {a : Act} {W : World} {v : Value} {bs : List Blk} {B : Blk} {g : Nat} (s x : Operand) (ho : o.op = .call { callee := .builtin .append, args := #[s, x], argTypes := #[35, 35] }) (hs : a.eval s = v) (hx : a.eval x = .slice (some ⟨g, 0, none⟩) 1 1)
    (hb : IsBlks W v bs) (hg : RowAt W g 32 (blkA B)) (hlen : bs.length ≤ 1000000) :
    OpR Try.prog o a W fun v' W' => IsBlks W' v' (bs ++ [B]) ∧ Kept (fun k => v.ownBlock = some k) W W' ∧ (∀ g', v'.ownBlock = some g' → v.ownBlock = some g' ∨ W.heap.size ≤ g') ∧ ∃ q c, v' = .slice q (bs.length + 1) c := by
  refine opR_append s x 35 ho 0 32 128 128 Try.underlying35 infoBk (by decide) v bs.length (blksA bs) hs hb ⟨g, 0, none⟩ 1 1 (blkA B).toList hx (by rw [Array.length_toList, blkA_size]) (cells_rangeL hg) (all_list (blkA_one _)) (by simp only [maxLen]; omega) (by omega) (Nat.zero_le _) ?_
  intro v' W' ho hgr hloc
  have ho2 : IsBlks W' v' (bs ++ [B]) := by unfold IsBlks; rw [blksA_snoc, List.length_append, List.length_singleton]; exact ho
  refine ⟨ho2, grown_kept hgr, fun g' hg' => ?_, ?_⟩
  · rcases hloc with h | h
    · exact .inl (by rw [← h]; exact hg')
    · rw [h] at hg'; cases hg'; exact .inr (Nat.le_refl _)
  · obtain ⟨q, c, hq, _⟩ := ho2.shape
    exact ⟨q, c, by rw [hq]; simp⟩
/-- A disk made since w1, the result's box r, and blocks beside (xs: rows; Ds: marks), none of them the disk's. -/
structure Side (w1 W : World) (r d : Nat) (F : Nat → Prop) (S : DS) (xs : List (Nat × TypeId × Array Value)) (Ds : List Nat) : Prop where
  own : Own w1 W F d S
  rr : RowAt W r 4 #[.bool false]
  rlt : r < w1.heap.size
  row : ∀ x ∈ xs, RowAt W x.1 x.2.1 x.2.2 ∧ w1.heap.size ≤ x.1 ∧ ¬ F x.1
  mark : ∀ m ∈ Ds, W.heap[m]? = some (.deferred (some [])) ∧ w1.heap.size ≤ m ∧ ¬ F m
theorem Side.kept {w1 W W' : World} {r d : Nat} {F T : Nat → Prop} {S : DS} {xs : List (Nat × TypeId × Array Value)} {Ds : List Nat} (h : Side w1 W r d F S xs Ds) (hk : Kept T W W') (hge : ∀ k, T k → w1.heap.size ≤ k) (hF : ∀ k, F k → ¬ T k)
    (hx : ∀ x ∈ xs, ¬ T x.1) (hm : ∀ m ∈ Ds, ¬ T m) : Side w1 W' r d F S xs Ds :=
  ⟨h.own.kept hk hF hge, hk.row h.rr (fun ht => by have := hge r ht; have := h.rlt; omega), h.rlt, fun x hx' => ⟨hk.row (h.row x hx').1 (hx x hx'), (h.row x hx').2⟩, fun m hm' => ⟨defer_kept (h.mark m hm').1 hk (hm m hm'), (h.mark m hm').2⟩⟩
theorem Side.below {w1 W W' : World} {r d : Nat} {F : Nat → Prop} {S : DS} {xs : List (Nat × TypeId × Array Value)} {Ds : List Nat} (h : Side w1 W r d F S xs Ds) (hb : Below W.heap.size W W') : Side w1 W' r d F S xs Ds :=
  h.kept (T := fun _ => False) (Kept.of_below hb) (fun _ h => h.elim) (fun _ _ h => h) (fun _ _ h => h) (fun _ _ h => h)
theorem Side.to {w1 W W' : World} {r d : Nat} {F : Nat → Prop} {S S' : DS} {xs : List (Nat × TypeId × Array Value)} {Ds : List Nat} (h : Side w1 W r d F S xs Ds) (ht : DkTo W F d S' W') : ∃ F', Side w1 W' r d F' S' xs Ds ∧ Kept F W W' ∧ ∀ k, F' k → F k ∨ W.heap.size ≤ k := by
  obtain ⟨F', h1, h2, h3⟩ := h.own.to ht
  refine ⟨F', ⟨h1, h2.row h.rr (fun hF => by have := h.own.ge r hF; have := h.rlt; omega), h.rlt, fun x hx => ?_, fun m hm => ?_⟩, h2, h3⟩
  · have hr := h.row x hx
    refine ⟨h2.row hr.1 hr.2.2, hr.2.1, fun hF => ?_⟩
    rcases h3 _ hF with h4 | h4
    · exact hr.2.2 h4
    · have := hr.1.lt; omega
  · have hr := h.mark m hm
    refine ⟨defer_kept hr.1 h2 hr.2.2, hr.2.1, fun hF => ?_⟩
    rcases h3 _ hF with h4 | h4
    · exact hr.2.2 h4
    · have := (Array.getElem?_eq_some_iff.1 hr.1).1; omega
theorem Side.add {w1 W : World} {r d : Nat} {F : Nat → Prop} {S : DS} {xs : List (Nat × TypeId × Array Value)} {Ds : List Nat} (h : Side w1 W r d F S xs Ds) (cs : Array Value) (t : TypeId) : Side w1 (W.alloc (.cells cs t)) r d F S ((W.heap.size, t, cs) :: xs) Ds := by
  have h1 := h.below (below_al (Below.refl _ _) (.cells cs t))
  refine ⟨h1.own, h1.rr, h1.rlt, fun x hx => ?_, h1.mark⟩
  rcases List.mem_cons.1 hx with rfl | hx
  · exact ⟨RowAt.new _ _ _, h.own.bel.size, fun hF => by have := h.own.dk.lt _ hF; omega⟩
  · exact h1.row x hx
theorem Side.drop {w1 W : World} {r d : Nat} {F : Nat → Prop} {S : DS} {xs ys : List (Nat × TypeId × Array Value)} {Ds : List Nat} (h : Side w1 W r d F S xs Ds) (hs : ∀ y ∈ ys, y ∈ xs) : Side w1 W r d F S ys Ds := ⟨h.own, h.rr, h.rlt, fun x hx => h.row x (hs x hx), h.mark⟩
theorem Side.markAdd {w1 W : World} {r d m : Nat} {F : Nat → Prop} {S : DS} {xs : List (Nat × TypeId × Array Value)} {Ds : List Nat} (h : Side w1 W r d F S xs Ds) (hm : W.heap[m]? = some (.deferred (some []))) (h1 : w1.heap.size ≤ m) (h2 : ¬ F m) : Side w1 W r d F S xs (m :: Ds) :=
  ⟨h.own, h.rr, h.rlt, h.row, fun x hx => by
    rcases List.mem_cons.1 hx with rfl | hx
    · exact ⟨hm, h1, h2⟩
    · exact h.mark x hx⟩
theorem Side.rowAdd {w1 W : World} {r d b : Nat} {F : Nat → Prop} {S : DS} {xs : List (Nat × TypeId × Array Value)} {Ds : List Nat} {t : TypeId} {A : Array Value} (h : Side w1 W r d F S xs Ds) (hb : RowAt W b t A) (h1 : w1.heap.size ≤ b) (h2 : ¬ F b) : Side w1 W r d F S ((b, t, A) :: xs) Ds :=
  ⟨h.own, h.rr, h.rlt, fun x hx => by
    rcases List.mem_cons.1 hx with rfl | hx
    · exact ⟨hb, h1, h2⟩
    · exact h.row x hx, h.mark⟩
/-- A slice of blocks beside. -/
structure Was (w1 W : World) (F : Nat → Prop) (v : Value) (bs : List Blk) (not : List Nat) : Prop where
  bk : IsBlks W v bs
  ne : ∀ g, v.ownBlock = some g → w1.heap.size ≤ g ∧ ¬ F g ∧ g ∉ not
theorem Was.kept {w1 W W' : World} {F T : Nat → Prop} {v : Value} {bs : List Blk} {not : List Nat} (h : Was w1 W F v bs not) (hk : Kept T W W') (hT : ∀ g, v.ownBlock = some g → ¬ T g) : Was w1 W' F v bs not := ⟨h.bk.kept hk hT, h.ne⟩
theorem Was.below {w1 W W' : World} {F : Nat → Prop} {v : Value} {bs : List Blk} {not : List Nat} (h : Was w1 W F v bs not) (hb : Below W.heap.size W W') : Was w1 W' F v bs not := h.kept (T := fun _ => False) (Kept.of_below hb) (fun _ _ h => h)
theorem Was.lt {w1 W : World} {F : Nat → Prop} {v : Value} {bs : List Blk} {not : List Nat} (h : Was w1 W F v bs not) : ∀ g, v.ownBlock = some g → g < W.heap.size := fun g hg => (World.ownsRow.lt h.bk g hg).2
theorem Was.more {w1 W : World} {F : Nat → Prop} {v : Value} {bs : List Blk} {not not' : List Nat} (h : Was w1 W F v bs not) (hs : ∀ g, v.ownBlock = some g → g ∉ not') : Was w1 W F v bs not' := ⟨h.bk, fun g hg => ⟨(h.ne g hg).1, (h.ne g hg).2.1, hs g hg⟩⟩
/-- A box beside is written. -/
theorem Side.put {w1 W : World} {r d b : Nat} {F : Nat → Prop} {S : DS} {xs : List (Nat × TypeId × Array Value)} {Ds : List Nat} {t : TypeId} {u : Value} (h : Side w1 W r d F S ((b, t, #[u]) :: xs) Ds) (v : Value) (hx : ∀ x ∈ xs, x.1 ≠ b) (hm : ∀ m ∈ Ds, m ≠ b) : Side w1 (W.setCell ⟨b, 0, none⟩ v) r d F S ((b, t, #[v]) :: xs) Ds := by
  have h0 := h.row _ (.head _)
  have hk : Kept (fun k => k = b) W (W.setCell ⟨b, 0, none⟩ v) := (Kept.refl (· = b) _).setCell ⟨b, 0, none⟩ (.inl rfl) _
  have h1 := (h.drop (ys := xs) (fun y hy => .tail _ hy)).kept hk (fun k e => by rw [e]; exact h0.2.1) (fun k hF e => h0.2.2 (by rw [← e]; exact hF)) hx hm
  exact h1.rowAdd ((h0.1.set 0 v).eqA (A' := #[v]) (by simp)) h0.2.1 h0.2.2
theorem Was.to {w1 W W' : World} {F F' : Nat → Prop} {v : Value} {bs : List Blk} {not : List Nat} (h : Was w1 W F v bs not) (hk : Kept F W W') (hF : ∀ k, F' k → F k ∨ W.heap.size ≤ k) : Was w1 W' F' v bs not :=
  ⟨h.bk.kept hk (fun g hg => (h.ne g hg).2.1), fun g hg => ⟨(h.ne g hg).1, fun hf => (hF g hf).elim (h.ne g hg).2.1 (fun h1 => by have := h.lt g hg; omega), (h.ne g hg).2.2⟩⟩
end Go.Proofs.Ytaofpeajfgcjcaa
