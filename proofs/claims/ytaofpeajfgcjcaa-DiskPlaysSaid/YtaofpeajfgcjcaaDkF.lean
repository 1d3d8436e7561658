/- Disk: a disk in memory; Read, whole. -/
import Derived.Test.YtaofpeajfgcjcaaDkE
namespace Go.Proofs.Ytaofpeajfgcjcaa
open Go Go.RowKit Go.Maps
set_option linter.unusedSimpArgs false
set_option linter.unusedVariables false

/-- What hangs: an element's cells. -/
def wrA (p : Nat × Blk) : Array Value := #[.int .i64 (p.1 : Nat)] ++ blkA p.2
theorem wrA_size (p : Nat × Blk) : (wrA p).size = 129 := by simp [wrA, blkA_size]
theorem wrA_one (p : Nat × Blk) : (wrA p).all (·.oneCell') = true := by
  have := blkA_one p.2
  rw [Array.all_eq_true_iff_forall_mem] at this ⊢
  intro v hv
  rcases Array.mem_append.1 hv with hv | hv
  · have : v = .int .i64 (p.1 : Nat) := by simpa using hv
    subst this; rfl
  · exact this v hv
def hangA (hs : List (Nat × Blk)) : List Value := hs.flatMap fun p => (wrA p).toList
theorem hangA_nil : hangA [] = [] := rfl
theorem hangA_snoc (hs : List (Nat × Blk)) (p : Nat × Blk) : hangA (hs ++ [p]) = hangA hs ++ (wrA p).toList := by simp [hangA]
theorem hangA_length (hs : List (Nat × Blk)) : (hangA hs).length = hs.length * 129 := by
  induction hs with
  | nil => rfl
  | cons p hs ih => simp only [hangA, List.flatMap_cons, List.length_append, List.length_cons] at *; rw [ih, Array.length_toList, wrA_size]; omega
theorem hangA_get (hs : List (Nat × Blk)) (i : Nat) (p : Nat × Blk) (hi : hs[i]? = some p) (j : Nat) (hj : j < 129) : (hangA hs)[i * 129 + j]? = (wrA p)[j]? := by
  induction hs generalizing i with
  | nil => simp at hi
  | cons q hs ih =>
    simp only [hangA, List.flatMap_cons] at *
    cases i with
    | zero =>
      obtain rfl : q = p := by simpa using hi
      rw [List.getElem?_append_left (by rw [Array.length_toList, wrA_size]; omega)]
      simp
    | succ i =>
      rw [List.getElem?_append_right (by rw [Array.length_toList, wrA_size]; omega), Array.length_toList, wrA_size, show (i + 1) * 129 + j - 129 = i * 129 + j by omega]
      exact ih i (by simpa using hi)
attribute [irreducible] wrA

/-- **A DISK IN MEMORY.** d: the struct; L: what lasts; M: the map of what is shown; v: the slice of what hangs. -/
structure DiskAt (w : World) (d L M : Nat) (v : Value) (S : DS) : Prop where
  row : RowAt w d 57 (diskA L S.n v M S.steps S.fuse S.down)
  lasts : RowAt w L 32 (lastsA S.n S.lasts)
  shown : ∃ D, Shown w M S.hangs.length D ∧ Agrees S.hangs D
  hangs : w.ownsRow 0 60 129 v S.hangs.length (hangA S.hangs)
  size : 1 ≤ S.n ∧ S.n ≤ 4096
  inn : ∀ p ∈ S.hangs, p.1 < S.n
  ne : d ≠ L ∧ d ≠ M ∧ L ≠ M ∧ ∀ g, v.ownBlock = some g → g ≠ d ∧ g ≠ L ∧ g ≠ M
/-- The blocks of a disk. -/
def footD (d L M : Nat) (v : Value) (k : Nat) : Prop := k = d ∨ k = L ∨ k = M ∨ v.ownBlock = some k
theorem DiskAt.lt {w : World} {d L M : Nat} {v : Value} {S : DS} (h : DiskAt w d L M v S) : ∀ k, footD d L M v k → k < w.heap.size := by
  rintro k (rfl | rfl | rfl | hk)
  · exact h.row.lt
  · exact h.lasts.lt
  · obtain ⟨D, hs, _⟩ := h.shown; exact hs.lt
  · exact (World.ownsRow.lt h.hangs k hk).2
theorem Shown.kept {T : Nat → Prop} {w w' : World} {M n : Nat} {D : DataW Value} (h : Shown w M n D) (hk : Kept T w w') (hM : ¬ T M) : Shown w' M n D := by
  obtain ⟨es, clock, hb, hF, hn, hD⟩ := h
  exact ⟨es, clock, (hk.block M (Array.getElem?_eq_some_iff.1 hb).1 hM).trans hb, hF, hn, hD⟩
theorem ownsRow_kept {T : Nat → Prop} {w w' : World} {base sz n : Nat} {e : TypeId} {v : Value} {xs : List Value} (h : w.ownsRow base e sz v n xs) (hk : Kept T w w') (hT : ∀ g, v.ownBlock = some g → ¬ T g) : w'.ownsRow base e sz v n xs := by
  refine ⟨h.1, h.2.imp id ?_⟩
  rintro ⟨g, cap, cur, hv, hb, hg, r⟩
  have hlt : g < w.heap.size := (Array.getElem?_eq_some_iff.1 hg).1
  exact ⟨g, cap, cur, hv, hb, (hk.block g hlt (hT g (by rw [hv]; rfl))).trans hg, r⟩
theorem DiskAt.kept {T : Nat → Prop} {w w' : World} {d L M : Nat} {v : Value} {S : DS} (h : DiskAt w d L M v S) (hk : Kept T w w') (hT : ∀ k, footD d L M v k → ¬ T k) : DiskAt w' d L M v S := by
  obtain ⟨D, hs, hA⟩ := h.shown
  exact ⟨hk.row h.row (hT _ (.inl rfl)), hk.row h.lasts (hT _ (.inr (.inl rfl))), ⟨D, hs.kept hk (hT _ (.inr (.inr (.inl rfl)))), hA⟩, ownsRow_kept h.hangs hk (fun g hg => hT _ (.inr (.inr (.inr hg)))), h.size, h.inn, h.ne⟩
/-- A disk whose blocks are F. -/
def Dk (w : World) (F : Nat → Prop) (d : Nat) (S : DS) : Prop := ∃ L M v, DiskAt w d L M v S ∧ ∀ k, F k ↔ footD d L M v k
theorem Dk.lt {w : World} {F : Nat → Prop} {d : Nat} {S : DS} (h : Dk w F d S) : ∀ k, F k → k < w.heap.size := by
  obtain ⟨L, M, v, hd, hF⟩ := h
  exact fun k hk => hd.lt k ((hF k).1 hk)
theorem Dk.kept {T : Nat → Prop} {w w' : World} {F : Nat → Prop} {d : Nat} {S : DS} (h : Dk w F d S) (hk : Kept T w w') (hT : ∀ k, F k → ¬ T k) : Dk w' F d S := by
  obtain ⟨L, M, v, hd, hF⟩ := h
  exact ⟨L, M, v, hd.kept hk (fun k hk' => hT k ((hF k).2 hk')), hF⟩
theorem Dk.below {w w' : World} {F : Nat → Prop} {d : Nat} {S : DS} (h : Dk w F d S) (hb : Below w.heap.size w w') : Dk w' F d S := h.kept (Kept.of_below (S := fun _ => False) hb) (fun _ _ h => h)
theorem Dk.alloc {w : World} {F : Nat → Prop} {d : Nat} {S : DS} (h : Dk w F d S) (o : Obj) : Dk (w.alloc o) F d S := h.below (below_al (Below.refl _ _) _)
theorem Dk.mem {w : World} {F : Nat → Prop} {d : Nat} {S : DS} (h : Dk w F d S) : F d := by
  obtain ⟨L, M, v, hd, hF⟩ := h
  exact (hF d).2 (.inl rfl)
/-- A disk behind what was done to it: it turned no block but its own, and has none but its own and new ones. -/
def DkTo (w : World) (F : Nat → Prop) (d : Nat) (S' : DS) (w' : World) : Prop := ∃ F', Dk w' F' d S' ∧ Kept F w w' ∧ ∀ k, F' k → F k ∨ w.heap.size ≤ k
theorem Dk.to {w w' : World} {F : Nat → Prop} {d : Nat} {S : DS} (h : Dk w F d S) (hb : Below w.heap.size w w') : DkTo w F d S w' := ⟨F, h.below hb, Kept.of_below hb, fun k hk => .inl hk⟩
theorem wf_nat {n : Nat} (h : n < 9223372036854775808) : (Lit.int .i64 (n : Int)).wf = true := WalkArith.wf_i64 (by omega)

/-- **READ.** -/
theorem read_any {F : Nat → Prop} {d : Nat} {S : DS} {w : World} (h : Dk w F d S) (a : Int) (ha : (Lit.int .i64 a).wf = true) :
    Calls Try.prog 15 #[.pointer (some ⟨d, 0, none⟩), .int .i64 a] w fun e w' => e = .returned (.tuple #[.agg (blkA (S.read a).1), .int .i64 (S.read a).2]) ∧ Below w.heap.size w w' := by
  obtain ⟨L, M, v, hd, hF⟩ := h
  by_cases hm : S.mayE a = 0
  · have hr : S.read a = (S.look a, 0) := by simp [DS.read, hm]
    rw [hr]
    obtain ⟨hdn, h0, hlt⟩ := mayN_zero hm
    have hmay : ∀ o, Calls Try.prog 24 #[.pointer (some ⟨d, 0, none⟩), .int .i64 a] (w.alloc o) fun e w' => e = .returned (.int .i64 0) ∧ w.alloc o = w' := fun o => by
      have := may_any d L S.n v M S.steps S.fuse S.down a (w.alloc o) (hd.row.alloc o)
      rw [show mayN S.down S.n a = 0 from hm] at this
      exact this
    obtain ⟨D, hs, hA⟩ := hd.shown
    have hAa := hA a ha
    unfold DS.look
    cases hsh : shownZ S.hangs a with
    | some b =>
      rw [hsh] at hAa
      exact read_shown d L S.n _ v M S.steps S.fuse S.down D (blkA b) (blkA_size b) (blkA_one b) a ha (hAa.2 _) hAa.1 w hd.row hs hmay
    | none =>
      rw [hsh] at hAa
      obtain ⟨k, rfl⟩ : ∃ k : Nat, a = (k : Int) := ⟨a.toNat, by omega⟩
      exact read_lasts d L S.n _ v M S.steps S.fuse S.down D (blkA (secOf S.lasts k)) (blkA_size _) (blkA_one _) k hd.size.2 (by omega) ha hAa.2 hAa.1 w hd.row hs (lasts_range hd.lasts k (by omega)) hmay
  · have hr : S.read a = (fun _ => 0, S.mayE a) := by simp [DS.read, hm]
    rw [hr, ← zero_blkA]
    exact (read_bad (some ⟨d, 0, none⟩) a (S.mayE a) hm w (fun o => may_any d L S.n v M S.steps S.fuse S.down a (w.alloc o) (hd.row.alloc o))).mono (fun e w' he => ⟨he.1, by rw [he.2]; exact below_al (Below.refl _ _) _⟩)
end Go.Proofs.Ytaofpeajfgcjcaa
