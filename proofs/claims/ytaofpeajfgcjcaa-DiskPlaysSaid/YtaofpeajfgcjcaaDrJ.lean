/- Disk: Same. -/
import Derived.Test.YtaofpeajfgcjcaaDrI
namespace Go.Proofs.Ytaofpeajfgcjcaa
open Go Go.RowKit Go.Maps
set_option linter.unusedSimpArgs false
set_option linter.unusedVariables false

theorem func_some (g : Nat) (b : Array Value) (W : World) : (binOp .eql 37 (.func (.func g) #[] b) .nilFunc).run Try.prog W = .ok (.bool false) W := by kernel_rfl
attribute [local go_sem] Oper.semAt_some
/-- What stands in Same's rounds. -/
structure SmI (w W : World) (F G : Nat → Prop) (d p : Nat) (S : DS) (n : Nat) : Prop where
  pr : Pair W F G d p S
  bel : Below w.heap.size w W
  rbd : RowAt W w.heap.size 24 #[.pointer (some ⟨d, 0, none⟩)]
  rbq : RowAt W (w.heap.size + 1) 45 #[.pointer (some ⟨p, 0, none⟩)]
  rbr : RowAt W (w.heap.size + 2) 4 #[.bool false]
  rbn : RowAt W (w.heap.size + 4) 3 #[.int .i64 (n : Nat)]
theorem SmI.kept {T : Nat → Prop} {w W W' : World} {F G : Nat → Prop} {d p n : Nat} {S : DS} (h : SmI w W F G d p S n) (hlt : ∀ k, F k ∨ G k → k < w.heap.size) (hk : Kept T W W') (hT : ∀ k, T k → w.heap.size + 5 ≤ k) : SmI w W' F G d p S n :=
  ⟨h.pr.kept hk (fun k hf ht => by have := hlt k hf; have := hT k ht; omega), below_kept h.bel hk (Nat.le_refl _) (fun k ht => by have := hT k ht; omega),
   hk.row h.rbd (fun ht => by have := hT _ ht; omega), hk.row h.rbq (fun ht => by have := hT _ ht; omega), hk.row h.rbr (fun ht => by have := hT _ ht; omega), hk.row h.rbn (fun ht => by have := hT _ ht; omega)⟩
theorem SmI.below {w W W' : World} {F G : Nat → Prop} {d p n : Nat} {S : DS} (h : SmI w W F G d p S n) (hb : Below W.heap.size W W') : SmI w W' F G d p S n :=
  ⟨h.pr.below hb, below_cat hb h.bel, h.rbd.below hb h.rbd.lt, h.rbq.below hb h.rbq.lt, h.rbr.below hb h.rbr.lt, h.rbn.below hb h.rbn.lt⟩
theorem SmI.tick {w W : World} {F G : Nat → Prop} {d p n : Nat} {S : DS} (h : SmI w W F G d p S n) (hlt : ∀ k, F k ∨ G k → k < w.heap.size) : SmI w (W.setCell ⟨w.heap.size + 4, 0, none⟩ (.int .i64 ((n : Int) + 1))) F G d p S (n + 1) := by
  have hk : Kept (fun k => k = w.heap.size + 4) W (W.setCell ⟨w.heap.size + 4, 0, none⟩ (.int .i64 ((n : Int) + 1))) := (Kept.refl (· = w.heap.size + 4) _).setCell ⟨w.heap.size + 4, 0, none⟩ (.inl rfl) _
  exact ⟨h.pr.kept hk (fun k hf ht => by have := hlt k hf; omega), below_kept h.bel hk (Nat.le_refl _) (fun k ht => by omega),
    hk.row h.rbd (by omega), hk.row h.rbq (by omega), hk.row h.rbr (by omega), (h.rbn.set 0 _).eqA (by simp)⟩
theorem range_at {n x : Nat} {pre post : List Nat} (h : List.range n = pre ++ x :: post) : x = pre.length ∧ x < n := by
  have h2 : pre.length < n := by
    have := congrArg List.length h
    simp at this
    omega
  have h1 := congrArg (fun l : List Nat => l[pre.length]?) h
  simp only [List.getElem?_range h2, List.getElem?_append_right (Nat.le_refl _), Nat.sub_self, List.getElem?_cons_zero, Option.some.injEq] at h1
  exact ⟨h1.symm, by omega⟩
set_option maxRecDepth 1000000 in
set_option maxHeartbeats 16000000 in
theorem same_any {F G : Nat → Prop} {d p : Nat} {S : DS} {w : World} (h : Pair w F G d p S) (hok : S.Ok) :
    Calls Try.prog 20 #[.pointer (some ⟨d, 0, none⟩), .pointer (some ⟨p, 0, none⟩)] w fun e w' => e = .returned (.bool true) ∧ Below w.heap.size w w' := by
  refine (callsIn_wide (n := 0)).1 ?_
  refine callsIn_of_wp_marks Try.func20 rfl trivial ?_
  simp only [Try.ntmps20, List.size_toArray, List.length_cons, List.length_nil, Nat.reduceAdd, Nat.reduceSub, Array.replicate_succ, Array.replicate_zero, List.push_toArray, List.append_toArray, List.nil_append, List.cons_append]
  have LL := hid all_any
  have hfs := func_some
  have hlt := hid h.lt
  replace h := hid h
  replace hok := hid hok
  gi_wp2_with (refine ⟨trivial, rfl, ?_⟩; gi_at_call 12; refine (callsIn_wide.2 (LL.out _ _)).mono ?_; rintro e w1 ⟨rfl, rfl⟩)
  simp only [Nat.add_assoc, Nat.reduceAdd]
  generalize hW0 : World.alloc (World.alloc (World.alloc (World.alloc (World.alloc w _) _) _) _) _ = W0
  have rbd : RowAt W0 w.heap.size 24 #[.pointer (some ⟨d, 0, none⟩)] := by rw [← hW0]; exact ((((RowAt.new _ _ _).alloc _).alloc _).alloc _).alloc _
  have rbq : RowAt W0 (w.heap.size + 1) 45 #[.pointer (some ⟨p, 0, none⟩)] := by
    rw [← hW0]
    have := RowAt.new (w.alloc (.cells #[.pointer (some ⟨d, 0, none⟩)] 24)) #[.pointer (some ⟨p, 0, none⟩)] 45
    simp only [World.size_alloc] at this
    exact ((this.alloc _).alloc _).alloc _
  have rbr : RowAt W0 (w.heap.size + 2) 4 #[.bool false] := by
    rw [← hW0]
    have := RowAt.new ((w.alloc (.cells #[.pointer (some ⟨d, 0, none⟩)] 24)).alloc (.cells #[.pointer (some ⟨p, 0, none⟩)] 45)) #[.bool false] 4
    simp only [World.size_alloc, Nat.add_assoc, Nat.reduceAdd] at this
    exact (this.alloc _).alloc _
  have rbx : RowAt W0 (w.heap.size + 3) 24 #[.pointer (some ⟨d, 0, none⟩)] := by
    rw [← hW0]
    have := RowAt.new (((w.alloc (.cells #[.pointer (some ⟨d, 0, none⟩)] 24)).alloc (.cells #[.pointer (some ⟨p, 0, none⟩)] 45)).alloc (.cells #[.bool false] 4)) #[.pointer (some ⟨d, 0, none⟩)] 24
    simp only [World.size_alloc, Nat.add_assoc, Nat.reduceAdd] at this
    exact this.alloc _
  have rbn : RowAt W0 (w.heap.size + 4) 3 #[.int .i64 (([] : List Nat).length : Nat)] := by
    rw [← hW0]
    have := RowAt.new ((((w.alloc (.cells #[.pointer (some ⟨d, 0, none⟩)] 24)).alloc (.cells #[.pointer (some ⟨p, 0, none⟩)] 45)).alloc (.cells #[.bool false] 4)).alloc (.cells #[.pointer (some ⟨d, 0, none⟩)] 24)) #[.int .i64 0] 3
    simp only [World.size_alloc, Nat.add_assoc, Nat.reduceAdd] at this
    exact this
  have hbel : Below w.heap.size w W0 := by rw [← hW0]; exact below_al (below_al (below_al (below_al (below_al (Below.refl _ _) _) _) _) _) _
  have hW0s : W0.heap.size = w.heap.size + 5 := by rw [← hW0]; simp
  clear hW0
  have hsm : SmI w W0 F G d p S ([] : List Nat).length := ⟨h.out.below hbel, hbel, rbd, rbq, rbr, rbn⟩
  obtain ⟨L, M, v, hdA, hFA⟩ := id hsm.pr.dk
  have hall := all_on hdA rbx
  have hF1 : ∀ k, F k → k < w.heap.size := fun k hk => hlt.out k (.inl hk)
  have hdl := hF1 d ((hFA d).2 (.inl rfl))
  have hLl := hF1 L ((hFA L).2 (.inr (.inl rfl)))
  refine wp_iter_box (gf := 27) (lb := #[.pointer (some ⟨w.heap.size + 3, 0, none⟩)]) rfl (enters_of Try.func27 (by kernel_rfl) rfl) hall
    (fun _ h => h.elim) (fun k h => by rcases h with h | h | h <;> omega) (fun _ => rfl)
    (fun x g => [(7, .int .i64 (x : Nat)), (8, .pointer (some ⟨g, 0, none⟩))]) (fun x g W => RowAt W g 32 (blkA (secOf S.lasts x)) ∧ W0.heap.size + 2 ≤ g) ?kR
    (fun pre W => SmI w W F G d p S pre.length)
    (fun c pre W => False) ?kI ?kIx hsm ?kassign ?kbody ?kdone ?kstop
  case kR =>
    rintro x g W W' ⟨h1, h2⟩ hk
    exact ⟨hk.row h1 (fun h => by rcases h with h | h | h; exact h.elim; all_goals omega), h2⟩
  case kI =>
    rintro pre W W' h1 hk
    exact h1.kept hlt.out hk (fun k h => by rcases h with h | h | h; exact h.elim; all_goals omega)
  case kIx => rintro c' pre W W' h _; exact h
  case kstop => rintro c' pre x post W _ _ h; exact h.elim
  case kassign =>
    intro l pre x W K hs hi hK
    have hz := zero_block
    have hzs := zeroBlk_size
    have hbs2 := blkA_size (secOf S.lasts x)
    have hst := cells_block _ _ _ (blkA (secOf S.lasts x)) (RowAt.new W zeroBlk 32) zeroBlk_size (blkA_size _) (blkA_one _)
    rw [World.setRow_alloc_new] at hst
    have hfin := hid (hK W.heap.size (W.alloc (.cells (blkA (secOf S.lasts x)) 32)) (Kept.of_below (below_al (Below.refl _ _) _)) (hi.below (below_al (Below.refl _ _) _)) ⟨RowAt.new _ _ _, hs⟩)
    clear hK hi
    simp only [encB] at hfin ⊢
    rw [fold2] at hfin ⊢
    simp only [putAll, List.foldl_cons, List.foldl_nil, List.setIfInBounds_toArray, List.set_cons_zero, List.set_cons_succ] at hfin ⊢
    gi_wp2
    exact hfin.out
  case kbody =>
    rintro pre x post g W hx hs _ hi ⟨h5, h6⟩
    obtain ⟨hxl, hxn⟩ := range_at hx
    rw [← hxl] at hi
    replace hxl := hid hxl
    have hW0h := hid hW0s
    have hhs := hid hs
    clear hW0s hs h6
    simp only [encB]
    rw [fold2]
    simp only [putAll, List.foldl_cons, List.foldl_nil, List.setIfInBounds_toArray, List.set_cons_zero, List.set_cons_succ]
    obtain ⟨L2, v2, hrk, hGA⟩ := id hi.pr.rk
    have rp := hid hrk.row
    have hdk2 := hid hi.pr
    have rLL : RowAt W L2 32 (lastsA S.n S.lasts) := hrk.lasts
    replace rLL := hid rLL
    have q1 := hid hi.rbd
    have q2 := hid hi.rbq
    have q3 := hid hi.rbn
    replace h5 := hid h5
    replace hi := hid hi
    replace hrk := hid hrk
    clear hx
    gi_wp2
    refine same_r8 hdk2 rp rLL q1 q2 q3 h5 hxn _ _ _ _ _ _ _ _ _ _ _ _ _ _ _ _ _ _ _ _ _ _ _ _ _ _ _ _ _ _ _ _ _ _ _ _ _ _ _ _ _ _ _ _ _ _ _ _ _ _ _ _ _ _ _ _ _ _ _ _ _ _ _ _ _ _ _ _ _ _ _ _ _ _ _ _ _ _ _ _ _ _ _ _ _ _ _ _ _ _ _ _ _ _ _ _ _ _ _ _ _ _ _ _ _ _ _ _ _ ?_
    intro v20 v21 v22 v23 v24 v25 v26 v27 v28 v29 v30 v31 v32 v33 v34 v35 v36 v37 v38 v39 v40 v41 v42 v43 v44 v45 v46 v47 v48 W1 hBW
    have i1 := hi.out.below hBW
    have c2 := i1.rbd.cell (j := 0) rfl
    have hwx : (Lit.int .i64 (x : Int)).wf = true := wf_nat (by have := hdA.size.2; omega)
    have hz := zero_block
    have hzs := zeroBlk_size
    have hbs := blkA_size
    have E1 := blk_neq (S.read (x : Int)).1
    have E2 : ∀ op x' y' W, (eqGuard op 32 x' y' (.agg (blkA (S.read (x : Int)).1)) (.agg (blkA (S.read (x : Int)).1))).run Try.prog W = .ok () W := fun op x' y' W => blk_guard op x' y' _ _ W
    have hadd : IntKind.i64.wrap ((x : Int) + 1) = ((x + 1 : Nat) : Int) := by rw [IntKind.wrap_i64]; have := hdA.size.2; omega
    have hn := hok.out.hn
    replace i1 := hid i1
    replace hBW := hid hBW
    replace hwx := hid hwx
    clear q1 q2 q3 rLL rp hdk2
    gi_wp2_with (first
      | (with_reducible refine at_opIn (some 62) (.load 32 (.tmp 9)) ?_
         refine wpListIn_load_row (o := ⟨some 62, _, _, _, _, _⟩) rfl 32 (.tmp 9) rfl w2.heap.size rfl 32 (blkA (S.read (x : Int)).1) (0, 0) _ r9b.out Try.underlying32 rfl (infoBlkCs _) ?_)
      | (with_reducible refine at_opIn (some 63) (.load 32 (.tmp 11)) ?_
         refine wpListIn_load_row (o := ⟨some 63, _, _, _, _, _⟩) rfl 32 (.tmp 11) rfl w3.heap.size rfl 32 (blkA (S.read (x : Int)).1) (0, 0) _ r11.out Try.underlying32 rfl (infoBlkCs _) ?_)
      | (refine ⟨trivial, rfl, ?_⟩; gi_at_call 15; refine (CallsIn.inRound _ (callsIn_wide.2 (read_any i1.out.pr.dk (x : Int) hwx.out))).mono ?_; rintro e w2 ⟨rfl, hB⟩
         have hst := cells_block _ _ _ (blkA (S.read (x : Int)).1) (RowAt.new w2 zeroBlk 32) zeroBlk_size (blkA_size _) (blkA_one _)
         rw [World.setRow_alloc_new] at hst
         have b1 := below_al (below_cat hB hBW.out) (.cells (blkA (S.read (x : Int)).1) 32)
         have i2 := hi.out.below b1
         have r9 := RowAt.new w2 (blkA (S.read (x : Int)).1) 32
         have c3 := i2.rbq.cell (j := 0) rfl
         replace r9 := hid r9
         replace i2 := hid i2
         replace b1 := hid b1
         clear hB)
      | (refine ⟨trivial, rfl, ?_⟩; gi_at_call 29; refine (CallsIn.inRound _ (callsIn_wide.2 (refRead_any i2.out.pr.rk (x : Int) hn))).mono ?_; rintro e w3 ⟨rfl, hB⟩
         have hst2 := cells_block _ _ _ (blkA (S.read (x : Int)).1) (RowAt.new w3 zeroBlk 32) zeroBlk_size (blkA_size _) (blkA_one _)
         rw [World.setRow_alloc_new] at hst2
         have b2 := below_al (below_cat hB b1.out) (.cells (blkA (S.read (x : Int)).1) 32)
         have i3 := hi.out.below b2
         have r11 := RowAt.new w3 (blkA (S.read (x : Int)).1) 32
         have r9b := (r9.out.below hB r9.out.lt).alloc (.cells (blkA (S.read (x : Int)).1) 32)
         have c6 := i3.rbn.cell (j := 0) rfl
         have f6 := i3.rbn.free 0
         replace r11 := hid r11
         replace r9b := hid r9b
         replace i3 := hid i3
         replace b2 := hid b2
         clear hB))
    have hW0s := hW0h.out
    refine ⟨?_, ?_⟩
    · exact (Kept.of_below b2.out).setCell ⟨w.heap.size + 4, 0, none⟩ (.inl (fun h => by rcases h with (h | h) | h | h | h <;> (dsimp only at h; omega))) _
    · show SmI w _ F G d p S (pre ++ [x]).length
      rw [List.length_append, List.length_singleton, ← hxl.out]
      exact i3.out.tick hlt.out
  case kdone =>
    rintro W hs hi hmk
    rw [List.length_range] at hi
    have hW0h := hid hW0s
    clear hW0s
    obtain ⟨L2, v2, hrk, hGA⟩ := id hi.pr.rk
    obtain ⟨q0, c0, hv, _⟩ := hangs_slice hrk.hangs
    subst hv
    have rp := hid hrk.row
    have hpr := hid hi.pr
    have q1 := hid hi.rbd
    have q2 := hid hi.rbq
    have q3 := hid hi.rbr
    have q4 := hid hi.rbn
    replace hi := hid hi
    replace hmk := hid hmk
    replace hrk := hid hrk
    gi_wp2
    refine same_r15 hpr hok rp q1 q2 q4 q3 _ _ _ _ _ _ _ _ _ _ _ _ _ _ _ _ _ _ _ _ _ _ _ _ _ _ _ _ _ _ _ _ _ _ _ _ _ _ _ _ _ _ _ _ _ _ _ _ _ _ _ _ _ _ _ _ _ _ _ _ _ _ _ _ _ _ _ _ _ _ _ _ _ _ _ _ _ _ _ _ _ _ _ _ _ _ _ _ _ _ _ _ _ _ _ _ _ _ _ _ _ _ _ _ _ _ _ _ _ _ ?_
    intro v72 v73 v74 v75 v76 v77 v78 v79 v80 v81 v82 v83 v84 v85 v86 v87 v88 v89 v90 v91 v92 v93 v94 v95 v96 v97 v98 v99 v100 v101 v102 v103 v104 v105 v106 v107 v108 v109 v110 v111 v112 v113 W2 hr2 hk2
    have hW0s := hW0h.out
    have hm2 := defer_kept hmk.out hk2 (by omega)
    have hbl := below_kept hi.out.bel hk2 (Nat.le_refl _) (fun k hk => by omega)
    replace hr2 := hid hr2
    replace hm2 := hid hm2
    replace hbl := hid hbl
    clear hk2 hW0s
    gi_wp2
    have hW0s := hW0h.out
    have r5 : RowAt (W2.putObj W0.heap.size (.deferred none)) (w.heap.size + 2) 4 #[.bool true] := (World.putObj_heap_other (by omega)).trans hr2.out
    refine leave_one hm2.out ⟨_, results_box rfl _ _ (w.heap.size + 2) (.bool true) rfl (r5.cell (j := 0) rfl) Try.underlying4, rfl, ?_⟩
    exact below_kept hbl.out ((Kept.refl (fun k => k = W0.heap.size) _).putObj _ _ (.inl rfl)) (Nat.le_refl _) (fun k hk => by omega)
end Go.Proofs.Ytaofpeajfgcjcaa
