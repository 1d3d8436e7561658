/- Disk: settle, Crash. -/
import Derived.Test.YtaofpeajfgcjcaaDkJ
namespace Go.Proofs.Ytaofpeajfgcjcaa
open Go Go.RowKit Go.Maps Go.ChangeMaps
set_option linter.unusedSimpArgs false
set_option linter.unusedVariables false

theorem fit_empty {H : Type} {P : Program} {k : TypeId} {R : Value → Option (DataW H × List MemPlace)} (clock : Nat) : WideElems.Fit P k R #[] clock := ⟨by simp [maxLen], MapKept.stamped_empty clock, fun x hx => by simp at hx⟩
/-- 'clear(m)'. -/
theorem run_clear {H : Type} {P : Program} {w : World} {t k e ty : TypeId} {R : Value → Option (DataW H × List MemPlace)} {b n : Nat} {D : DataW H} (hu : P.underlying t = some (.map k e)) (h : w.ownsMap P k R b n D) :
    ∃ w', (Builtin.clear_ #[t] ty #[.map (some b)]).run P w = .ok (.tuple #[]) w' ∧ w'.ownsMap P k R b 0 (.map []) ∧ w.grownBy w' (some b) := by
  obtain ⟨es, clock, hb, F, hs, rfl⟩ := h
  refine ⟨setBlock w b (.map #[] clock), ?_, ⟨#[], clock, heap_setBlock_same hb _, fit_empty clock, by simp, rfl⟩, ⟨rfl, rfl, rfl, by simp [setBlock], fun i _ hi => heap_setBlock_other hb _ (fun e => hi (by rw [e]))⟩⟩
  have h1 := MapKept.run_getObj_map (P := P) hb
  have h2 := MapKept.run_setObj_map (P := P) (.map #[] clock) hb
  simp [Builtin.clear_, run_underlying hu, h1, h2, setBlock]
theorem wpList_clear {H : Type} {P : Program} {w : World} {ops : Array Oper} {rest : List Oper} {o : Oper} {a : Act} {Q : Exit → Act → World → Prop} (hg : o.guard = none) (m : Operand) (t : TypeId)
    (hop : o.op = .call { callee := .builtin .clear, args := #[m], argTypes := #[t] }) (k e : TypeId) (hu : P.underlying t = some (.map k e)) (R : Value → Option (DataW H × List MemPlace)) (b n : Nat) (D : DataW H)
    (hm : a.eval m = .map (some b)) (hown : w.ownsMap P k R b n D) (hK : ∀ w', w'.ownsMap P k R b 0 (.map []) → w.grownBy w' (some b) → wpList P ops Q rest (a.put o.dst (.tuple #[])) w') : wpList P ops Q (o :: rest) a w := by
  refine wpList_plain hg fun K' hK' => ?_
  obtain ⟨w', hrun, r1, r2⟩ := run_clear (ty := o.type) hu hown
  unfold Oper.wp execOp
  simp only [hop, resolve, invoke, builtin, Sem.run_bind, Sem.run_pure, Result.andThen_ok, List.map_toArray, List.map_cons, List.map_nil, hm, hrun]
  exact hK' _ _ (hK w' r1 r2)
theorem agrees_nil : Agrees [] (.map []) := fun a ha => ⟨rfl, rfl⟩
/-- So many bytes of what hangs are done. -/
def settleL : List (Nat × Blk) → Int → (Nat → UInt8) → (Nat → UInt8)
  | [], _, l => l
  | p :: r, keep, l => settleL r (keep - min (max keep 0) 128) (ovl l p.1 (min (max keep 0) 128).toNat p.2)
def zeroWr : Array Value := #[.int .i64 0] ++ Array.replicate 128 (.int .u8 0)
theorem zeroWr_size : zeroWr.size = 129 := by simp [zeroWr]
theorem zero_wr (w : World) : (zeroValue 60).run Try.prog w = .ok (.agg zeroWr) w := by kernel_rfl
theorem info_wr : (Try.prog.info? 60).map (·.size) = some 129 := by kernel_rfl
theorem cells_any {P : Program} {ty : TypeId} {old cells : Array Value} {w : World} {g : Nat} {t : TypeId} (hi : (P.info? ty).map (·.size) = some cells.size) (hg : RowAt w g t old) (ho : old.size = cells.size) (h1 : cells.all (·.oneCell') = true) :
    (storeCells ⟨g, 0, none⟩ cells.toList).run P w = .ok () (w.setRow g cells) := by
  have := run_storeVar_row (P := P) w g t ty old cells hg hi ho h1
  cases hq : P.info? ty with
  | none => rw [hq] at hi; cases hi
  | some i =>
    have hs : i.size = cells.size := by simpa [hq] using hi
    simpa [storeVar, sizeOf, typeInfo, hq, Value.cells, hs] using this
theorem cells_write (w : World) (p : Nat × Blk) : (storeCells ⟨w.heap.size, 0, none⟩ (wrA p).toList).run Try.prog (w.alloc (.cells zeroWr 60)) = .ok () (w.alloc (.cells (wrA p) 60)) := by
  have := cells_any (P := Try.prog) (ty := 60) (cells := wrA p) (by rw [wrA_size]; exact info_wr) (RowAt.new w zeroWr 60) (by rw [zeroWr_size, wrA_size]) (wrA_one p)
  rwa [World.setRow_alloc_new] at this
attribute [irreducible] zeroWr
/-- The bounds of what is still to be kept. -/
def keepOk (k : Int) : Prop := -9223372036854775808 ≤ k ∧ k ≤ 9223372036854775807
set_option maxRecDepth 1000000 in
set_option maxHeartbeats 4000000 in
theorem settle_on {d L M : Nat} {v : Value} {S : DS} {w : World} (hd : DiskAt w d L M v S) (keep : Int) (hk : keepOk keep) (hn : S.hangs.length < 1000000000) :
    Calls Try.prog 26 #[.pointer (some ⟨d, 0, none⟩), .int .i64 keep] w fun e w' => e = .returned (.tuple #[]) ∧ DiskAt w' d L M (.slice none 0 0) { S with lasts := settleL S.hangs keep S.lasts, hangs := [] } ∧ Kept (fun k => k = d ∨ k = L ∨ k = M) w w' := by
  obtain ⟨q, c, hv, hq⟩ : ∃ q c, v = .slice q S.hangs.length c ∧ (0 < S.hangs.length → ∃ g, q = some ⟨g, 0, none⟩ ∧ v.ownBlock = some g) := by
    rcases hd.hangs.2 with ⟨h1, h2⟩ | ⟨g, cap, cur, h1, _⟩
    · exact ⟨none, 0, by rw [h1, h2], fun h => by omega⟩
    · exact ⟨_, _, h1, fun _ => ⟨g, rfl, by rw [h1]; rfl⟩⟩
  have c1 : w.cell? ⟨d, 1, none⟩ = some v := hd.row.cell rfl
  rw [hv] at c1
  replace hd := hid hd
  replace hq := hid hq
  replace hv := hid hv
  replace hk := hid hk
  go_enter Try.func26, Try.ntmps26
  go_wp2
  refine wp_loop_f (σ := Nat × Int × (Nat → UInt8)) (fun s f => #[.pointer (some ⟨d, 0, none⟩), .int .i64 s.2.1, f 2, f 3, f 4, f 5, f 6, f 7, f 8, f 9, .slice q S.hangs.length c, .int .i64 (S.hangs.length : Nat), .int .i64 (s.1 : Nat), f 13, f 14, f 15, f 16, f 17, f 18, f 19, f 20, f 21, f 22, f 23, f 24, f 25, f 26, f 27, f 28, f 29, f 30, f 31, f 32, f 33, f 34, f 35, f 36, f 37, f 38, f 39, f 40, f 41, f 42]) (fun s W => s.1 ≤ S.hangs.length ∧ Hid (settleL (S.hangs.drop s.1) s.2.1 s.2.2 = settleL S.hangs keep S.lasts) ∧ Hid (RowAt W L 32 (lastsA S.n s.2.2)) ∧ Hid (Kept (fun k => k = L) w W) ∧ Hid (keepOk s.2.1)) (fun s => S.hangs.length - s.1) (0, keep, S.lasts) [] rfl rfl ⟨Nat.zero_le _, hid rfl, hid hd.out.lasts, hid (Kept.refl _ _), hk⟩ ?_
  rintro ⟨i, k, l⟩ f W ⟨hi, hR, hL, hK, hko⟩ K hKK
  dsimp only at hi hR hL hK hko hKK ⊢
  replace hKK := hid hKK
  by_cases hlt : i < S.hangs.length
  · have g1 : decide ((i : Int) < (S.hangs.length : Int)) = true := decide_eq_true (by omega)
    obtain ⟨g, rfl, hvg⟩ := hq.out (by omega)
    obtain ⟨p, hp⟩ : ∃ p, S.hangs[i]? = some p := ⟨_, List.getElem?_eq_getElem hlt⟩
    have hpn := hd.out.inn p (List.mem_of_getElem? hp)
    obtain ⟨m, hm⟩ : ∃ m : Nat, (m : Int) = min (max k 0) 128 := ⟨(min (max k 0) 128).toNat, by omega⟩
    have hgne := hd.out.ne.2.2.2 g hvg
    have hrg : W.rangeAt g (i * 129) (wrA p).toList := by
      intro j u hj
      have h1 : j < 129 := by have := (List.getElem?_eq_some_iff.1 hj).1; rwa [Array.length_toList, wrA_size] at this
      have h2 := World.ownsRow.cells (ownsRow_kept hd.out.hangs hK.out (fun x hx => by rw [hvg] at hx; cases hx; exact hgne.2.1)) hvg (i * 129 + j) u (by rw [hangA_get _ i p hp j h1]; rwa [Array.getElem?_toList] at hj)
      rwa [Addr.add_mid, Nat.zero_add] at h2
    have hiw : (Try.prog.info? 60).map (·.size) = some (wrA p).toList.length := by rw [Array.length_toList, wrA_size]; exact info_wr
    have hz := zero_wr
    have hzs := zeroWr_size
    have hws := wrA_size p
    have hsub : IntKind.i64.wrap (k - (m : Int)) = k - (m : Int) := by rw [IntKind.wrap_i64]; have h1 := hko.out.1; have h2 := hko.out.2; omega
    have hadd : IntKind.i64.wrap ((i : Int) + 1) = ((i + 1 : Nat) : Int) := by rw [IntKind.wrap_i64]; omega
    have hst := cells_write W p
    have i1 : (0 : Int) ≤ (i : Int) := by omega
    have i2 : (i : Int) < (S.hangs.length : Int) := by omega
    have hmx : ∀ w, (Builtin.max_ #[3, 3] 3 #[.int .i64 k, .int .i64 0]).run Try.prog w = .ok (.int .i64 (max k 0)) w := fun w => run_mx2 _ _ _ _ _ _
    have hmn : ∀ w, (Builtin.min_ #[3, 3] 3 #[.int .i64 (max k 0), .int .i64 128]).run Try.prog w = .ok (.int .i64 (m : Nat)) w := fun w => by rw [hm]; exact run_mn2 _ _ _ _ _ _
    replace hrg := hid hrg
    replace hiw := hid hiw
    replace hp := hid hp
    replace hm := hid hm
    replace hvg := hid hvg
    replace hgne := hid hgne
    go_wp2_with (first
      | (with_reducible refine at_op (some 15) (.load 60 (.tmp 14)) ?_
         refine wpList_load_mid (op := ⟨some 15, _, _, _, _, _⟩) rfl 60 (.tmp 14) rfl g (i * 129) rfl (wrA p).toList _ hrg.out Try.underlying60 rfl hiw.out ?_
         simp only [Array.toArray_toList])
      | fail)
    obtain ⟨W1, hW1⟩ : ∃ W1, W1 = W.alloc (.cells (wrA p) 60) := ⟨_, rfl⟩
    have hb1 : Below W.heap.size W W1 := by rw [hW1]; exact below_al (Below.refl _ _) _
    have rb : RowAt W1 W.heap.size 60 (wrA p) := by rw [hW1]; exact RowAt.new _ _ _
    rw [← hW1]
    clear hW1 hst
    have rd0 : RowAt W d 57 (diskA L S.n v M S.steps S.fuse S.down) := hK.out.row hd.out.row (fun e => hd.out.ne.1 e)
    have rd1 := hid (rd0.below hb1 rd0.lt)
    have rL1 := hid (hL.out.below hb1 hL.out.lt)
    replace rb := hid rb
    have hmle : m ≤ 128 := by have := hm.out; omega
    replace hb1 := hid hb1
    refine settle_r4 (p := p) hpn hd.out.size.2 hmle rd1 rb rL1 _ _ _ _ _ _ _ _ _ _ _ _ _ _ _ _ _ _ _ _ _ _ _ _ _ _ _ _ _ _ _ _ _ _ _ _ _ _ _ _ ?_
    intro v19 v20 v21 v22 v23 v24 v25 v26 v27 v28 v29 v30 v31 W2 hL2 hk2
    replace hL2 := hid hL2
    replace hk2 := hid hk2
    go_wp2
    have hkL : Kept (fun k => k = L) w W2 := hK.out.trans ((Kept.of_below hb1.out).trans hk2.out)
    have hdr : S.hangs.drop i = p :: S.hangs.drop (i + 1) := by
      rw [List.drop_eq_getElem_cons hlt]
      congr 1
      have := hp.out
      rw [List.getElem?_eq_getElem hlt] at this
      exact Option.some.inj this
    have hR' := hR.out
    rw [hdr, settleL, ← hm.out, Int.toNat_natCast] at hR'
    refine hKK.out (i + 1, k - (m : Int), ovl l p.1 m p.2) _ _ rfl (by dsimp only; omega) ⟨hlt, hid hR', hid hL2.out, hid hkL, hid ⟨?_, ?_⟩⟩
    · have h1 := hko.out.1; have h2 := hm.out; dsimp only; omega
    · have h1 := hko.out.2; have h2 := hm.out; dsimp only; omega
  · obtain rfl : i = S.hangs.length := by omega
    have g1 : decide (((S.hangs.length : Nat) : Int) < (S.hangs.length : Int)) = false := decide_eq_false (by omega)
    clear hKK
    have hR' : l = settleL S.hangs keep S.lasts := by have := hR.out; simpa [settleL] using this
    replace hR' := hid hR'
    obtain ⟨D, hs, hA⟩ := hd.out.shown
    have hMd : M ≠ d := fun e => hd.out.ne.2.1 e.symm
    have hML : M ≠ L := fun e => hd.out.ne.2.2.1 e.symm
    have rdW : RowAt W d 57 (diskA L S.n v M S.steps S.fuse S.down) := hK.out.row hd.out.row (fun e => hd.out.ne.1 e)
    have f1 := rdW.free 1
    have cc1 : W.cell? ⟨d, 1, none⟩ = some (.slice q S.hangs.length c) := by have := rdW.cell (j := 1) (v := v) rfl; rw [this, hv.out]
    have hW2 : ∃ W2, W2 = W.setCell ⟨d, 1, none⟩ (.slice none 0 0) := ⟨_, rfl⟩
    obtain ⟨W2, hW2⟩ := hW2
    have rd2 : RowAt W2 d 57 (diskA L S.n (.slice none 0 0) M S.steps S.fuse S.down) := by rw [hW2]; exact rdW.set 1 _
    have hk2 : Kept (fun k => k = d) W W2 := by rw [hW2]; exact (Kept.refl (· = d) _).setCell ⟨d, 1, none⟩ (.inl rfl) _
    have hs2 : Shown W2 M S.hangs.length D := (hs.kept hK.out hML).kept hk2 hMd
    have c2 : W2.cell? ⟨d, 2, none⟩ = some (.map (some M)) := rd2.cell rfl
    have hL2 : RowAt W2 L 32 (lastsA S.n l) := hk2.row hL.out (fun e => hd.out.ne.1 e.symm)
    replace rd2 := hid rd2
    replace hs2 := hid hs2
    replace hk2 := hid hk2
    replace hL2 := hid hL2
    rw [hW2] at c2
    clear rdW
    go_wp2_with (first
      | (with_reducible refine at_op none (.call { callee := .builtin .clear, args := #[.tmp 42], argTypes := #[54] }) ?_
         refine wpList_clear (o := ⟨none, _, _, _, _, _⟩) rfl (.tmp 42) 54 rfl 3 32 Try.underlying54 rdr M S.hangs.length D rfl (by rw [← hW2]; exact hs2.out) ?_
         intro W3 hs3 hg3
         rw [← hW2] at hg3
         replace hs3 := hid hs3
         replace hg3 := hid hg3)
      | fail)
    go_end0
    have hk3 : Kept (fun k => k = M) W2 W3 := (grown_kept hg3.out).mono (fun k _ h => by cases h; rfl)
    refine ⟨rfl, ⟨hk3.row rd2.out (fun e => hMd e.symm), ?_, ⟨_, hs3.out, agrees_nil⟩, World.ownsRow_nil _ _ _ _, hd.out.size, fun p hp => (by cases hp), ⟨hd.out.ne.1, hd.out.ne.2.1, hd.out.ne.2.2.1, fun g hg => (by cases hg)⟩⟩, ?_⟩
    · have := hk3.row hL2.out (fun e => hML e.symm)
      rw [hR'.out] at this
      exact this
    · exact (hK.out.mono fun k _ h => .inr (.inl h)).trans ((hk2.out.mono fun k _ h => .inl h).trans (hk3.mono fun k _ h => .inr (.inr h)))
end Go.Proofs.Ytaofpeajfgcjcaa
