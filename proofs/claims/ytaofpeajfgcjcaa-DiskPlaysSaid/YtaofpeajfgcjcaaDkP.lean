/- Disk: All and its iterator. -/
import Derived.Test.YtaofpeajfgcjcaaDkO
namespace Go.Proofs.Ytaofpeajfgcjcaa
open Go Go.RowKit Go.Maps
set_option linter.unusedSimpArgs false
set_option linter.unusedVariables false

theorem wpListIn_load_mid {F : Fence} {n : Nat} {P : Program} {ops : Array Oper} {rest : List Oper} {o : Oper} {a : Act} {w : World} {Q : Exit → Act → World → Prop} (hgd : o.guard = none) (ty : TypeId) (x : Operand) (ho : o.op = .load ty x)
    (b off : Nat) (hx : a.eval x = .pointer (some ⟨b, off, none⟩)) (cs : List Value) (d : TypeDesc) (hc : w.rangeAt b off cs)
    (hu : P.underlying ty = some d) (hd : d.isRow = true) (hi : (P.info? ty).map (·.size) = some cs.length)
    (h : wpListIn F n P ops Q rest (a.put o.dst (.agg cs.toArray)) w) : wpListIn F n P ops Q (o :: rest) a w := by
  refine wpListIn_plain hgd fun K hK => ?_
  unfold Oper.wpIn
  refine ⟨by simp [Oper.about, ho], ?_⟩
  rw [Oper.semAt_plain F _ _ (by rw [ho]; intro c hc'; cases hc')]
  unfold execOp
  simp only [ho, hx, Instr.loadAt, Instr.sureAddr, Sem.run_bind, Sem.run_pure, Result.andThen_ok, run_loadVar_mid (P := P) w b off ty cs d hc hu hd hi]
  exact hK _ _ h
theorem all_any (p : Option Addr) (w : World) : Calls Try.prog 12 #[.pointer p] w fun e w' => e = .returned (.func (.func 27) #[] #[.pointer (some ⟨w.heap.size, 0, none⟩)]) ∧ w' = w.alloc (.cells #[.pointer p] 24) := by
  go_enter Try.func12, Try.ntmps12
  go_wp2
  go_ret
  exact ⟨rfl, rfl⟩
/-- What All hands out. -/
def encB (S : DS) (i : Nat) : Array Value := #[.int .i64 (i : Nat), .agg (blkA (secOf S.lasts i))]
theorem range_split {n i : Nat} (h : i < n) : List.range n = (List.range n).take i ++ i :: (List.range n).drop (i + 1) ∧ (List.range n).take i ++ [i] = (List.range n).take (i + 1) := by
  have h1 : i < (List.range n).length := by simpa using h
  have h2 : (List.range n)[i] = i := by simp
  refine ⟨?_, ?_⟩
  · conv => lhs; rw [← List.take_append_drop i (List.range n), List.drop_eq_getElem_cons h1, h2]
  · rw [List.take_succ_eq_append_getElem h1, h2]
attribute [local go_sem] Oper.semAt_some
set_option maxRecDepth 100000 in
set_option maxHeartbeats 8000000 in
theorem all_on {d L M bx : Nat} {v : Value} {S : DS} {w : World} (hd : DiskAt w d L M v S) (hb : RowAt w bx 24 #[.pointer (some ⟨d, 0, none⟩)]) :
    IterOn Try.prog 27 #[.pointer (some ⟨bx, 0, none⟩)] (encB S) (fun _ => False) (fun k => k = bx ∨ k = d ∨ k = L) (List.range S.n) w := by
  intro l J Jx W hbel hJ hJx hY h0
  have hbW := hid (hb.below hbel hb.lt)
  have hdW := hid (hd.row.below hbel hd.row.lt)
  have hLW := hid (hd.lasts.below hbel hd.lasts.lt)
  have hsz := hd.size.2
  replace hd := hid hd
  replace hb := hid hb
  have hsec : ∀ V : World, RowAt V d 57 (diskA L S.n v M S.steps S.fuse S.down) → Calls Try.prog 22 #[.pointer (some ⟨d, 0, none⟩)] V fun e w' => e = .returned (.int .i64 (S.n : Nat)) ∧ V = w' := by
    intro V hr
    have c0 : V.cell? ⟨d, 0, none⟩ = some (.slice (some ⟨L, 0, none⟩) S.n S.n) := hr.cell rfl
    replace hr := hid hr
    go_enter Try.func22, Try.ntmps22
    go_wp2
    go_ret
    exact ⟨rfl, rfl⟩
  replace hsec := hid hsec
  have cb : W.cell? ⟨bx, 0, none⟩ = some (.pointer (some ⟨d, 0, none⟩)) := hbW.out.cell rfl
  refine callsIn_of_wp Try.func27 rfl trivial ?_
  simp only [Try.ntmps27, List.size_toArray, List.length_cons, List.length_nil, Nat.reduceAdd, Nat.reduceSub, Array.replicate_succ, Array.replicate_zero, List.push_toArray, List.append_toArray, List.nil_append, List.cons_append]
  gi_wp2_with (refine ⟨trivial, rfl, ?_⟩; gi_at_call 22; refine (callsIn_wide.2 (hsec.out _ hdW.out)).mono ?_; rintro e w2 ⟨rfl, rfl⟩)
  refine wpIn_loop_f (σ := Nat) (fun i f => #[.func (.yield l) #[] #[], .pointer (some ⟨bx, 0, none⟩), f 2, f 3, f 4, .int .i64 (S.n : Nat), .int .i64 (i : Nat), f 7, f 8, f 9, f 10, f 11, f 12, f 13, f 14, f 15, f 16, f 17, f 18, f 19, f 20]) (fun i V => i ≤ S.n ∧ Hid (J ((List.range S.n).take i) V) ∧ Hid (Kept (fun k => ¬ (k = bx ∨ k = d ∨ k = L)) W V)) (fun i => S.n - i) 0 [] rfl rfl ⟨Nat.zero_le _, hid h0, hid (Kept.refl _ _)⟩ ?_
  rintro i f V ⟨hi, hj, hk⟩ K hKK
  dsimp only at hi hj hk hKK ⊢
  replace hKK := hid hKK
  clear cb h0
  by_cases hlt : i < S.n
  · have g1 : decide ((i : Int) < (S.n : Int)) = true := decide_eq_true (by omega)
    obtain ⟨hs1, hs2⟩ := range_split hlt
    have rb := hk.out.row hbW.out (fun h => h (.inl rfl))
    have rd := hk.out.row hdW.out (fun h => h (.inr (.inl rfl)))
    have rL := hk.out.row hLW.out (fun h => h (.inr (.inr rfl)))
    have cb : V.cell? ⟨bx, 0, none⟩ = some (.pointer (some ⟨d, 0, none⟩)) := rb.cell rfl
    have c0 : V.cell? ⟨d, 0, none⟩ = some (.slice (some ⟨L, 0, none⟩) S.n S.n) := rd.cell rfl
    have hrg := lasts_range rL i hlt
    have hib : (Try.prog.info? 32).map (·.size) = some (blkA (secOf S.lasts i)).toList.length := by rw [Array.length_toList]; exact infoBlkCs _
    have i1 : (0 : Int) ≤ (i : Int) := by omega
    have i2 : (i : Int) < (S.n : Int) := by omega
    have hadd : IntKind.i64.wrap ((i : Int) + 1) = ((i + 1 : Nat) : Int) := by rw [IntKind.wrap_i64]; omega
    have hszV := hk.out.size
    obtain ⟨fn, tmps, assign, body, hy, hR⟩ := hY _ i _ V hs1 hszV hj.out
    simp only [encB] at hy
    replace hs1 := hid hs1
    replace hs2 := hid hs2
    replace hrg := hid hrg
    replace hib := hid hib
    replace rb := hid rb
    replace rd := hid rd
    replace rL := hid rL
    gi_wp2_with (with_reducible refine at_opIn (some 17) (.load 32 (.tmp 16)) ?_
                 refine wpListIn_load_mid (o := ⟨some 17, _, _, _, _, _⟩) rfl 32 (.tmp 16) rfl L (i * 128) rfl (blkA (secOf S.lasts i)).toList _ hrg.out Try.underlying32 rfl hib.out ?_
                 simp only [Array.toArray_toList])
    refine ⟨rfl, hR.mono ?_⟩
    rintro e W2 (⟨rfl, hj4, hk4⟩ | ⟨rfl, hj4, hk4⟩)
    · rw [hs2.out] at hj4
      have hk5 := hid (hk.out.trans hk4)
      replace hj4 := hid hj4
      clear hy hR hk4 hk hj rb rd rL hrg cb c0
      gi_wp2
      exact hKK.out (i + 1) _ _ rfl (by omega) ⟨hlt, hj4, hk5⟩
    · gi_wp2
      refine bodyPost_ret (results_none rfl _ _ _) rfl ?_
      exact ⟨⟨_, rfl⟩, .inr ⟨_, _, _, hs1.out, hj4⟩⟩
  · obtain rfl : i = S.n := by omega
    have g1 : decide (((S.n : Nat) : Int) < (S.n : Int)) = false := decide_eq_false (by omega)
    clear hKK
    gi_wp2
    go_end0
    have := hj.out
    rw [List.take_of_length_le (by simp)] at this
    exact ⟨⟨_, rfl⟩, .inl this⟩
end Go.Proofs.Ytaofpeajfgcjcaa
