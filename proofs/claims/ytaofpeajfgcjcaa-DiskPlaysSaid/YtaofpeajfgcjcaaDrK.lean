/- Disk: the walk of DiskPlays. -/
import Derived.Test.YtaofpeajfgcjcaaDrJ
namespace Go.Proofs.Ytaofpeajfgcjcaa
open Go Go.RowKit Go.Maps
set_option linter.unusedSimpArgs false
set_option linter.unusedVariables false

/-- Both disks, made since w. -/
structure PlI (w V : World) (F G : Nat → Prop) (d p : Nat) (S : DS) : Prop where
  pr : Pair V F G d p S
  bel : Below w.heap.size w V
  ge : ∀ k, F k ∨ G k → w.heap.size ≤ k
theorem PlI.below {w V V' : World} {F G : Nat → Prop} {d p : Nat} {S : DS} (h : PlI w V F G d p S) (hb : Below V.heap.size V V') : PlI w V' F G d p S := ⟨h.pr.below hb, below_cat hb h.bel, h.ge⟩
theorem PlI.step {w V V' : World} {F G : Nat → Prop} {d p : Nat} {S S' : DS} (h : PlI w V F G d p S) (hf : Fin V F G d p S' V') (hk : Kept (fun k => F k ∨ G k) V V') : ∃ F' G', PlI w V' F' G' d p S' := by
  obtain ⟨F', G', h1, h2⟩ := hf
  exact ⟨F', G', h1, below_kept h.bel hk (Nat.le_refl _) h.ge, fun k hk => (h2 k hk).elim (fun h3 => h.ge k (.inl h3)) fun h3 => h3.elim (fun h3 => h.ge k (.inr h3)) (Nat.le_trans h.bel.size)⟩
theorem plays_no (n : Int) (hn : n < 16 ∨ 4096 < n) (a1 : Option Addr) (len cap : Nat) (w : World) :
    Calls Try.prog 5 #[.int .i64 n, .slice a1 len cap] w fun e w' => e = .returned (.bool true) ∧ Below w.heap.size w w' := by
  have LA := hid awake_any
  have L1 := hid (new_no n hn)
  have L2 := hid (refNew_no n hn)
  go_enter Try.func5, Try.ntmps5
  go_wp2_with (first
    | (go_at_call 7; refine (LA.out _).mono ?_; rintro e w1 ⟨rfl, hB⟩; replace hB := hid hB)
    | (go_at_call 8; refine (L1.out _).mono ?_; rintro e w2 ⟨rfl, rfl⟩)
    | (go_at_call 17; refine (L2.out _).mono ?_; rintro e w3 ⟨rfl, rfl⟩))
  go_ret
  exact ⟨rfl, hB.out⟩
set_option maxRecDepth 1000000 in
set_option maxHeartbeats 8000000 in
theorem plays_big (n : Nat) (h1 : 16 ≤ n) (h2 : n ≤ 4096) (a1 : Option Addr) (len cap : Nat) (hl : 40 < len) (w : World) :
    Calls Try.prog 5 #[.int .i64 (n : Nat), .slice a1 len cap] w fun e w' => e = .returned (.bool true) ∧ Below w.heap.size w w' := by
  have LA := hid awake_any
  have L1 := hid (new_dk n h1 h2)
  have L2 := hid (refNew_dk n h1 h2)
  have g1 : decide ((40 : Int) < (len : Int)) = true := decide_eq_true (by omega)
  have g2 : decide (40 < len) = true := decide_eq_true hl
  go_enter Try.func5, Try.ntmps5
  go_wp2_with (first
    | (go_at_call 7; refine (LA.out _).mono ?_; rintro e w1 ⟨rfl, hB⟩; replace hB := hid hB)
    | (go_at_call 8; refine (L1.out _).mono ?_; rintro e w2 ⟨d, F, rfl, hd2, hB2, hF2⟩; replace hB2 := hid hB2; clear hd2 hF2)
    | (go_at_call 17; refine (L2.out _).mono ?_; rintro e w3 ⟨p, G, rfl, hd3, hB3, hF3⟩; replace hB3 := hid hB3; clear hd3 hF3))
  go_ret
  exact ⟨rfl, below_cat hB3.out (below_cat hB2.out hB.out)⟩
set_option maxRecDepth 1000000 in
set_option maxHeartbeats 16000000 in
theorem plays_core (n : Nat) (h1 : 16 ≤ n) (h2 : n ≤ 4096) (a1 : Option Addr) (len cap : Nat) (hl : len ≤ 40) (qs : List ActT) (w : World) (hq : IsActs w a1 len qs) :
    Calls Try.prog 5 #[.int .i64 (n : Nat), .slice a1 len cap] w fun e w' => e = .returned (.bool true) ∧ Below w.heap.size w w' := by
  have LA := hid awake_any
  have L1 := hid (new_dk n h1 h2)
  have L2 := hid (refNew_dk n h1 h2)
  have g1 : decide ((40 : Int) < (len : Int)) = false := decide_eq_false (by omega)
  have g2 : decide (40 < len) = false := decide_eq_false (by omega)
  have hql := hid hq.len
  replace hq := hid hq
  go_enter Try.func5, Try.ntmps5
  go_wp2_with (first
    | (go_at_call 7; refine (LA.out _).mono ?_; rintro e w1 ⟨rfl, hB⟩; replace hB := hid hB)
    | (go_at_call 8; refine (L1.out _).mono ?_; rintro e w2 ⟨d, F, rfl, hd2, hB2, hF2⟩; replace hB2 := hid hB2; replace hd2 := hid hd2; replace hF2 := hid hF2)
    | (go_at_call 17; refine (L2.out _).mono ?_; rintro e w3 ⟨p, G, rfl, hd3, hB3, hF3⟩; replace hB3 := hid hB3; replace hd3 := hid hd3; replace hF3 := hid hF3))
  have o0 : PlI w w3 F G d p (DS.new n) := by
    refine ⟨⟨hd2.out.below hB3.out, hd3.out, fun k hf hg => ?_⟩, below_cat hB3.out (below_cat hB2.out hB.out), fun k hk => ?_⟩
    · have h3 := hd2.out.lt k hf
      have h4 := hF3.out k hg
      omega
    · have s1 := hB.out.size
      have s2 := hB2.out.size
      rcases hk with hk | hk
      · have := hF2.out k hk; omega
      · have := hF3.out k hk; omega
  replace o0 := hid o0
  clear LA L1 L2 hB hB2 hB3 hd2 hd3 hF2 hF3
  refine wp_loop_f (σ := Nat) (fun i f => #[.int .i64 (n : Nat), .slice a1 len cap, f 2, f 3, .bool false, .pointer (some ⟨d, 0, none⟩), .int .i64 0, .pointer (some ⟨p, 0, none⟩), f 8, f 9, f 10, f 11, f 12, f 13, f 14, f 15, f 16, f 17, f 18, f 19, f 20, f 21, f 22, f 23, f 24, f 25, f 26, f 27, f 28, f 29, f 30, f 31, f 32, f 33, f 34, f 35, f 36, f 37, f 38, f 39, f 40, f 41, f 42, f 43, f 44, f 45, .slice a1 len cap, .int .i64 (len : Nat), .int .i64 (i : Nat), f 49, f 50, f 51, f 52, f 53, f 54, f 55, f 56, f 57, f 58, f 59, f 60, f 61, f 62, f 63, f 64, f 65, f 66, f 67, f 68, f 69, f 70, f 71, f 72, f 73, f 74, f 75, f 76, f 77, f 78]) (fun i V => i ≤ len ∧ Hid (∃ F' G', PlI w V F' G' d p ((DS.new n).play (qs.take i)))) (fun i => len - i) 0 [] rfl rfl ⟨Nat.zero_le _, hid ⟨F, G, o0.out⟩⟩ ?_
  rintro i f V ⟨hi, ho⟩ K hKK
  dsimp only at hi ho hKK ⊢
  replace hKK := hid hKK
  clear o0
  obtain ⟨F', G', o1⟩ := ho.out
  clear ho
  have hbnd := (DS.Bnd.new n).play (qs.take i) (fun q hq' => hq.out.2 q (List.mem_of_mem_take hq'))
  have htl : (qs.take i).length ≤ 40 := by rw [List.length_take]; omega
  have hok := hid (hbnd.ok (by omega))
  clear hbnd htl
  by_cases hlt : i < len
  · have t1 : decide ((i : Int) < (len : Int)) = true := decide_eq_true (by omega)
    have t2 : decide (i < len) = true := decide_eq_true hlt
    have i1 : (0 : Int) ≤ (i : Int) := by omega
    have i2 : (i : Int) < (len : Int) := by omega
    have hadd : IntKind.i64.wrap ((i : Int) + 1) = ((i + 1 : Nat) : Int) := by rw [IntKind.wrap_i64]; omega
    obtain ⟨q, hqi⟩ : ∃ q, qs[i]? = some q := ⟨_, List.getElem?_eq_getElem (by rw [hql.out]; exact hlt)⟩
    obtain ⟨hqo, x, rfl, hcq⟩ := (hq.out.below o1.bel).at hqi
    have hia : (Try.prog.info? 29).map (·.size) = some (actV q).length := by kernel_rfl
    have hrun := play_snoc (DS.new n) (qs.take i) q
    rw [take_snoc hqi] at hrun
    replace o1 := hid o1
    replace hcq := hid hcq
    replace hia := hid hia
    replace hrun := hid hrun
    replace hqi := hid hqi
    replace hqo := hid hqo
    go_wp2_with (with_reducible refine at_op (some 51) (.load 29 (.tmp 50)) ?_
                 refine wpList_load_addr (o := ⟨some 51, _, _, _, _, _⟩) rfl 29 (.tmp 50) rfl (x.add (i * 3)) rfl (actV q) _ hcq.out Try.underlying29 rfl hia.out ?_
                 simp only [actV])
    have o2 := o1.out.below (below_al (Below.refl _ _) (.cells #[.int .i64 q.1, .int .i64 q.2.1, .int .u8 (q.2.2.toNat : Nat)] 29))
    have rb := RowAt.new V #[.int .i64 q.1, .int .i64 q.2.1, .int .u8 (q.2.2.toNat : Nat)] 29
    have hpr := hid o2.pr
    replace rb := hid rb
    replace o2 := hid o2
    refine plays_r12 (q := q) hpr hok hqo.out rb _ _ _ _ _ _ _ _ _ _ _ _ _ _ _ _ _ _ _ _ _ _ _ _ _ _ _ _ _ _ _ _ _ _ _ _ _ _ _ _ _ _ _ _ _ _ _ _ _ _ _ _ _ _ _ _ _ _ _ _ _ _ _ _ _ _ _ _ _ _ _ _ _ _ _ _ ?_
    intro v52 v53 v54 v55 v56 v57 v58 v59 v60 v61 v62 v63 v64 v65 v66 v67 v68 v69 v70 v71 v72 v73 V2 hf hk
    obtain ⟨F2, G2, o3⟩ := o2.out.step hf hk
    rw [← hrun.out] at o3
    have o4 : Hid (∃ F' G', PlI w V2 F' G' d p ((DS.new n).play (qs.take (i + 1)))) := hid ⟨F2, G2, o3⟩
    clear hf hk o3 o2 rb hpr hcq hia
    go_wp2
    exact hKK.out (i + 1) _ _ rfl (by omega) ⟨hlt, o4⟩
  · obtain rfl : i = len := by omega
    have t1 : decide ((i : Int) < (i : Int)) = false := decide_eq_false (by omega)
    have LS := hid (same_any o1.pr hok.out)
    have hbel := hid o1.bel
    clear hKK
    replace o1 := hid o1
    go_wp2_with (go_at_call 20; refine LS.out.mono ?_; rintro e w4 ⟨rfl, hB⟩; replace hB := hid hB)
    go_ret
    exact ⟨rfl, below_cat hB.out hbel.out⟩
theorem plays_walk (a0 : Int) (a1 : Option Addr) (len cap : Nat) (rs : List (List Value)) (w : World) (h0 : (Lit.int .i64 a0).wf = true) (h1 : IsRecs K3 w a1 len rs) :
    Calls Try.prog 5 #[.int .i64 a0, .slice a1 len cap] w fun e w' => e = .returned (.bool true) ∧ Below w.heap.size w w' := by
  by_cases hn : a0 < 16 ∨ 4096 < a0
  · exact plays_no a0 hn a1 len cap w
  · obtain ⟨n, rfl⟩ : ∃ n : Nat, a0 = (n : Int) := ⟨a0.toNat, by omega⟩
    by_cases hl : 40 < len
    · exact plays_big n (by omega) (by omega) a1 len cap hl w
    · obtain ⟨qs, hq⟩ := acts_of h1
      exact plays_core n (by omega) (by omega) a1 len cap (by omega) qs w hq
end Go.Proofs.Ytaofpeajfgcjcaa
