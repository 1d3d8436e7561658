/- Decode: the walk. -/
import Derived.Test.YtdjlpmelmhhooaaGreatDoorBasX3
namespace Go.Proofs.YtdjlpmelmhhooaaGreatDoor
open Go Go.RowKit
set_option linter.unusedSimpArgs false

set_option maxRecDepth 100000 in
set_option maxHeartbeats 4000000 in
theorem decode_any (L : ByteArray) (k : Nat) (fill : Bool) (hG : Good L k fill) (t : ByteArray) (ht : t.size ≤ 10000) (w : World) :
    Calls Tryz.prog 48 #[alpha L k fill, .string t] w fun e w' => e = .returned (decV L k fill t.data.toList) ∧ Below w.heap.size w w' := by
  obtain ⟨i, hi, hz0, hz1, hz2⟩ := info_parts info_u8b
  replace hi := hid hi
  replace hz0 := hid hz0
  replace hz1 := hid hz1
  replace hz2 := hid hz2
  have hk46 := hG.k46
  have hkz : 0 < k := by omega
  have hk6 : k ≤ 6 := by omega
  have hki : (k : Int) ≤ 6 := by omega
  have hki0 : (0 : Int) < (k : Int) := by omega
  have LE := hid fun (s : ByteArray) (hs : s.size ≤ 100000) w => encode_any L k fill hG s hs w
  replace hk46 := hid hk46
  replace hG := hid hG
  have htl : t.data.toList.length = t.size := by simp
  replace htl := hid htl
  obtain ⟨V, hV⟩ : ∃ V, V = decV L k fill t.data.toList := ⟨_, rfl⟩
  rw [← hV]
  replace hV := hid hV
  unfold alpha
  go_enter Tryz.func48, Tryz.ntmps48
  go_wp2
  generalize hW : World.alloc w _ = W
  have hr : RowAt W w.heap.size 80 #[.string L, .int .i64 k, .bool fill] := by rw [← hW]; exact RowAt.new _ _ _
  have hB : Below w.heap.size w W := by rw [← hW]; exact below_al (Below.refl _ _) _
  have hsz : w.heap.size + 1 ≤ W.heap.size := by rw [← hW]; simp
  clear hW
  go_step3
  go_wp2
  go_step3
  go_wp2
  go_loopw [6, 7, 8, 13] (fun v h a i wr => ∃ (n : Nat) (p vs : List Nat) (O : List UInt8), i = .int .i64 n ∧ n ≤ t.size ∧ h = .int .i64 (valB p : Nat) ∧ a = .int .i64 (p.length : Nat) ∧ p.length < 8 ∧ O.length ≤ n ∧ Hid (IsBits p) ∧
      Hid (scanP L fill t.data.toList = (scanP L fill (t.data.toList.drop n)).map (vs ++ ·)) ∧ Hid (vs.flatMap (bitsK k) = bitsOf O ++ p) ∧ Hid (Bytes wr (w.heap.size + 1) v O) ∧ Hid (RowAt wr w.heap.size 80 #[.string L, .int .i64 k, .bool fill]) ∧ Hid (Below w.heap.size w wr) ∧ w.heap.size + 1 ≤ wr.heap.size)
    (fun _ _ _ i _ => t.size - (intOf i).toNat)
  case atStart => exact ⟨0, [], [], [], rfl, Nat.zero_le _, rfl, rfl, by simp, Nat.zero_le _, hid (fun _ h => by cases h), hid (by simp), hid rfl, hid (World.ownsRow_nil _ _ _ _), hid hr, hid hB, hsz⟩
  case round =>
    clear hr hB hsz
    obtain ⟨n, p, vs, O, rfl, hn, rfl, rfl, hp8, hOn, hp, hsc, hvs, hO, hr, hB, hsz⟩ := hrel
    obtain ⟨q, c0, rfl⟩ := hO.out.shape
    by_cases hlt : n < t.size
    · have hlt' : decide ((n : Int) < (t.size : Int)) = true := by rw [decide_eq_true_iff]; omega
      have hlti : (n : Int) < (t.size : Int) := by omega
      have hdrop : t.data.toList.drop n = t[n] :: t.data.toList.drop (n + 1) := by
        rw [List.drop_eq_getElem_cons (by simpa using hlt)]; rfl
      obtain ⟨z, hz⟩ : ∃ z, z = Lib.indexByte L.data.toList t[n] := ⟨_, rfl⟩
      have LI := fun w => indexByte_all L t[n] w
      rw [← hz] at LI
      replace LI := hid LI
      replace hz := hid hz
      replace hdrop := hid hdrop
      have e0 : ∀ x : Sub wr, x.x.cell? ⟨w.heap.size, 0, none⟩ = some (.string L) := fun x => x.cell hr.out rfl
      go_wp2
      refine wp_region_sub (by kernel_rfl) (by kernel_rfl) ?_
      repeat (go_big_quiet_step (first
        | (go_at_call 90; with_reducible refine Sub.same _ (LI.out _))))
      refine wpQuiet_nil ?_
      intro x
      obtain ⟨X, hX⟩ : ∃ X, X = x.x := ⟨_, rfl⟩
      have hOX := hid (hO.out.below x.h)
      have hrX := hid (hr.out.below x.h hr.out.lt)
      have hBX := hid (below_cat x.h hB.out)
      have hzX : w.heap.size + 1 ≤ X.heap.size := by rw [hX]; exact Nat.le_trans hsz x.h.size
      rw [← hX] at hOX hrX hBX ⊢
      clear hX x e0 hO hr hB hsz
      have e1 : X.cell? ⟨w.heap.size, 1, none⟩ = some (.int .i64 k) := hrX.out.cell rfl
      have e2 : X.cell? ⟨w.heap.size, 2, none⟩ = some (.bool fill) := hrX.out.cell rfl
      by_cases hz0' : 0 ≤ z
      · have hzd : decide ((0 : Int) ≤ z) = true := decide_eq_true hz0'
        obtain ⟨d, rfl⟩ := Int.eq_ofNat_of_zero_le hz0'
        have hdk : d < 2 ^ k := by
          have := idx_lt hz.out.symm
          have h2 := hG.out.size
          rw [show L.data.toList.length = L.size by simp, h2] at this; exact this
        have hd64 : d < 64 := Nat.lt_of_lt_of_le hdk (by rcases hk46.out with h | h <;> rw [h] <;> decide)
        have hvp := valB_lt hp.out
        have hvp128 : valB p < 128 := Nat.lt_of_lt_of_le hvp (Nat.pow_le_pow_right (by omega) (show p.length ≤ 7 by omega))
        have h2k : 2 ^ k ≤ 64 := by rcases hk46.out with h | h <;> rw [h] <;> decide
        obtain ⟨s1, hs1⟩ : ∃ s1, s1 = valB p * 2 ^ k := ⟨_, rfl⟩
        have hs1b : s1 < 8192 := by rw [hs1]; exact Nat.lt_of_lt_of_le (Nat.mul_lt_mul_of_pos_right hvp128 (Nat.two_pow_pos k)) (by omega)
        have hs1i : (s1 : Int) < 8192 := by omega
        obtain ⟨P, hP⟩ : ∃ P, P = p ++ bitsK k d := ⟨_, rfl⟩
        have hvP : valB P = s1 + d := by rw [hP, valB_append, bitsK_len, valB_bitsK, Nat.mod_eq_of_lt hdk, hs1]
        have hPl : P.length = p.length + k := by rw [hP, List.length_append, bitsK_len]
        have hPb : IsBits P := by rw [hP, isBits_append]; exact ⟨hp.out, bitsK_is _ _⟩
        have hshl : ((valB p : Nat) : Int) * 2 ^ k = (s1 : Int) := by rw [hs1]; simp
        have hor : bits .or .i64 (s1 : Int) (d : Int) = ((valB P : Nat) : Int) := by
          have := i64_or_add (valB p) k d hdk (by rw [← hs1]; omega)
          rw [hvP, ← hs1] at *; exact this
        have hplus : ((p.length : Nat) : Int) + (k : Int) = ((P.length : Nat) : Int) := by omega
        have hvs2 : (vs ++ [d]).flatMap (bitsK k) = bitsOf O ++ P := by rw [List.flatMap_append, hvs.out, hP]; simp
        have hsc2 : scanP L fill t.data.toList = (scanP L fill (t.data.toList.drop (n + 1))).map ((vs ++ [d]) ++ ·) := by
          rw [hsc.out, hdrop.out, scanP, ← hz.out, if_pos (by omega), Option.map_map]
          congr 1; funext x; simp
        have hp7 : ((p.length : Nat) : Int) ≤ 7 := by omega
        have hPl13 : P.length ≤ 13 := by omega
        have hPbd : valB P < 16384 := Nat.lt_of_lt_of_le (valB_lt hPb) (Nat.pow_le_pow_right (by omega) (show P.length ≤ 14 by omega))
        have hvpi : ((valB p : Nat) : Int) < 128 := by omega
        replace hvs2 := hid hvs2
        replace hsc2 := hid hsc2
        replace hPb := hid hPb
        have f1 : ∀ x : Sub X, x.x.cell? ⟨w.heap.size, 1, none⟩ = some (.int .i64 k) := fun x => x.cell hrX.out rfl
        clear hs1 hP hvP hPl hsc hvs hdrop hvp hvp128 h2k hp e1 e2
        go_wp2
        refine wp_region_sub (by kernel_rfl) (by kernel_rfl) ?_
        repeat (go_big_quiet_step (fail))
        refine wpQuiet_nil ?_
        intro x
        obtain ⟨Y, hY⟩ : ∃ Y, Y = x.x := ⟨_, rfl⟩
        have hOY := hid (hOX.out.below x.h)
        have hrY := hid (hrX.out.below x.h hrX.out.lt)
        have hBY := hid (below_cat x.h hBX.out)
        have hzY : w.heap.size + 1 ≤ Y.heap.size := by rw [hY]; exact Nat.le_trans hzX x.h.size
        rw [← hY] at hOY hrY hBY ⊢
        clear hY x f1 hOX hrX hBX hzX
        by_cases h8 : 8 ≤ P.length
        · have h8d : decide ((8 : Int) ≤ ((P.length : Nat) : Int)) = true := by rw [decide_eq_true_iff]; omega
          obtain ⟨m, hm⟩ : ∃ m, m = P.length - 8 := ⟨_, rfl⟩
          have hmi : ((P.length : Nat) : Int) - 8 = (m : Int) := by omega
          have hm5 : m ≤ 5 := by omega
          have hmi5 : (m : Int) ≤ 5 := by omega
          obtain ⟨b, hb0⟩ : ∃ b, b = valB (P.take 8) := ⟨_, rfl⟩
          obtain ⟨r, hr0⟩ : ∃ r, r = P.drop 8 := ⟨_, rfl⟩
          have hrm : r.length = m := by rw [hr0, hm, List.length_drop]
          have hPs : P = P.take 8 ++ r := by rw [hr0]; exact (List.take_append_drop 8 P).symm
          have ht8 : (P.take 8).length = 8 := by rw [List.length_take]; omega
          have hvq : valB P = b * 2 ^ m + valB r := by rw [hPs, valB_append, hrm, ← hb0]
          have hrb : IsBits r := by rw [hr0]; exact isBits_drop hPb.out 8
          have hvr : valB r < 2 ^ m := by rw [← hrm]; exact valB_lt hrb
          have hb256 : b < 256 := by
            have := valB_lt (isBits_take hPb.out 8)
            rw [ht8, ← hb0] at this; exact this
          have hbits : bitsOf (O ++ [UInt8.ofNat b]) ++ r = bitsOf O ++ P := by
            have h1 := bitsK_valB (isBits_take hPb.out 8)
            rw [ht8, ← hb0] at h1
            have h2 : (UInt8.ofNat b).toNat = b := by simp; omega
            rw [bitsOf_append, bitsOf_cons, bitsOf_nil, List.append_nil, h2, h1, List.append_assoc, ← hPs]
          have hshr : ((valB P : Nat) : Int) / 2 ^ m = (b : Int) := by
            have : valB P / 2 ^ m = b := by rw [hvq, Nat.mul_comm, Nat.mul_add_div (Nat.two_pow_pos m), Nat.div_eq_of_lt hvr, Nat.add_zero]
            rw [← this]; simp
          have hmod : valB P % 2 ^ m = valB r := by rw [hvq, Nat.mul_comm, Nat.mul_add_mod, Nat.mod_eq_of_lt hvr]
          have hw8 : IntKind.u8.wrap (b : Int) = (b : Int) := by rw [IntKind.wrap_u8]; omega
          replace hbits := hid hbits
          replace hmod := hid hmod
          replace hrb := hid hrb
          have hbs : ((b : Nat) : Int) = (((UInt8.ofNat b).toNat : Nat) : Int) := by simp; omega
          replace hbs := hid hbs
          replace hrm := hid hrm
          clear hvq hPs hr0 hb0 hm ht8 hvr
          go_wp2_with (at_builtin; refine wpList_append_own_at _ rfl _ _ 83 rfl (w.heap.size + 1) 5 i _ 1 1 Tryz.underlying83 hi.out hz0.out hz1.out hz2.out rfl (by decide) _ _ _ rfl (World.ownsRow.alloc hOY.out _) ⟨Y.heap.size, 0, none⟩ 1 1 [.int .u8 (b : Int)] rfl rfl (cell_one_new _ _ _) (fun x hx => by simp at hx; subst hx; rfl) (by unfold maxLen; omega) (by omega) (by simp; omega) ?_; intro v1 w2 hown1 hgrow1 hnil1 hat1)
          have hok := fun g hg => World.ownsRow.lt hOY.out g hg
          have hgr : ∀ g, Value.ownBlock (.slice q O.length c0) = some g → w.heap.size + 1 ≤ g := fun g hg => (hok g hg).1
          go_roundw
          case rel =>
            refine ⟨n + 1, r, vs ++ [d], O ++ [UInt8.ofNat b], by go_num, by omega, by rw [bitMask_any (valB P) m (by omega) (by omega), hmod.out], by rw [hrm.out], by rw [hrm.out]; omega, by simp; omega, hrb, hsc2, hid (by rw [hvs2.out, hbits.out]), hid ?_, hid ?_, hid ?_, by have := hgrow1.size; simp at this; omega⟩
            · unfold Bytes
              rw [Lib.byteCells_append, List.length_append]
              have e : Lib.byteCells [UInt8.ofNat b] = [.int .u8 (b : Int)] := by rw [hbs.out]; rfl
              rw [e]; exact hown1
            · exact grown_rowB (hrY.out.alloc _) hgrow1 (fun e => by have := hgr _ e.symm; omega)
            · exact below_grownB (below_al hBY.out _) hgrow1 (fun k hk => by have := hgr k hk; omega) (Nat.le_refl _)
          case measure => simp [intOf]; omega
        · have h8d : decide ((8 : Int) ≤ ((P.length : Nat) : Int)) = false := by rw [decide_eq_false_iff_not]; omega
          go_wp2
          go_roundw
          case rel => exact ⟨n + 1, P, vs ++ [d], O, by go_num, by omega, rfl, rfl, by omega, by omega, hPb, hsc2, hvs2, hOY, hrY, hBY, hzY⟩
          case measure => simp [intOf]; omega
      · have hzd : decide ((0 : Int) ≤ z) = false := decide_eq_false hz0'
        cases hfill : fill with
        | false =>
          have hnone : scanP L fill t.data.toList = none := by
            rw [hsc.out, hdrop.out, scanP, ← hz.out, if_neg hz0', if_neg (by rw [hfill]; simp)]; rfl
          have hVV : V = .tuple #[.string ⟨#[]⟩, .int .i64 4] := by rw [hV.out, decV, decP, hnone]
          replace hVV := hid hVV
          subst hfill
          clear hnone
          go_wp2
          try rw [Exit.noGoto_ret]
          go_ret2
          exact ⟨by rw [hVV.out]; rfl, hBX.out⟩
        | true =>
          subst hfill
          have hul : (t.extract n t.size).toList = t[n] :: t.data.toList.drop (n + 1) := by
            rw [ByteArray.toList_eq, Lib.extract_data, List.take_of_length_le (by simp), hdrop.out]
          by_cases hd1 : t[n] = 61 ∧ t.data.toList.drop (n + 1) = []
          · rw [hd1.1, hd1.2] at hul
            have hscF : scanP L true t.data.toList = some vs := by
              rw [hsc.out, hdrop.out, scanP, ← hz.out, if_neg hz0', if_pos ⟨rfl, .inl ⟨hd1.2, hd1.1⟩⟩]; simp
            obtain ⟨Z, hZ⟩ : ∃ Z : World, Z = X := ⟨_, rfl⟩
            have hOZ := hOX
            have hrZ := hrX
            have hBZ := hBX
            have hzZ := hzX
            rw [← hZ] at hOZ hrZ hBZ hzZ ⊢
            clear hd1 hZ hOX hrX hBX hzX hsc hdrop e1 e2 hz
            have hout : outOf k vs = O := by rw [outOf, hvs.out, bytesOf_bits _ _ hp8]
            obtain ⟨S, hS⟩ : ∃ S : ByteArray, S = ⟨O.toArray⟩ := ⟨_, rfl⟩
            have hSl : S.data.toList = O := by rw [hS]
            have hSs : S.size ≤ 100000 := by rw [hS]; simp [ByteArray.size]; omega
            have LE1 := fun w => LE.out S hSs w
            rw [hSl] at LE1
            obtain ⟨T, hT⟩ : ∃ T : ByteArray, T = ⟨(enc L k true O).toArray⟩ := ⟨_, rfl⟩
            have hTl : T.data.toList = enc L k true O := by rw [hT]
            rw [← hT] at LE1
            have hcv : (convert 83 9 (.slice q O.length c0)).run Tryz.prog Z = .ok (.string S) Z := by rw [hS]; exact hOZ.out.string rfl
            have c0' : Z.cell? ⟨w.heap.size, 0, none⟩ = some (.string L) := hrZ.out.cell rfl
            have c1' : Z.cell? ⟨w.heap.size, 1, none⟩ = some (.int .i64 k) := hrZ.out.cell rfl
            have c2' : Z.cell? ⟨w.heap.size, 2, none⟩ = some (.bool true) := hrZ.out.cell rfl
            have hdec : decP L k true t.data.toList = if T = t then some O else none := by
              rw [decP, hscF]
              simp only [hout]
              by_cases e : T = t
              · rw [if_pos e, if_pos (by rw [← hTl, e])]
              · rw [if_neg e, if_neg (fun e2 => e (ByteArray.ext (Array.ext' (by rw [hTl, e2]))))]
            unfold alpha at LE1
            replace LE1 := hid LE1
            clear hout hSl hT hTl hscF hvs
            by_cases hTt : T = t
            · rw [if_pos hTt] at hdec
              have hVV : V = .tuple #[.string S, .int .i64 0] := by rw [hV.out, decV, hdec, hS]
              replace hVV := hid hVV
              replace hS := hid hS
              clear hdec
              go_wp2_with (go_at_call 46; refine (LE1.out _).mono ?_; rintro e w6 ⟨rfl, hB6⟩
                           have hcv6 : (convert 83 9 (.slice q O.length c0)).run Tryz.prog w6 = .ok (.string S) w6 := by rw [hS.out]; exact (hOZ.out.below hB6).string rfl)
              try rw [Exit.noGoto_ret]
              go_ret2
              exact ⟨by rw [hVV.out]; rfl, below_cat hB6 hBZ.out⟩
            · rw [if_neg hTt] at hdec
              have hVV : V = .tuple #[.string ⟨#[]⟩, .int .i64 4] := by rw [hV.out, decV, hdec]
              have hne : (T.toList == t.toList) = false := by rw [toList_beqB, decide_eq_false hTt]
              replace hVV := hid hVV
              clear hdec hS
              go_wp2_with (go_at_call 46; refine (LE1.out _).mono ?_; rintro e w6 ⟨rfl, hB6⟩)
              try rw [Exit.noGoto_ret]
              go_ret2
              exact ⟨by rw [hVV.out]; rfl, below_cat hB6 hBZ.out⟩
          · by_cases hd2 : t[n] = 61 ∧ t.data.toList.drop (n + 1) = [61]
            · rw [hd2.1, hd2.2] at hul
              clear hd1
              have hscF : scanP L true t.data.toList = some vs := by
                rw [hsc.out, hdrop.out, scanP, ← hz.out, if_neg hz0', if_pos ⟨rfl, .inr ⟨hd2.1, hd2.2⟩⟩]; simp
              obtain ⟨Z, hZ⟩ : ∃ Z : World, Z = X := ⟨_, rfl⟩
              have hOZ := hOX
              have hrZ := hrX
              have hBZ := hBX
              have hzZ := hzX
              rw [← hZ] at hOZ hrZ hBZ hzZ ⊢
              clear hd2 hZ hOX hrX hBX hzX hsc hdrop e1 e2 hz
              have hout : outOf k vs = O := by rw [outOf, hvs.out, bytesOf_bits _ _ hp8]
              obtain ⟨S, hS⟩ : ∃ S : ByteArray, S = ⟨O.toArray⟩ := ⟨_, rfl⟩
              have hSl : S.data.toList = O := by rw [hS]
              have hSs : S.size ≤ 100000 := by rw [hS]; simp [ByteArray.size]; omega
              have LE1 := fun w => LE.out S hSs w
              rw [hSl] at LE1
              obtain ⟨T, hT⟩ : ∃ T : ByteArray, T = ⟨(enc L k true O).toArray⟩ := ⟨_, rfl⟩
              have hTl : T.data.toList = enc L k true O := by rw [hT]
              rw [← hT] at LE1
              have hcv : (convert 83 9 (.slice q O.length c0)).run Tryz.prog Z = .ok (.string S) Z := by rw [hS]; exact hOZ.out.string rfl
              have c0' : Z.cell? ⟨w.heap.size, 0, none⟩ = some (.string L) := hrZ.out.cell rfl
              have c1' : Z.cell? ⟨w.heap.size, 1, none⟩ = some (.int .i64 k) := hrZ.out.cell rfl
              have c2' : Z.cell? ⟨w.heap.size, 2, none⟩ = some (.bool true) := hrZ.out.cell rfl
              have hdec : decP L k true t.data.toList = if T = t then some O else none := by
                rw [decP, hscF]
                simp only [hout]
                by_cases e : T = t
                · rw [if_pos e, if_pos (by rw [← hTl, e])]
                · rw [if_neg e, if_neg (fun e2 => e (ByteArray.ext (Array.ext' (by rw [hTl, e2]))))]
              unfold alpha at LE1
              replace LE1 := hid LE1
              clear hout hSl hT hTl hscF hvs
              by_cases hTt : T = t
              · rw [if_pos hTt] at hdec
                have hVV : V = .tuple #[.string S, .int .i64 0] := by rw [hV.out, decV, hdec, hS]
                replace hVV := hid hVV
                replace hS := hid hS
                clear hdec
                go_wp2_with (go_at_call 46; refine (LE1.out _).mono ?_; rintro e w6 ⟨rfl, hB6⟩
                             have hcv6 : (convert 83 9 (.slice q O.length c0)).run Tryz.prog w6 = .ok (.string S) w6 := by rw [hS.out]; exact (hOZ.out.below hB6).string rfl)
                try rw [Exit.noGoto_ret]
                go_ret2
                exact ⟨by rw [hVV.out]; rfl, below_cat hB6 hBZ.out⟩
              · rw [if_neg hTt] at hdec
                have hVV : V = .tuple #[.string ⟨#[]⟩, .int .i64 4] := by rw [hV.out, decV, hdec]
                have hne : (T.toList == t.toList) = false := by rw [toList_beqB, decide_eq_false hTt]
                replace hVV := hid hVV
                clear hdec hS
                go_wp2_with (go_at_call 46; refine (LE1.out _).mono ?_; rintro e w6 ⟨rfl, hB6⟩)
                try rw [Exit.noGoto_ret]
                go_ret2
                exact ⟨by rw [hVV.out]; rfl, below_cat hB6 hBZ.out⟩
            · have hb1 : ((t.extract n t.size).toList == [61]) = false := by
                rw [hul, beq_eq_false_iff_ne]
                intro e; injection e with e1 e2; exact hd1 ⟨e1, e2⟩
              have hb2 : ((t.extract n t.size).toList == [61, 61]) = false := by
                rw [hul, beq_eq_false_iff_ne]
                intro e; injection e with e1 e2; exact hd2 ⟨e1, e2⟩
              have hnone : scanP L true t.data.toList = none := by
                rw [hsc.out, hdrop.out, scanP, ← hz.out, if_neg hz0', if_neg]; rfl
                rintro ⟨_, h | h⟩
                · exact hd1 ⟨h.2, h.1⟩
                · exact hd2 h
              have hVV : V = .tuple #[.string ⟨#[]⟩, .int .i64 4] := by rw [hV.out, decV, decP, hnone]
              replace hVV := hid hVV
              clear hnone hul hd1 hd2
              go_wp2
              try rw [Exit.noGoto_ret]
              go_ret2
              exact ⟨by rw [hVV.out]; rfl, hBX.out⟩
    · obtain rfl : n = t.size := by omega
      have hscF : scanP L fill t.data.toList = some vs := by
        rw [hsc.out, List.drop_of_length_le (by rw [htl.out]; exact Nat.le_refl _)]; simp [scanP]
      obtain ⟨Z, hZ⟩ : ∃ Z : World, Z = wr := ⟨_, rfl⟩
      have hOZ := hO
      have hrZ := hr
      have hBZ := hB
      have hzZ := hsz
      rw [← hZ] at hOZ hrZ hBZ hzZ ⊢
      clear hZ hO hr hB hsz hsc
      have hout : outOf k vs = O := by rw [outOf, hvs.out, bytesOf_bits _ _ hp8]
      obtain ⟨S, hS⟩ : ∃ S : ByteArray, S = ⟨O.toArray⟩ := ⟨_, rfl⟩
      have hSl : S.data.toList = O := by rw [hS]
      have hSs : S.size ≤ 100000 := by rw [hS]; simp [ByteArray.size]; omega
      have LE1 := fun w => LE.out S hSs w
      rw [hSl] at LE1
      obtain ⟨T, hT⟩ : ∃ T : ByteArray, T = ⟨(enc L k fill O).toArray⟩ := ⟨_, rfl⟩
      have hTl : T.data.toList = enc L k fill O := by rw [hT]
      rw [← hT] at LE1
      have hcv : (convert 83 9 (.slice q O.length c0)).run Tryz.prog Z = .ok (.string S) Z := by rw [hS]; exact hOZ.out.string rfl
      have c0' : Z.cell? ⟨w.heap.size, 0, none⟩ = some (.string L) := hrZ.out.cell rfl
      have c1' : Z.cell? ⟨w.heap.size, 1, none⟩ = some (.int .i64 k) := hrZ.out.cell rfl
      have c2' : Z.cell? ⟨w.heap.size, 2, none⟩ = some (.bool fill) := hrZ.out.cell rfl
      have hdec : decP L k fill t.data.toList = if T = t then some O else none := by
        rw [decP, hscF]
        simp only [hout]
        by_cases e : T = t
        · rw [if_pos e, if_pos (by rw [← hTl, e])]
        · rw [if_neg e, if_neg (fun e2 => e (ByteArray.ext (Array.ext' (by rw [hTl, e2]))))]
      unfold alpha at LE1
      replace LE1 := hid LE1
      clear hout hSl hT hTl hscF hvs
      by_cases hTt : T = t
      · rw [if_pos hTt] at hdec
        have hVV : V = .tuple #[.string S, .int .i64 0] := by rw [hV.out, decV, hdec, hS]
        replace hVV := hid hVV
        replace hS := hid hS
        clear hdec
        go_wp2_with (go_at_call 46; refine (LE1.out _).mono ?_; rintro e w6 ⟨rfl, hB6⟩
                     have hcv6 : (convert 83 9 (.slice q O.length c0)).run Tryz.prog w6 = .ok (.string S) w6 := by rw [hS.out]; exact (hOZ.out.below hB6).string rfl)
        try rw [Exit.noGoto_ret]
        go_ret2
        exact ⟨by rw [hVV.out]; rfl, below_cat hB6 hBZ.out⟩
      · rw [if_neg hTt] at hdec
        have hVV : V = .tuple #[.string ⟨#[]⟩, .int .i64 4] := by rw [hV.out, decV, hdec]
        have hne : (T.toList == t.toList) = false := by rw [toList_beqB, decide_eq_false hTt]
        replace hVV := hid hVV
        clear hdec hS
        go_wp2_with (go_at_call 46; refine (LE1.out _).mono ?_; rintro e w6 ⟨rfl, hB6⟩)
        try rw [Exit.noGoto_ret]
        go_ret2
        exact ⟨by rw [hVV.out]; rfl, below_cat hB6 hBZ.out⟩
end Go.Proofs.YtdjlpmelmhhooaaGreatDoor
