/- The document's index, Decode. -/
import Derived.Test.YtdjlpmelmhhooaaGreatDoorBasX3
namespace Go.Proofs.YtdjlpmelmhhooaaGreatDoor
open Go Go.RowKit
set_option linter.unusedSimpArgs false

theorem idx_is {l : List UInt8} {c : UInt8} {k : Nat} (h : l[k]? = some c) (hn : ∀ j, j < k → l[j]? ≠ some c) : Lib.indexByte l c = (k : Int) := by
  have hge := Lib.indexByte_ge l c
  by_cases h1 : Lib.indexByte l c = -1
  · exact absurd h (Lib.indexByte_none h1 k)
  · obtain ⟨o, ho⟩ := Int.eq_ofNat_of_zero_le (show 0 ≤ Lib.indexByte l c by omega)
    obtain ⟨h2, h3⟩ := Lib.indexByte_some ho
    rw [ho]
    rcases Nat.lt_trichotomy o k with h4 | h4 | h4
    · exact absurd h2 (hn o h4)
    · rw [h4]
    · exact absurd h (h3 k h4)
theorem idx_not {l : List UInt8} {c : UInt8} (hn : ∀ j, j < l.length → l[j]? ≠ some c) : Lib.indexByte l c = -1 := by
  have hge := Lib.indexByte_ge l c
  by_cases h1 : Lib.indexByte l c = -1
  · exact h1
  · obtain ⟨o, ho⟩ := Int.eq_ofNat_of_zero_le (show 0 ≤ Lib.indexByte l c by omega)
    obtain ⟨h2, _⟩ := Lib.indexByte_some ho
    exact absurd h2 (hn o (idx_lt ho))
set_option maxRecDepth 100000 in
theorem refIndex_any (l : ByteArray) (c : UInt8) (hl : l.size ≤ 100000) (w : World) :
    Calls Tryz.prog 94 #[.string l, .int .u8 (c.toNat : Int)] w fun e w' => e = .returned (.int .i64 (Lib.indexByte l.data.toList c)) ∧ w = w' := by
  obtain ⟨z, hz⟩ : ∃ z, z = Lib.indexByte l.data.toList c := ⟨_, rfl⟩
  rw [← hz]
  replace hz := hid hz
  go_enter Tryz.func94, Tryz.ntmps94
  go_wp2
  go_loop [5] (fun i => ∃ k : Nat, i = .int .i64 k ∧ k ≤ l.size ∧ Hid (∀ j, j < k → l.data.toList[j]? ≠ some c)) (fun i => l.size - (intOf i).toNat)
  case atStart => exact ⟨0, rfl, Nat.zero_le _, hid (fun j h => by omega)⟩
  case round =>
    obtain ⟨k, rfl, hk, hn⟩ := hrel
    by_cases hlt : k < l.size
    · have hd : decide ((k : Int) < (l.size : Int)) = true := by rw [decide_eq_true_iff]; omega
      have hlti : (k : Int) < (l.size : Int) := by omega
      have hget : l.data.toList[k]? = some l[k] := by rw [List.getElem?_eq_getElem (by simpa using hlt)]; rfl
      replace hget := hid hget
      by_cases he : l[k] = c
      · have hb : (((l[k].toNat : Nat) : Int) == ((c.toNat : Nat) : Int)) = true := by rw [he]; simp
        have hzk : z = (k : Int) := by rw [hz.out]; exact idx_is (by rw [hget.out, he]) hn.out
        replace hzk := hid hzk
        clear he
        go_wp2
        go_ret
        exact ⟨ret_int (by rw [hzk.out]), rfl⟩
      · have hb : (((l[k].toNat : Nat) : Int) == ((c.toNat : Nat) : Int)) = false := by
          rw [beq_eq_false_iff_ne]; intro e; exact he (UInt8.toNat.inj (by omega))
        have hn2 : ∀ j, j < k + 1 → l.data.toList[j]? ≠ some c := fun j hj => by
          by_cases e : j = k
          · rw [e, hget.out]; intro e2; exact he (Option.some.inj e2)
          · exact hn.out j (by omega)
        replace hn2 := hid hn2
        clear he
        go_wp2
        go_round
        case rel => exact ⟨k + 1, by go_num, by omega, hn2⟩
        case measure => simp [intOf]; omega
    · obtain rfl : k = l.size := by omega
      have hzk : z = -1 := by rw [hz.out]; exact idx_not (by simpa using hn.out)
      replace hzk := hid hzk
      go_wp2
      go_ret
      exact ⟨ret_int (by rw [hzk.out]), rfl⟩

/-- What the document hands back. -/
def refV (L : ByteArray) (k : Nat) (fill : Bool) (t : List UInt8) : Value :=
  match scanA L (headOf fill t) with
  | none => .tuple #[.string ⟨#[]⟩, .bool false]
  | some vs => .tuple #[.string ⟨(outOf k vs).toArray⟩, .bool (decide (enc L k fill (outOf k vs) = t))]
theorem bitsK_take (k d m : Nat) (h : m < k) : (bitsK k d).take (m + 1) = (bitsK k d).take m ++ [d / 2 ^ (k - 1 - m) % 2] := by
  rw [List.take_add_one, bitsK_get k d m h]; rfl

set_option maxRecDepth 100000 in
set_option maxHeartbeats 4000000 in
theorem refDecode_any (kn : Nat) (t : ByteArray) (ht : t.size ≤ 10000) (w : World) : Calls Tryz.prog 50 #[.int .i64 (kn : Int), .string t] w fun e w' =>
    e = .returned (refV (KL kn) (Kk kn) (Kf kn) t.data.toList) ∧ Below w.heap.size w w' := by
  obtain ⟨i, hi, hz0, hz1, hz2⟩ := info_parts info_u8b
  replace hi := hid hi
  replace hz0 := hid hz0
  replace hz1 := hid hz1
  replace hz2 := hid hz2
  have hG := kind_good kn
  have LL := hid fun w => refLetters_any kn w
  have LB := hid fun w => refBits_any kn w
  have LE := hid fun (s : ByteArray) (hs : s.size ≤ 100000) w => refEncode_any kn s hs w
  have hkf : Kf kn = decide (kn = 1) := rfl
  obtain ⟨L, hL⟩ : ∃ L, L = KL kn := ⟨_, rfl⟩
  obtain ⟨k, hk⟩ : ∃ k, k = Kk kn := ⟨_, rfl⟩
  obtain ⟨fill, hf⟩ : ∃ f, f = Kf kn := ⟨_, rfl⟩
  rw [← hL, ← hk, ← hf] at hG LE ⊢
  rw [← hL] at LL
  rw [← hk] at LB
  rw [← hf] at hkf
  have hk46 := hG.k46
  have hk6 : k ≤ 6 := by omega
  have hki : (k : Int) ≤ 6 := by omega
  have hkz : 0 < k := by omega
  have hLs : L.size ≤ 64 := by rw [hG.size]; rcases hk46 with h | h <;> rw [h] <;> decide
  have LI := hid fun c w => refIndex_any L c (by omega) w
  replace hk46 := hid hk46
  replace hG := hid hG
  replace hkf := hid hkf
  obtain ⟨V, hV⟩ : ∃ V, V = refV L k fill t.data.toList := ⟨_, rfl⟩
  rw [← hV]
  replace hV := hid hV
  clear hL hk hf
  go_enter Tryz.func50, Tryz.ntmps50
  go_wp2_with (first
    | (go_at_call 92; refine (LL.out _).mono ?_; rintro e w' ⟨rfl, rfl⟩)
    | (go_at_call 93; refine (LB.out _).mono ?_; rintro e w' ⟨rfl, rfl⟩))
  go_loop [8] (fun v => ∃ N : Nat, v = .int .i64 N ∧ N ≤ t.size ∧ Hid (headOf fill t.data.toList = t.data.toList.take (if fill then stripN t.data.toList N else t.size)) ∧ (fill = false → N = t.size)) (fun v => (intOf v).toNat)
  case atStart => exact ⟨t.size, rfl, Nat.le_refl _, hid (by unfold headOf; cases fill <;> simp), fun _ => rfl⟩
  case round =>
    obtain ⟨N, rfl, hN, hh, hff⟩ := hrel
    by_cases hk1 : kn = 1
    · have hk1' : ((kn : Int) == 1) = true := by rw [beq_iff_eq]; omega
      have hft : fill = true := by rw [hkf.out, decide_eq_true hk1]
      rw [if_pos hft] at hh
      clear hk1
      by_cases hN0 : N = 0
      · have hd0 : decide (0 < N) = false := by rw [decide_eq_false_iff_not]; omega
        have hh2 : headOf fill t.data.toList = t.data.toList.take N := by rw [hh.out, hN0]; rfl
        clear hN0
        have hNi : (N : Int) ≤ (t.size : Int) := by omega
        obtain ⟨H, hH⟩ : ∃ H, H = t.data.toList.take N := ⟨_, rfl⟩
        have hHl : H.length = N := by rw [hH]; simp; omega
        have hHg : ∀ n (hn : n < N), H.drop n = t[n] :: H.drop (n + 1) := fun n hn => by
          rw [List.drop_eq_getElem_cons (by rw [hHl]; exact hn)]
          congr 1
          simp only [hH, List.getElem_take]; rfl
        rw [← hH] at hh2
        have hVs : V = refV L k fill t.data.toList := hV.out
        have hV2 : V = match scanA L H with | none => .tuple #[.string ⟨#[]⟩, .bool false] | some vs => .tuple #[.string ⟨(outOf k vs).toArray⟩, .bool (decide (enc L k fill (outOf k vs) = t.data.toList))] := by
          rw [hVs, refV, hh2]
        replace hV2 := hid hV2
        replace hHl := hid hHl
        replace hHg := hid hHg
        clear hH hVs hh2 hh hff
        go_wp2
        clear hd0
        go_loopw [9, 10, 11, 12] (fun v h a i wr => ∃ (n : Nat) (p vs : List Nat) (O : List UInt8), i = .int .i64 n ∧ n ≤ N ∧ h = .int .i64 (valB p : Nat) ∧ a = .int .i64 (p.length : Nat) ∧ p.length < 8 ∧ O.length ≤ n ∧ Hid (IsBits p) ∧
            Hid (scanA L H = (scanA L (H.drop n)).map (vs ++ ·)) ∧ Hid (vs.flatMap (bitsK k) = bitsOf O ++ p) ∧ Hid (Bytes wr w.heap.size v O) ∧ Hid (Below w.heap.size w wr) ∧ w.heap.size ≤ wr.heap.size)
          (fun _ _ _ i _ => N - (intOf i).toNat)
        case atStart => exact ⟨0, [], [], [], rfl, Nat.zero_le _, rfl, rfl, by simp, Nat.zero_le _, hid (fun _ h => by cases h), hid (by simp), hid rfl, hid (World.ownsRow_nil _ _ _ _), hid (Below.refl _ _), Nat.le_refl _⟩
        case round =>
          obtain ⟨n, p, vs, O, rfl, hn, rfl, rfl, hp8, hOn, hp, hsc, hvs, hO, hB, hsz⟩ := hrel
          obtain ⟨q, c0, rfl⟩ := hO.out.shape
          by_cases hlt : n < N
          · have hlt' : decide ((n : Int) < (N : Int)) = true := by rw [decide_eq_true_iff]; omega
            have hnt : n < t.size := by omega
            have hlti : (n : Int) < (t.size : Int) := by omega
            have hdrop := hHg.out n hlt
            obtain ⟨z, hz⟩ : ∃ z, z = Lib.indexByte L.data.toList t[n] := ⟨_, rfl⟩
            have LI1 := fun w => LI.out t[n] w
            rw [← hz] at LI1
            replace LI1 := hid LI1
            replace hz := hid hz
            replace hdrop := hid hdrop
            by_cases hz0' : z < 0
            · have hzd : decide (z < (0 : Int)) = true := decide_eq_true hz0'
              have hVV : V = .tuple #[.string ⟨#[]⟩, .bool false] := by
                rw [hV2.out, hsc.out, hdrop.out, scanA, ← hz.out, if_neg (by omega)]; rfl
              replace hVV := hid hVV
              go_wp2_with (go_at_call 94; refine (LI1.out _).mono ?_; rintro e w' ⟨rfl, rfl⟩)
              go_ret2
              exact ⟨by rw [hVV.out]; rfl, hB.out⟩
            · have hzd : decide (z < (0 : Int)) = false := decide_eq_false hz0'
              obtain ⟨d, rfl⟩ := Int.eq_ofNat_of_zero_le (show 0 ≤ z by omega)
              have hdk : d < 2 ^ k := by
                have := idx_lt hz.out.symm
                have h2 := hG.out.size
                rw [show L.data.toList.length = L.size by simp, h2] at this; exact this
              have hd64 : d < 64 := Nat.lt_of_lt_of_le hdk (by rcases hk46.out with h | h <;> rw [h] <;> decide)
              have hsc2 : scanA L H = (scanA L (H.drop (n + 1))).map ((vs ++ [d]) ++ ·) := by
                rw [hsc.out, hdrop.out, scanA, ← hz.out, if_pos (by omega), Option.map_map]
                congr 1; funext x; simp
              have hvs2 : (vs ++ [d]).flatMap (bitsK k) = bitsOf O ++ p ++ bitsK k d := by rw [List.flatMap_append, hvs.out]; simp
              replace hsc2 := hid hsc2
              replace hvs2 := hid hvs2
              have hki1 : (0 : Int) ≤ (k : Int) - 1 := by omega
              clear hsc hvs hdrop hz
              go_wp2_with (go_at_call 94; refine (LI1.out _).mono ?_; rintro e w' ⟨rfl, rfl⟩)
              obtain ⟨wo, rfl⟩ : ∃ wo : World, wo = wr := ⟨_, rfl⟩
              go_loopw [9, 10, 11, 14] (fun v h a j wx => ∃ (m : Nat) (p1 : List Nat) (O1 : List UInt8), j = .int .i64 ((k : Int) - 1 - (m : Int)) ∧ m ≤ k ∧ h = .int .i64 (valB p1 : Nat) ∧ a = .int .i64 (p1.length : Nat) ∧ p1.length < 8 ∧ Hid (IsBits p1) ∧
                  Hid (bitsOf O1 ++ p1 = bitsOf O ++ p ++ (bitsK k d).take m) ∧ Hid (Bytes wx w.heap.size v O1) ∧ Hid (Below w.heap.size w wx) ∧ w.heap.size ≤ wx.heap.size)
                (fun _ _ _ j _ => (intOf j + 1).toNat)
              case atStart => exact ⟨0, p, O, by simp, Nat.zero_le _, rfl, rfl, hp8, hp, hid (by simp), hO, hB, hsz⟩
              case round =>
                clear hO hB hsz
                obtain ⟨m, p1, O1, rfl, hm, rfl, rfl, hp18, hp1, hbits, hO, hB, hsz⟩ := hrel
                obtain ⟨q1, c1, rfl⟩ := hO.out.shape
                have hO1n : O1.length ≤ n + 1 := by
                  have h1 := congrArg List.length hbits.out
                  simp only [List.length_append, bitsOf_len, List.length_take, bitsK_len] at h1
                  omega
                by_cases hmk : m < k
                · obtain ⟨J, hJ⟩ : ∃ J, J = k - 1 - m := ⟨_, rfl⟩
                  have hJi : (k : Int) - 1 - (m : Int) = (J : Int) := by omega
                  have hJ5 : J ≤ 5 := by omega
                  have hJ5i : (J : Int) ≤ 5 := by omega
                  have htk := bitsK_take k d m hmk
                  rw [← hJ] at htk
                  rw [hJi]
                  replace htk := hid htk
                  have hd64i : (d : Int) < 64 := by omega
                  have hJm : J + m + 1 = k := by omega
                  clear hJ hJi
                  go_wp2
                  go_loop [15, 16] (fun v x => ∃ e : Nat, e ≤ J ∧ x = .int .i64 e ∧ v = .int .i64 (d / 2 ^ e : Nat)) (fun _ x => J - (intOf x).toNat)
                  case atStart => exact ⟨0, Nat.zero_le _, rfl, by simp⟩
                  case round =>
                    obtain ⟨e, he, rfl, rfl⟩ := hrel
                    have hle : d / 2 ^ e ≤ 64 := Nat.le_trans (Nat.div_le_self _ _) (by omega)
                    by_cases heJ : e < J
                    · have hd' : decide ((e : Int) < (J : Int)) = true := by rw [decide_eq_true_iff]; omega
                      have hdiv : d / 2 ^ (e + 1) = d / 2 ^ e / 2 := by rw [Nat.pow_succ, Nat.div_div_eq_div_mul]
                      obtain ⟨v, hv⟩ : ∃ v, v = d / 2 ^ e := ⟨_, rfl⟩
                      rw [← hv] at hdiv hle ⊢
                      replace hdiv := hid hdiv
                      clear hv
                      go_wp2
                      go_round
                      case rel => exact ⟨e + 1, by omega, by go_num, by rw [hdiv.out]; go_num⟩
                      case measure => simp [intOf] <;> omega
                    · obtain rfl : e = J := by omega
                      obtain ⟨v, hv⟩ : ∃ v, v = d / 2 ^ e := ⟨_, rfl⟩
                      obtain ⟨b, hb⟩ : ∃ b, b = v % 2 := ⟨_, rfl⟩
                      rw [← hv, ← hb] at htk
                      rw [← hv] at hle ⊢
                      have hbi : (v : Int) % 2 = (b : Int) := by omega
                      have hb2 : b < 2 := by omega
                      have hb2i : (b : Int) < 2 := by omega
                      obtain ⟨P, hP⟩ : ∃ P, P = p1 ++ [b] := ⟨_, rfl⟩
                      have hPv : 2 * valB p1 + b = valB P := by rw [hP, valB_snoc]
                      have hPl : P.length = p1.length + 1 := by rw [hP]; simp
                      have hPb : IsBits P := by rw [hP, isBits_append]; exact ⟨hp1.out, fun x hx => by simp at hx; omega⟩
                      have hvp := valB_lt hp1.out
                      have hv128 : valB p1 < 128 := Nat.lt_of_lt_of_le hvp (Nat.pow_le_pow_right (by omega) (show p1.length ≤ 7 by omega))
                      have hPbits : bitsOf O1 ++ P = bitsOf O ++ p ++ (bitsK k d).take (m + 1) := by rw [htk.out, hP, ← List.append_assoc, hbits.out]; simp
                      have hPvi : 2 * ((valB p1 : Nat) : Int) + (b : Int) = ((valB P : Nat) : Int) := by omega
                      have hPli : ((p1.length : Nat) : Int) + 1 = ((P.length : Nat) : Int) := by omega
                      have hPv256 : valB P < 256 := by omega
                      have hPl8 : P.length ≤ 8 := by omega
                      have hv128i : ((valB p1 : Nat) : Int) < 128 := by omega
                      have hp18i : ((p1.length : Nat) : Int) < 8 := by omega
                      replace hPb := hid hPb
                      replace hPbits := hid hPbits
                      clear hv hb hP hPv hPl hvp htk hbits hp1
                      by_cases h8 : P.length = 8
                      · have h8d : (((P.length : Nat) : Int) == 8) = true := by rw [beq_iff_eq]; omega
                        have hw8 : IntKind.u8.wrap ((valB P : Nat) : Int) = ((valB P : Nat) : Int) := by rw [IntKind.wrap_u8]; omega
                        have hby : bitsOf (O1 ++ [UInt8.ofNat (valB P)]) ++ [] = bitsOf O1 ++ P := by
                          have h1 := bitsK_valB hPb.out
                          rw [h8] at h1
                          have h2 : (UInt8.ofNat (valB P)).toNat = valB P := by simp; omega
                          rw [List.append_nil, bitsOf_append, bitsOf_cons, bitsOf_nil, List.append_nil, h2, h1]
                        have hbs : ((valB P : Nat) : Int) = (((UInt8.ofNat (valB P)).toNat : Nat) : Int) := by simp; omega
                        replace hby := hid hby
                        replace hbs := hid hbs
                        go_wp2_with (at_builtin; refine wpList_append_own_at _ rfl _ _ 83 rfl w.heap.size 5 i _ 1 1 Tryz.underlying83 hi.out hz0.out hz1.out hz2.out rfl (by decide) _ _ _ rfl (World.ownsRow.alloc hO.out _) ⟨wr.heap.size, 0, none⟩ 1 1 [.int .u8 ((valB P : Nat) : Int)] rfl rfl (cell_one_new _ _ _) (fun x hx => by simp at hx; subst hx; rfl) (by unfold maxLen; omega) (by omega) (by simp; omega) ?_; intro v1 w2 hown1 hgrow1 hnil1 hat1)
                        go_roundw
                        case rel =>
                          refine ⟨m + 1, [], O1 ++ [UInt8.ofNat (valB P)], by go_num, by omega, rfl, rfl, by simp, hid (fun _ h => by cases h), hid (by rw [hby.out, hPbits.out]), hid ?_, hid ?_, by have := hgrow1.size; simp at this; omega⟩
                          · unfold Bytes
                            rw [Lib.byteCells_append, List.length_append]
                            have e : Lib.byteCells [UInt8.ofNat (valB P)] = [.int .u8 ((valB P : Nat) : Int)] := by rw [hbs.out]; rfl
                            rw [e]; exact hown1
                          · exact below_grownB (below_al hB.out _) hgrow1 (fun g hg => (World.ownsRow.lt hO.out g hg).1) (Nat.le_refl _)
                        case measure => simp [intOf] <;> omega
                      · have h8d : (((P.length : Nat) : Int) == 8) = false := by rw [beq_eq_false_iff_ne]; omega
                        go_wp2
                        go_roundw
                        case rel => exact ⟨m + 1, P, O1, by go_num, by omega, rfl, rfl, by omega, hPb, hPbits, hO, hB, hsz⟩
                        case measure => simp [intOf] <;> omega
                · obtain rfl : m = k := by omega
                  have hj1 : (m : Int) - 1 - (m : Int) = -1 := by omega
                  have hfin : (vs ++ [d]).flatMap (bitsK m) = bitsOf O1 ++ p1 := by
                    rw [hvs2.out, hbits.out, List.take_of_length_le (by rw [bitsK_len]; exact Nat.le_refl _)]
                  replace hfin := hid hfin
                  rw [hj1]
                  clear hj1
                  go_wp2
                  go_roundw
                  case rel => exact ⟨n + 1, p1, vs ++ [d], O1, by go_num, by omega, rfl, rfl, hp18, by omega, hp1, hsc2, hfin, hO, hB, hsz⟩
                  case measure => simp [intOf] <;> omega
          · obtain rfl : n = N := by omega
            have hscF : scanA L H = some vs := by
              rw [hsc.out, List.drop_of_length_le (by rw [hHl.out]; exact Nat.le_refl _)]; simp [scanA]
            have hout : outOf k vs = O := by rw [outOf, hvs.out, bytesOf_bits _ _ hp8]
            have hVV : V = .tuple #[.string ⟨O.toArray⟩, .bool (decide (enc L k fill O = t.data.toList))] := by rw [hV2.out, hscF]; simp only [hout]
            obtain ⟨S, hS⟩ : ∃ S : ByteArray, S = ⟨O.toArray⟩ := ⟨_, rfl⟩
            have hSl : S.data.toList = O := by rw [hS]
            have hSs : S.size ≤ 100000 := by rw [hS]; simp [ByteArray.size]; omega
            have LE1 := fun w => LE.out S hSs w
            rw [hSl] at LE1
            obtain ⟨T, hT⟩ : ∃ T : ByteArray, T = ⟨(enc L k fill O).toArray⟩ := ⟨_, rfl⟩
            have hTl : T.data.toList = enc L k fill O := by rw [hT]
            rw [← hT] at LE1
            have hcv : ∀ x : Sub wr, (convert 83 9 (.slice q O.length c0)).run Tryz.prog x.x = .ok (.string S) x.x := fun x => by rw [hS]; exact (hO.out.below x.h).string rfl
            have hTb : (T.toList == t.toList) = decide (enc L k fill O = t.data.toList) := by
              rw [toList_beqB]
              congr 1
              rw [eq_iff_iff, ← hTl]
              constructor
              · rintro rfl; rfl
              · intro h; exact ByteArray.ext (Array.ext' h)
            obtain ⟨bb, hbb⟩ : ∃ bb, bb = decide (enc L k fill O = t.data.toList) := ⟨_, rfl⟩
            rw [← hbb] at hVV hTb
            rw [← hS] at hVV
            replace LE1 := hid LE1
            replace hVV := hid hVV
            clear hscF hout hS hSl hT hTl hbb hsc hvs
            go_wp2
            refine wp_region_sub (by kernel_rfl) (by kernel_rfl) ?_
            repeat (go_big_quiet_step (first
              | (go_at_call 52; with_reducible refine Sub.same _ (LE1.out _))))
            refine wpQuiet_nil ?_
            intro x
            go_wp2
            go_ret2
            exact ⟨by rw [hVV.out]; rfl, below_cat x.h hB.out⟩
      · have hd0 : decide ((0 : Int) < (N : Int)) = true := by rw [decide_eq_true_iff]; omega
        obtain ⟨M, rfl⟩ : ∃ M, N = M + 1 := ⟨N - 1, by omega⟩
        have hMt : M < t.size := by omega
        have hMi : ((M + 1 : Nat) : Int) - 1 = (M : Int) := by omega
        have hMti : (M : Int) < (t.size : Int) := by omega
        have hget : t.data.toList[M]? = some t[M] := by rw [List.getElem?_eq_getElem (by simpa using hMt)]; rfl
        by_cases h61 : t[M] = 61
        · have hb : (((t[M].toNat : Nat) : Int) == 61) = true := by rw [h61]; rfl
          have hst : stripN t.data.toList (M + 1) = stripN t.data.toList M := by rw [stripN, hget, h61, if_pos rfl]
          rw [hst] at hh
          clear hst h61 hget
          go_wp2
          go_round
          case rel => exact ⟨M, by go_num, by omega, by rw [if_pos hft]; exact hh, fun h => by rw [hft] at h; cases h⟩
          case measure => simp [intOf]
        · have h61n : t[M].toNat ≠ 61 := fun e => h61 (UInt8.toNat.inj (by rw [e]; rfl))
          have hb : (((t[M].toNat : Nat) : Int) == 61) = false := by rw [beq_eq_false_iff_ne]; omega
          clear h61n
          have hst : stripN t.data.toList (M + 1) = M + 1 := by rw [stripN, hget, if_neg]; intro e; exact h61 (Option.some.inj e)
          obtain ⟨N, hNM⟩ : ∃ N, N = M + 1 := ⟨_, rfl⟩
          have hh2 : headOf fill t.data.toList = t.data.toList.take N := by rw [hh.out, hst, hNM]
          have hMi2 : (N : Int) - 1 = (M : Int) := by omega
          rw [← hNM] at hN hd0 ⊢
          clear hst h61 hget hN0 hMi hNM
          have hNi : (N : Int) ≤ (t.size : Int) := by omega
          obtain ⟨H, hH⟩ : ∃ H, H = t.data.toList.take N := ⟨_, rfl⟩
          have hHl : H.length = N := by rw [hH]; simp; omega
          have hHg : ∀ n (hn : n < N), H.drop n = t[n] :: H.drop (n + 1) := fun n hn => by
            rw [List.drop_eq_getElem_cons (by rw [hHl]; exact hn)]
            congr 1
            simp only [hH, List.getElem_take]; rfl
          rw [← hH] at hh2
          have hVs : V = refV L k fill t.data.toList := hV.out
          have hV2 : V = match scanA L H with | none => .tuple #[.string ⟨#[]⟩, .bool false] | some vs => .tuple #[.string ⟨(outOf k vs).toArray⟩, .bool (decide (enc L k fill (outOf k vs) = t.data.toList))] := by
            rw [hVs, refV, hh2]
          replace hV2 := hid hV2
          replace hHl := hid hHl
          replace hHg := hid hHg
          clear hH hVs hh2 hh hff
          go_wp2
          clear hd0
          go_loopw [9, 10, 11, 12] (fun v h a i wr => ∃ (n : Nat) (p vs : List Nat) (O : List UInt8), i = .int .i64 n ∧ n ≤ N ∧ h = .int .i64 (valB p : Nat) ∧ a = .int .i64 (p.length : Nat) ∧ p.length < 8 ∧ O.length ≤ n ∧ Hid (IsBits p) ∧
              Hid (scanA L H = (scanA L (H.drop n)).map (vs ++ ·)) ∧ Hid (vs.flatMap (bitsK k) = bitsOf O ++ p) ∧ Hid (Bytes wr w.heap.size v O) ∧ Hid (Below w.heap.size w wr) ∧ w.heap.size ≤ wr.heap.size)
            (fun _ _ _ i _ => N - (intOf i).toNat)
          case atStart => exact ⟨0, [], [], [], rfl, Nat.zero_le _, rfl, rfl, by simp, Nat.zero_le _, hid (fun _ h => by cases h), hid (by simp), hid rfl, hid (World.ownsRow_nil _ _ _ _), hid (Below.refl _ _), Nat.le_refl _⟩
          case round =>
            obtain ⟨n, p, vs, O, rfl, hn, rfl, rfl, hp8, hOn, hp, hsc, hvs, hO, hB, hsz⟩ := hrel
            obtain ⟨q, c0, rfl⟩ := hO.out.shape
            by_cases hlt : n < N
            · have hlt' : decide ((n : Int) < (N : Int)) = true := by rw [decide_eq_true_iff]; omega
              have hnt : n < t.size := by omega
              have hlti : (n : Int) < (t.size : Int) := by omega
              have hdrop := hHg.out n hlt
              obtain ⟨z, hz⟩ : ∃ z, z = Lib.indexByte L.data.toList t[n] := ⟨_, rfl⟩
              have LI1 := fun w => LI.out t[n] w
              rw [← hz] at LI1
              replace LI1 := hid LI1
              replace hz := hid hz
              replace hdrop := hid hdrop
              by_cases hz0' : z < 0
              · have hzd : decide (z < (0 : Int)) = true := decide_eq_true hz0'
                have hVV : V = .tuple #[.string ⟨#[]⟩, .bool false] := by
                  rw [hV2.out, hsc.out, hdrop.out, scanA, ← hz.out, if_neg (by omega)]; rfl
                replace hVV := hid hVV
                go_wp2_with (go_at_call 94; refine (LI1.out _).mono ?_; rintro e w' ⟨rfl, rfl⟩)
                go_ret2
                exact ⟨by rw [hVV.out]; rfl, hB.out⟩
              · have hzd : decide (z < (0 : Int)) = false := decide_eq_false hz0'
                obtain ⟨d, rfl⟩ := Int.eq_ofNat_of_zero_le (show 0 ≤ z by omega)
                have hdk : d < 2 ^ k := by
                  have := idx_lt hz.out.symm
                  have h2 := hG.out.size
                  rw [show L.data.toList.length = L.size by simp, h2] at this; exact this
                have hd64 : d < 64 := Nat.lt_of_lt_of_le hdk (by rcases hk46.out with h | h <;> rw [h] <;> decide)
                have hsc2 : scanA L H = (scanA L (H.drop (n + 1))).map ((vs ++ [d]) ++ ·) := by
                  rw [hsc.out, hdrop.out, scanA, ← hz.out, if_pos (by omega), Option.map_map]
                  congr 1; funext x; simp
                have hvs2 : (vs ++ [d]).flatMap (bitsK k) = bitsOf O ++ p ++ bitsK k d := by rw [List.flatMap_append, hvs.out]; simp
                replace hsc2 := hid hsc2
                replace hvs2 := hid hvs2
                have hki1 : (0 : Int) ≤ (k : Int) - 1 := by omega
                clear hsc hvs hdrop hz
                go_wp2_with (go_at_call 94; refine (LI1.out _).mono ?_; rintro e w' ⟨rfl, rfl⟩)
                obtain ⟨wo, rfl⟩ : ∃ wo : World, wo = wr := ⟨_, rfl⟩
                go_loopw [9, 10, 11, 14] (fun v h a j wx => ∃ (m : Nat) (p1 : List Nat) (O1 : List UInt8), j = .int .i64 ((k : Int) - 1 - (m : Int)) ∧ m ≤ k ∧ h = .int .i64 (valB p1 : Nat) ∧ a = .int .i64 (p1.length : Nat) ∧ p1.length < 8 ∧ Hid (IsBits p1) ∧
                    Hid (bitsOf O1 ++ p1 = bitsOf O ++ p ++ (bitsK k d).take m) ∧ Hid (Bytes wx w.heap.size v O1) ∧ Hid (Below w.heap.size w wx) ∧ w.heap.size ≤ wx.heap.size)
                  (fun _ _ _ j _ => (intOf j + 1).toNat)
                case atStart => exact ⟨0, p, O, by simp, Nat.zero_le _, rfl, rfl, hp8, hp, hid (by simp), hO, hB, hsz⟩
                case round =>
                  clear hO hB hsz
                  obtain ⟨m, p1, O1, rfl, hm, rfl, rfl, hp18, hp1, hbits, hO, hB, hsz⟩ := hrel
                  obtain ⟨q1, c1, rfl⟩ := hO.out.shape
                  have hO1n : O1.length ≤ n + 1 := by
                    have h1 := congrArg List.length hbits.out
                    simp only [List.length_append, bitsOf_len, List.length_take, bitsK_len] at h1
                    omega
                  by_cases hmk : m < k
                  · obtain ⟨J, hJ⟩ : ∃ J, J = k - 1 - m := ⟨_, rfl⟩
                    have hJi : (k : Int) - 1 - (m : Int) = (J : Int) := by omega
                    have hJ5 : J ≤ 5 := by omega
                    have hJ5i : (J : Int) ≤ 5 := by omega
                    have htk := bitsK_take k d m hmk
                    rw [← hJ] at htk
                    rw [hJi]
                    replace htk := hid htk
                    have hd64i : (d : Int) < 64 := by omega
                    have hJm : J + m + 1 = k := by omega
                    clear hJ hJi
                    go_wp2
                    go_loop [15, 16] (fun v x => ∃ e : Nat, e ≤ J ∧ x = .int .i64 e ∧ v = .int .i64 (d / 2 ^ e : Nat)) (fun _ x => J - (intOf x).toNat)
                    case atStart => exact ⟨0, Nat.zero_le _, rfl, by simp⟩
                    case round =>
                      obtain ⟨e, he, rfl, rfl⟩ := hrel
                      have hle : d / 2 ^ e ≤ 64 := Nat.le_trans (Nat.div_le_self _ _) (by omega)
                      by_cases heJ : e < J
                      · have hd' : decide ((e : Int) < (J : Int)) = true := by rw [decide_eq_true_iff]; omega
                        have hdiv : d / 2 ^ (e + 1) = d / 2 ^ e / 2 := by rw [Nat.pow_succ, Nat.div_div_eq_div_mul]
                        obtain ⟨v, hv⟩ : ∃ v, v = d / 2 ^ e := ⟨_, rfl⟩
                        rw [← hv] at hdiv hle ⊢
                        replace hdiv := hid hdiv
                        clear hv
                        go_wp2
                        go_round
                        case rel => exact ⟨e + 1, by omega, by go_num, by rw [hdiv.out]; go_num⟩
                        case measure => simp [intOf] <;> omega
                      · obtain rfl : e = J := by omega
                        obtain ⟨v, hv⟩ : ∃ v, v = d / 2 ^ e := ⟨_, rfl⟩
                        obtain ⟨b, hb⟩ : ∃ b, b = v % 2 := ⟨_, rfl⟩
                        rw [← hv, ← hb] at htk
                        rw [← hv] at hle ⊢
                        have hbi : (v : Int) % 2 = (b : Int) := by omega
                        have hb2 : b < 2 := by omega
                        have hb2i : (b : Int) < 2 := by omega
                        obtain ⟨P, hP⟩ : ∃ P, P = p1 ++ [b] := ⟨_, rfl⟩
                        have hPv : 2 * valB p1 + b = valB P := by rw [hP, valB_snoc]
                        have hPl : P.length = p1.length + 1 := by rw [hP]; simp
                        have hPb : IsBits P := by rw [hP, isBits_append]; exact ⟨hp1.out, fun x hx => by simp at hx; omega⟩
                        have hvp := valB_lt hp1.out
                        have hv128 : valB p1 < 128 := Nat.lt_of_lt_of_le hvp (Nat.pow_le_pow_right (by omega) (show p1.length ≤ 7 by omega))
                        have hPbits : bitsOf O1 ++ P = bitsOf O ++ p ++ (bitsK k d).take (m + 1) := by rw [htk.out, hP, ← List.append_assoc, hbits.out]; simp
                        have hPvi : 2 * ((valB p1 : Nat) : Int) + (b : Int) = ((valB P : Nat) : Int) := by omega
                        have hPli : ((p1.length : Nat) : Int) + 1 = ((P.length : Nat) : Int) := by omega
                        have hPv256 : valB P < 256 := by omega
                        have hPl8 : P.length ≤ 8 := by omega
                        have hv128i : ((valB p1 : Nat) : Int) < 128 := by omega
                        have hp18i : ((p1.length : Nat) : Int) < 8 := by omega
                        replace hPb := hid hPb
                        replace hPbits := hid hPbits
                        clear hv hb hP hPv hPl hvp htk hbits hp1
                        by_cases h8 : P.length = 8
                        · have h8d : (((P.length : Nat) : Int) == 8) = true := by rw [beq_iff_eq]; omega
                          have hw8 : IntKind.u8.wrap ((valB P : Nat) : Int) = ((valB P : Nat) : Int) := by rw [IntKind.wrap_u8]; omega
                          have hby : bitsOf (O1 ++ [UInt8.ofNat (valB P)]) ++ [] = bitsOf O1 ++ P := by
                            have h1 := bitsK_valB hPb.out
                            rw [h8] at h1
                            have h2 : (UInt8.ofNat (valB P)).toNat = valB P := by simp; omega
                            rw [List.append_nil, bitsOf_append, bitsOf_cons, bitsOf_nil, List.append_nil, h2, h1]
                          have hbs : ((valB P : Nat) : Int) = (((UInt8.ofNat (valB P)).toNat : Nat) : Int) := by simp; omega
                          replace hby := hid hby
                          replace hbs := hid hbs
                          go_wp2_with (at_builtin; refine wpList_append_own_at _ rfl _ _ 83 rfl w.heap.size 5 i _ 1 1 Tryz.underlying83 hi.out hz0.out hz1.out hz2.out rfl (by decide) _ _ _ rfl (World.ownsRow.alloc hO.out _) ⟨wr.heap.size, 0, none⟩ 1 1 [.int .u8 ((valB P : Nat) : Int)] rfl rfl (cell_one_new _ _ _) (fun x hx => by simp at hx; subst hx; rfl) (by unfold maxLen; omega) (by omega) (by simp; omega) ?_; intro v1 w2 hown1 hgrow1 hnil1 hat1)
                          go_roundw
                          case rel =>
                            refine ⟨m + 1, [], O1 ++ [UInt8.ofNat (valB P)], by go_num, by omega, rfl, rfl, by simp, hid (fun _ h => by cases h), hid (by rw [hby.out, hPbits.out]), hid ?_, hid ?_, by have := hgrow1.size; simp at this; omega⟩
                            · unfold Bytes
                              rw [Lib.byteCells_append, List.length_append]
                              have e : Lib.byteCells [UInt8.ofNat (valB P)] = [.int .u8 ((valB P : Nat) : Int)] := by rw [hbs.out]; rfl
                              rw [e]; exact hown1
                            · exact below_grownB (below_al hB.out _) hgrow1 (fun g hg => (World.ownsRow.lt hO.out g hg).1) (Nat.le_refl _)
                          case measure => simp [intOf] <;> omega
                        · have h8d : (((P.length : Nat) : Int) == 8) = false := by rw [beq_eq_false_iff_ne]; omega
                          go_wp2
                          go_roundw
                          case rel => exact ⟨m + 1, P, O1, by go_num, by omega, rfl, rfl, by omega, hPb, hPbits, hO, hB, hsz⟩
                          case measure => simp [intOf] <;> omega
                  · obtain rfl : m = k := by omega
                    have hj1 : (m : Int) - 1 - (m : Int) = -1 := by omega
                    have hfin : (vs ++ [d]).flatMap (bitsK m) = bitsOf O1 ++ p1 := by
                      rw [hvs2.out, hbits.out, List.take_of_length_le (by rw [bitsK_len]; exact Nat.le_refl _)]
                    replace hfin := hid hfin
                    rw [hj1]
                    clear hj1
                    go_wp2
                    go_roundw
                    case rel => exact ⟨n + 1, p1, vs ++ [d], O1, by go_num, by omega, rfl, rfl, hp18, by omega, hp1, hsc2, hfin, hO, hB, hsz⟩
                    case measure => simp [intOf] <;> omega
            · obtain rfl : n = N := by omega
              have hscF : scanA L H = some vs := by
                rw [hsc.out, List.drop_of_length_le (by rw [hHl.out]; exact Nat.le_refl _)]; simp [scanA]
              have hout : outOf k vs = O := by rw [outOf, hvs.out, bytesOf_bits _ _ hp8]
              have hVV : V = .tuple #[.string ⟨O.toArray⟩, .bool (decide (enc L k fill O = t.data.toList))] := by rw [hV2.out, hscF]; simp only [hout]
              obtain ⟨S, hS⟩ : ∃ S : ByteArray, S = ⟨O.toArray⟩ := ⟨_, rfl⟩
              have hSl : S.data.toList = O := by rw [hS]
              have hSs : S.size ≤ 100000 := by rw [hS]; simp [ByteArray.size]; omega
              have LE1 := fun w => LE.out S hSs w
              rw [hSl] at LE1
              obtain ⟨T, hT⟩ : ∃ T : ByteArray, T = ⟨(enc L k fill O).toArray⟩ := ⟨_, rfl⟩
              have hTl : T.data.toList = enc L k fill O := by rw [hT]
              rw [← hT] at LE1
              have hcv : ∀ x : Sub wr, (convert 83 9 (.slice q O.length c0)).run Tryz.prog x.x = .ok (.string S) x.x := fun x => by rw [hS]; exact (hO.out.below x.h).string rfl
              have hTb : (T.toList == t.toList) = decide (enc L k fill O = t.data.toList) := by
                rw [toList_beqB]
                congr 1
                rw [eq_iff_iff, ← hTl]
                constructor
                · rintro rfl; rfl
                · intro h; exact ByteArray.ext (Array.ext' h)
              obtain ⟨bb, hbb⟩ : ∃ bb, bb = decide (enc L k fill O = t.data.toList) := ⟨_, rfl⟩
              rw [← hbb] at hVV hTb
              rw [← hS] at hVV
              replace LE1 := hid LE1
              replace hVV := hid hVV
              clear hscF hout hS hSl hT hTl hbb hsc hvs
              go_wp2
              refine wp_region_sub (by kernel_rfl) (by kernel_rfl) ?_
              repeat (go_big_quiet_step (first
                | (go_at_call 52; with_reducible refine Sub.same _ (LE1.out _))))
              refine wpQuiet_nil ?_
              intro x
              go_wp2
              go_ret2
              exact ⟨by rw [hVV.out]; rfl, below_cat x.h hB.out⟩
    · have hk1' : ((kn : Int) == 1) = false := by rw [beq_eq_false_iff_ne]; omega
      have hft : fill = false := by rw [hkf.out, decide_eq_false hk1]
      have hh2 : headOf fill t.data.toList = t.data.toList.take N := by rw [hh.out, if_neg (by rw [hft]; decide), hff hft]
      have hd0 : True := trivial
      have hNi : (N : Int) ≤ (t.size : Int) := by omega
      obtain ⟨H, hH⟩ : ∃ H, H = t.data.toList.take N := ⟨_, rfl⟩
      have hHl : H.length = N := by rw [hH]; simp; omega
      have hHg : ∀ n (hn : n < N), H.drop n = t[n] :: H.drop (n + 1) := fun n hn => by
        rw [List.drop_eq_getElem_cons (by rw [hHl]; exact hn)]
        congr 1
        simp only [hH, List.getElem_take]; rfl
      rw [← hH] at hh2
      have hVs : V = refV L k fill t.data.toList := hV.out
      have hV2 : V = match scanA L H with | none => .tuple #[.string ⟨#[]⟩, .bool false] | some vs => .tuple #[.string ⟨(outOf k vs).toArray⟩, .bool (decide (enc L k fill (outOf k vs) = t.data.toList))] := by
        rw [hVs, refV, hh2]
      replace hV2 := hid hV2
      replace hHl := hid hHl
      replace hHg := hid hHg
      clear hH hVs hh2 hh hff
      go_wp2
      clear hd0
      go_loopw [9, 10, 11, 12] (fun v h a i wr => ∃ (n : Nat) (p vs : List Nat) (O : List UInt8), i = .int .i64 n ∧ n ≤ N ∧ h = .int .i64 (valB p : Nat) ∧ a = .int .i64 (p.length : Nat) ∧ p.length < 8 ∧ O.length ≤ n ∧ Hid (IsBits p) ∧
          Hid (scanA L H = (scanA L (H.drop n)).map (vs ++ ·)) ∧ Hid (vs.flatMap (bitsK k) = bitsOf O ++ p) ∧ Hid (Bytes wr w.heap.size v O) ∧ Hid (Below w.heap.size w wr) ∧ w.heap.size ≤ wr.heap.size)
        (fun _ _ _ i _ => N - (intOf i).toNat)
      case atStart => exact ⟨0, [], [], [], rfl, Nat.zero_le _, rfl, rfl, by simp, Nat.zero_le _, hid (fun _ h => by cases h), hid (by simp), hid rfl, hid (World.ownsRow_nil _ _ _ _), hid (Below.refl _ _), Nat.le_refl _⟩
      case round =>
        obtain ⟨n, p, vs, O, rfl, hn, rfl, rfl, hp8, hOn, hp, hsc, hvs, hO, hB, hsz⟩ := hrel
        obtain ⟨q, c0, rfl⟩ := hO.out.shape
        by_cases hlt : n < N
        · have hlt' : decide ((n : Int) < (N : Int)) = true := by rw [decide_eq_true_iff]; omega
          have hnt : n < t.size := by omega
          have hlti : (n : Int) < (t.size : Int) := by omega
          have hdrop := hHg.out n hlt
          obtain ⟨z, hz⟩ : ∃ z, z = Lib.indexByte L.data.toList t[n] := ⟨_, rfl⟩
          have LI1 := fun w => LI.out t[n] w
          rw [← hz] at LI1
          replace LI1 := hid LI1
          replace hz := hid hz
          replace hdrop := hid hdrop
          by_cases hz0' : z < 0
          · have hzd : decide (z < (0 : Int)) = true := decide_eq_true hz0'
            have hVV : V = .tuple #[.string ⟨#[]⟩, .bool false] := by
              rw [hV2.out, hsc.out, hdrop.out, scanA, ← hz.out, if_neg (by omega)]; rfl
            replace hVV := hid hVV
            go_wp2_with (go_at_call 94; refine (LI1.out _).mono ?_; rintro e w' ⟨rfl, rfl⟩)
            go_ret2
            exact ⟨by rw [hVV.out]; rfl, hB.out⟩
          · have hzd : decide (z < (0 : Int)) = false := decide_eq_false hz0'
            obtain ⟨d, rfl⟩ := Int.eq_ofNat_of_zero_le (show 0 ≤ z by omega)
            have hdk : d < 2 ^ k := by
              have := idx_lt hz.out.symm
              have h2 := hG.out.size
              rw [show L.data.toList.length = L.size by simp, h2] at this; exact this
            have hd64 : d < 64 := Nat.lt_of_lt_of_le hdk (by rcases hk46.out with h | h <;> rw [h] <;> decide)
            have hsc2 : scanA L H = (scanA L (H.drop (n + 1))).map ((vs ++ [d]) ++ ·) := by
              rw [hsc.out, hdrop.out, scanA, ← hz.out, if_pos (by omega), Option.map_map]
              congr 1; funext x; simp
            have hvs2 : (vs ++ [d]).flatMap (bitsK k) = bitsOf O ++ p ++ bitsK k d := by rw [List.flatMap_append, hvs.out]; simp
            replace hsc2 := hid hsc2
            replace hvs2 := hid hvs2
            have hki1 : (0 : Int) ≤ (k : Int) - 1 := by omega
            clear hsc hvs hdrop hz
            go_wp2_with (go_at_call 94; refine (LI1.out _).mono ?_; rintro e w' ⟨rfl, rfl⟩)
            obtain ⟨wo, rfl⟩ : ∃ wo : World, wo = wr := ⟨_, rfl⟩
            go_loopw [9, 10, 11, 14] (fun v h a j wx => ∃ (m : Nat) (p1 : List Nat) (O1 : List UInt8), j = .int .i64 ((k : Int) - 1 - (m : Int)) ∧ m ≤ k ∧ h = .int .i64 (valB p1 : Nat) ∧ a = .int .i64 (p1.length : Nat) ∧ p1.length < 8 ∧ Hid (IsBits p1) ∧
                Hid (bitsOf O1 ++ p1 = bitsOf O ++ p ++ (bitsK k d).take m) ∧ Hid (Bytes wx w.heap.size v O1) ∧ Hid (Below w.heap.size w wx) ∧ w.heap.size ≤ wx.heap.size)
              (fun _ _ _ j _ => (intOf j + 1).toNat)
            case atStart => exact ⟨0, p, O, by simp, Nat.zero_le _, rfl, rfl, hp8, hp, hid (by simp), hO, hB, hsz⟩
            case round =>
              clear hO hB hsz
              obtain ⟨m, p1, O1, rfl, hm, rfl, rfl, hp18, hp1, hbits, hO, hB, hsz⟩ := hrel
              obtain ⟨q1, c1, rfl⟩ := hO.out.shape
              have hO1n : O1.length ≤ n + 1 := by
                have h1 := congrArg List.length hbits.out
                simp only [List.length_append, bitsOf_len, List.length_take, bitsK_len] at h1
                omega
              by_cases hmk : m < k
              · obtain ⟨J, hJ⟩ : ∃ J, J = k - 1 - m := ⟨_, rfl⟩
                have hJi : (k : Int) - 1 - (m : Int) = (J : Int) := by omega
                have hJ5 : J ≤ 5 := by omega
                have hJ5i : (J : Int) ≤ 5 := by omega
                have htk := bitsK_take k d m hmk
                rw [← hJ] at htk
                rw [hJi]
                replace htk := hid htk
                have hd64i : (d : Int) < 64 := by omega
                have hJm : J + m + 1 = k := by omega
                clear hJ hJi
                go_wp2
                go_loop [15, 16] (fun v x => ∃ e : Nat, e ≤ J ∧ x = .int .i64 e ∧ v = .int .i64 (d / 2 ^ e : Nat)) (fun _ x => J - (intOf x).toNat)
                case atStart => exact ⟨0, Nat.zero_le _, rfl, by simp⟩
                case round =>
                  obtain ⟨e, he, rfl, rfl⟩ := hrel
                  have hle : d / 2 ^ e ≤ 64 := Nat.le_trans (Nat.div_le_self _ _) (by omega)
                  by_cases heJ : e < J
                  · have hd' : decide ((e : Int) < (J : Int)) = true := by rw [decide_eq_true_iff]; omega
                    have hdiv : d / 2 ^ (e + 1) = d / 2 ^ e / 2 := by rw [Nat.pow_succ, Nat.div_div_eq_div_mul]
                    obtain ⟨v, hv⟩ : ∃ v, v = d / 2 ^ e := ⟨_, rfl⟩
                    rw [← hv] at hdiv hle ⊢
                    replace hdiv := hid hdiv
                    clear hv
                    go_wp2
                    go_round
                    case rel => exact ⟨e + 1, by omega, by go_num, by rw [hdiv.out]; go_num⟩
                    case measure => simp [intOf] <;> omega
                  · obtain rfl : e = J := by omega
                    obtain ⟨v, hv⟩ : ∃ v, v = d / 2 ^ e := ⟨_, rfl⟩
                    obtain ⟨b, hb⟩ : ∃ b, b = v % 2 := ⟨_, rfl⟩
                    rw [← hv, ← hb] at htk
                    rw [← hv] at hle ⊢
                    have hbi : (v : Int) % 2 = (b : Int) := by omega
                    have hb2 : b < 2 := by omega
                    have hb2i : (b : Int) < 2 := by omega
                    obtain ⟨P, hP⟩ : ∃ P, P = p1 ++ [b] := ⟨_, rfl⟩
                    have hPv : 2 * valB p1 + b = valB P := by rw [hP, valB_snoc]
                    have hPl : P.length = p1.length + 1 := by rw [hP]; simp
                    have hPb : IsBits P := by rw [hP, isBits_append]; exact ⟨hp1.out, fun x hx => by simp at hx; omega⟩
                    have hvp := valB_lt hp1.out
                    have hv128 : valB p1 < 128 := Nat.lt_of_lt_of_le hvp (Nat.pow_le_pow_right (by omega) (show p1.length ≤ 7 by omega))
                    have hPbits : bitsOf O1 ++ P = bitsOf O ++ p ++ (bitsK k d).take (m + 1) := by rw [htk.out, hP, ← List.append_assoc, hbits.out]; simp
                    have hPvi : 2 * ((valB p1 : Nat) : Int) + (b : Int) = ((valB P : Nat) : Int) := by omega
                    have hPli : ((p1.length : Nat) : Int) + 1 = ((P.length : Nat) : Int) := by omega
                    have hPv256 : valB P < 256 := by omega
                    have hPl8 : P.length ≤ 8 := by omega
                    have hv128i : ((valB p1 : Nat) : Int) < 128 := by omega
                    have hp18i : ((p1.length : Nat) : Int) < 8 := by omega
                    replace hPb := hid hPb
                    replace hPbits := hid hPbits
                    clear hv hb hP hPv hPl hvp htk hbits hp1
                    by_cases h8 : P.length = 8
                    · have h8d : (((P.length : Nat) : Int) == 8) = true := by rw [beq_iff_eq]; omega
                      have hw8 : IntKind.u8.wrap ((valB P : Nat) : Int) = ((valB P : Nat) : Int) := by rw [IntKind.wrap_u8]; omega
                      have hby : bitsOf (O1 ++ [UInt8.ofNat (valB P)]) ++ [] = bitsOf O1 ++ P := by
                        have h1 := bitsK_valB hPb.out
                        rw [h8] at h1
                        have h2 : (UInt8.ofNat (valB P)).toNat = valB P := by simp; omega
                        rw [List.append_nil, bitsOf_append, bitsOf_cons, bitsOf_nil, List.append_nil, h2, h1]
                      have hbs : ((valB P : Nat) : Int) = (((UInt8.ofNat (valB P)).toNat : Nat) : Int) := by simp; omega
                      replace hby := hid hby
                      replace hbs := hid hbs
                      go_wp2_with (at_builtin; refine wpList_append_own_at _ rfl _ _ 83 rfl w.heap.size 5 i _ 1 1 Tryz.underlying83 hi.out hz0.out hz1.out hz2.out rfl (by decide) _ _ _ rfl (World.ownsRow.alloc hO.out _) ⟨wr.heap.size, 0, none⟩ 1 1 [.int .u8 ((valB P : Nat) : Int)] rfl rfl (cell_one_new _ _ _) (fun x hx => by simp at hx; subst hx; rfl) (by unfold maxLen; omega) (by omega) (by simp; omega) ?_; intro v1 w2 hown1 hgrow1 hnil1 hat1)
                      go_roundw
                      case rel =>
                        refine ⟨m + 1, [], O1 ++ [UInt8.ofNat (valB P)], by go_num, by omega, rfl, rfl, by simp, hid (fun _ h => by cases h), hid (by rw [hby.out, hPbits.out]), hid ?_, hid ?_, by have := hgrow1.size; simp at this; omega⟩
                        · unfold Bytes
                          rw [Lib.byteCells_append, List.length_append]
                          have e : Lib.byteCells [UInt8.ofNat (valB P)] = [.int .u8 ((valB P : Nat) : Int)] := by rw [hbs.out]; rfl
                          rw [e]; exact hown1
                        · exact below_grownB (below_al hB.out _) hgrow1 (fun g hg => (World.ownsRow.lt hO.out g hg).1) (Nat.le_refl _)
                      case measure => simp [intOf] <;> omega
                    · have h8d : (((P.length : Nat) : Int) == 8) = false := by rw [beq_eq_false_iff_ne]; omega
                      go_wp2
                      go_roundw
                      case rel => exact ⟨m + 1, P, O1, by go_num, by omega, rfl, rfl, by omega, hPb, hPbits, hO, hB, hsz⟩
                      case measure => simp [intOf] <;> omega
              · obtain rfl : m = k := by omega
                have hj1 : (m : Int) - 1 - (m : Int) = -1 := by omega
                have hfin : (vs ++ [d]).flatMap (bitsK m) = bitsOf O1 ++ p1 := by
                  rw [hvs2.out, hbits.out, List.take_of_length_le (by rw [bitsK_len]; exact Nat.le_refl _)]
                replace hfin := hid hfin
                rw [hj1]
                clear hj1
                go_wp2
                go_roundw
                case rel => exact ⟨n + 1, p1, vs ++ [d], O1, by go_num, by omega, rfl, rfl, hp18, by omega, hp1, hsc2, hfin, hO, hB, hsz⟩
                case measure => simp [intOf] <;> omega
        · obtain rfl : n = N := by omega
          have hscF : scanA L H = some vs := by
            rw [hsc.out, List.drop_of_length_le (by rw [hHl.out]; exact Nat.le_refl _)]; simp [scanA]
          have hout : outOf k vs = O := by rw [outOf, hvs.out, bytesOf_bits _ _ hp8]
          have hVV : V = .tuple #[.string ⟨O.toArray⟩, .bool (decide (enc L k fill O = t.data.toList))] := by rw [hV2.out, hscF]; simp only [hout]
          obtain ⟨S, hS⟩ : ∃ S : ByteArray, S = ⟨O.toArray⟩ := ⟨_, rfl⟩
          have hSl : S.data.toList = O := by rw [hS]
          have hSs : S.size ≤ 100000 := by rw [hS]; simp [ByteArray.size]; omega
          have LE1 := fun w => LE.out S hSs w
          rw [hSl] at LE1
          obtain ⟨T, hT⟩ : ∃ T : ByteArray, T = ⟨(enc L k fill O).toArray⟩ := ⟨_, rfl⟩
          have hTl : T.data.toList = enc L k fill O := by rw [hT]
          rw [← hT] at LE1
          have hcv : ∀ x : Sub wr, (convert 83 9 (.slice q O.length c0)).run Tryz.prog x.x = .ok (.string S) x.x := fun x => by rw [hS]; exact (hO.out.below x.h).string rfl
          have hTb : (T.toList == t.toList) = decide (enc L k fill O = t.data.toList) := by
            rw [toList_beqB]
            congr 1
            rw [eq_iff_iff, ← hTl]
            constructor
            · rintro rfl; rfl
            · intro h; exact ByteArray.ext (Array.ext' h)
          obtain ⟨bb, hbb⟩ : ∃ bb, bb = decide (enc L k fill O = t.data.toList) := ⟨_, rfl⟩
          rw [← hbb] at hVV hTb
          rw [← hS] at hVV
          replace LE1 := hid LE1
          replace hVV := hid hVV
          clear hscF hout hS hSl hT hTl hbb hsc hvs
          go_wp2
          refine wp_region_sub (by kernel_rfl) (by kernel_rfl) ?_
          repeat (go_big_quiet_step (first
            | (go_at_call 52; with_reducible refine Sub.same _ (LE1.out _))))
          refine wpQuiet_nil ?_
          intro x
          go_wp2
          go_ret2
          exact ⟨by rw [hVV.out]; rfl, below_cat x.h hB.out⟩
end Go.Proofs.YtdjlpmelmhhooaaGreatDoor
