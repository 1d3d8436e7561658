/- The document's Encode. -/
import Derived.Test.YtbedanlkkidkkadBas4
namespace Go.Proofs.Ytbedanlkkidkkad
open Go Go.RowKit
set_option linter.unusedSimpArgs false

theorem ba_app (a b : ByteArray) : (a ++ b).data.toList = a.data.toList ++ b.data.toList := by simp
theorem ba_eq {a : ByteArray} {l : List UInt8} (h : a.data.toList = l) : a = ⟨l.toArray⟩ := ByteArray.ext (Array.ext' (by simpa using h))
/-- The bits from a place on, noughts behind them. -/
def fromB (k : Nat) (l : List Nat) (i : Nat) : List Nat := l.drop i ++ List.replicate k 0
theorem fromB_get (k : Nat) (l : List Nat) (i j : Nat) (hj : j < k) : (fromB k l i)[j]? = some (l.getD (i + j) 0) := by
  unfold fromB
  rcases Nat.lt_or_ge (i + j) l.length with h | h
  · rw [List.getElem?_append_left (by simp; omega), List.getElem?_drop, List.getD_eq_getElem?_getD, List.getElem?_eq_getElem h]; rfl
  · rw [List.getElem?_append_right (by simp; omega), List.getElem?_replicate, if_pos (by simp; omega), List.getD_eq_getElem?_getD, List.getElem?_eq_none h]; rfl
theorem fromB_take (k : Nat) (l : List Nat) (i j : Nat) (hj : j < k) : (fromB k l i).take (j + 1) = (fromB k l i).take j ++ [l.getD (i + j) 0] := by
  rw [List.take_add_one, fromB_get k l i j hj]; rfl
theorem digits_from {k : Nat} (hk : 0 < k) (l : List Nat) (i : Nat) (hi : i < l.length) : digits k (l.drop i) = valB ((fromB k l i).take k) :: digits k (l.drop (i + k)) := by
  have h0 : l.drop i ≠ [] := fun e => by have := congrArg List.length e; simp at this; omega
  rw [digits, dif_neg (by simp only [not_or]; exact ⟨h0, by omega⟩), List.drop_drop]
  congr 2
  unfold fromB
  rw [List.take_append, List.take_replicate]
  congr 2
  omega
theorem isBits_getD {l : List Nat} (h : IsBits l) (i : Nat) : l.getD i 0 < 2 := by
  rw [List.getD_eq_getElem?_getD]
  cases hx : l[i]? with
  | none => simp
  | some b => exact h b (List.mem_of_getElem? hx)
theorem fromB_is {k : Nat} {l : List Nat} (h : IsBits l) (i : Nat) : IsBits (fromB k l i) := isBits_append.2 ⟨isBits_drop h i, isBits_zeros k⟩

set_option maxRecDepth 100000 in
set_option maxHeartbeats 4000000 in
theorem refEncode_any (n : Nat) (s : ByteArray) (hs : s.size ≤ 100000) (w : World) : Calls Try.prog 11 #[.int .i64 (n : Int), .string s] w fun e w' =>
    e = .returned (.string ⟨(enc (KL n) (Kk n) (Kf n) s.data.toList).toArray⟩) ∧ w = w' := by
  have hG := kind_good n
  have LL := hid fun w => refLetters_any n w
  have LB := hid fun w => refBits_any n w
  have hkf : Kf n = decide (n = 1) := rfl
  obtain ⟨L, hL⟩ : ∃ L, L = KL n := ⟨_, rfl⟩
  obtain ⟨k, hk⟩ : ∃ k, k = Kk n := ⟨_, rfl⟩
  obtain ⟨fill, hf⟩ : ∃ f, f = Kf n := ⟨_, rfl⟩
  rw [← hL, ← hk, ← hf] at hG ⊢
  rw [← hL] at LL
  rw [← hk] at LB
  rw [← hf] at hkf
  have hk46 := hG.k46
  have hkz : 0 < k := by omega
  have hk6 : k ≤ 6 := by omega
  have hki : (k : Int) ≤ 6 := by omega
  have hLs : L.size ≤ 64 := by rw [hG.size]; rcases hk46 with h | h <;> rw [h] <;> decide
  have LT := hid fun i hi w => bit_any s i hs hi w
  replace hk46 := hid hk46
  replace hG := hid hG
  replace hkf := hid hkf
  have hbl : (bitsOf s.data.toList).length = 8 * s.size := by rw [bitsOf_len]; simp
  have hbb := hid (bitsOf_is s.data.toList)
  obtain ⟨bs, hbs⟩ : ∃ bs, bs = bitsOf s.data.toList := ⟨_, rfl⟩
  have hbA : ∀ i, bitAt s.data.toList i = bs.getD i 0 := fun i => by rw [hbs]; rfl
  have henc : enc L k fill s.data.toList = encD L k fill (digits k bs) := by rw [hbs]; rfl
  rw [← hbs] at hbl hbb
  rw [henc]
  replace hbl := hid hbl
  replace hbA := hid hbA
  clear hL hk hf hbs henc
  go_enter Try.func11, Try.ntmps11
  go_wp2_with (first
    | (go_at_call 13; refine (LL.out _).mono ?_; rintro e w' ⟨rfl, rfl⟩)
    | (go_at_call 24; refine (LB.out _).mono ?_; rintro e w' ⟨rfl, rfl⟩))
  go_loop [7, 8] (fun o i => ∃ (q : Nat) (D : List Nat) (A : ByteArray), i = .int .i64 q ∧ q ≤ 8 * s.size + k ∧ o = .string A ∧ A.size ≤ q ∧ Hid (A.data.toList = letters L D) ∧ Hid (digits k bs = D ++ digits k (bs.drop q))) (fun _ i => 8 * s.size + k - (intOf i).toNat)
  case atStart => exact ⟨0, [], ⟨#[]⟩, rfl, by omega, rfl, by simp [ByteArray.size], hid rfl, hid rfl⟩
  case round =>
    obtain ⟨q, D, A, rfl, hq, rfl, hAs, hA, hd⟩ := hrel
    by_cases hlt : q < 8 * s.size
    · have hd0 : decide ((q : Int) < 8 * (s.size : Int)) = true := by rw [decide_eq_true_iff]; omega
      have hstep := hid (digits_from hkz bs q (by rw [hbl.out]; exact hlt))
      go_wp2
      go_loop [9, 10] (fun v j => ∃ m : Nat, j = .int .i64 m ∧ m ≤ k ∧ v = .int .i64 (valB ((fromB k bs q).take m) : Nat)) (fun _ j => k - (intOf j).toNat)
      case atStart => exact ⟨0, rfl, Nat.zero_le _, rfl⟩
      case round =>
        obtain ⟨m, rfl, hm, rfl⟩ := hrel
        by_cases hmk : m < k
        · have hd1 : decide ((m : Int) < (k : Int)) = true := by rw [decide_eq_true_iff]; omega
          have ht : valB ((fromB k bs q).take (m + 1)) = 2 * valB ((fromB k bs q).take m) + bs.getD (q + m) 0 := by rw [fromB_take k bs q m hmk, valB_snoc]
          have hb2 := isBits_getD hbb.out (q + m)
          have hv := valB_lt (isBits_take (fromB_is (k := k) hbb.out q) m)
          have hvl : ((fromB k bs q).take m).length ≤ 6 := by simp; omega
          have hv64 : valB ((fromB k bs q).take m) < 64 := Nat.lt_of_lt_of_le hv (Nat.pow_le_pow_right (by omega) hvl)
          have LT1 := fun w => LT.out (q + m) (by omega) w
          rw [hbA.out] at LT1
          obtain ⟨b, hb⟩ : ∃ b, b = bs.getD (q + m) 0 := ⟨_, rfl⟩
          rw [← hb] at ht hb2 LT1
          have hsum : (q : Int) + (m : Int) = ((q + m : Nat) : Int) := by omega
          obtain ⟨qm, hqm⟩ : ∃ qm, qm = q + m := ⟨_, rfl⟩
          rw [← hqm] at hsum LT1
          obtain ⟨v, hv0⟩ : ∃ v, v = valB ((fromB k bs q).take m) := ⟨_, rfl⟩
          rw [← hv0] at ht hv64 ⊢
          replace ht := hid ht
          replace LT1 := hid LT1
          clear hb hv hvl hqm hv0
          go_wp2_with (go_at_call 25; refine (LT1.out _).mono ?_; rintro e w' ⟨rfl, rfl⟩)
          go_round
          case rel => exact ⟨m + 1, by go_num, by omega, by rw [ht.out]; go_num⟩
          case measure => simp [intOf]; omega
        · obtain rfl : m = k := by omega
          have hdl : valB ((fromB m bs q).take m) < 2 ^ m := by
            have := valB_lt (isBits_take (fromB_is (k := m) hbb.out q) m)
            rwa [show ((fromB m bs q).take m).length = m by simp [fromB]] at this
          obtain ⟨d, hd0⟩ : ∃ d, d = valB ((fromB m bs q).take m) := ⟨_, rfl⟩
          rw [← hd0] at hdl hstep ⊢
          have hdL : d < L.size := by rw [hG.out.size]; exact hdl
          have hdLi : (d : Int) + 1 ≤ (L.size : Int) := by omega
          have hdL2 : d + 1 ≤ L.size := by omega
          have hsz : (L.extract d (d + 1)).size = 1 := by rw [ByteArray.size_extract]; omega
          have hext : A.data.toList ++ (L.extract d (d + 1)).data.toList = letters L (D ++ [d]) := by
            rw [hA.out, letters_append]; congr 1
            rw [Lib.extract_data, Nat.add_sub_cancel_left, List.drop_eq_getElem_cons (by simpa using hdL)]
            simp [letters, letter, hdL]
          have hd2 : digits m bs = (D ++ [d]) ++ digits m (bs.drop (q + m)) := by rw [hd.out, hstep.out]; simp
          replace hext := hid hext
          replace hd2 := hid hd2
          clear hd0 hdl hstep hd
          go_wp2
          go_round
          case rel => exact ⟨q + m, D ++ [d], A ++ L.extract d (d + 1), by go_num, by omega, rfl, by rw [ByteArray.size_append, hsz]; omega, hid (by rw [← hext.out]; simp), hd2⟩
          case measure => simp [intOf]; omega
    · have hd0 : decide ((q : Int) < 8 * (s.size : Int)) = false := by rw [decide_eq_false_iff_not]; omega
      have hall : digits k bs = D := by
        rw [hd.out, List.drop_of_length_le (by rw [hbl.out]; omega), digits_nil, List.append_nil]
      have hAl : A.size = (digits k bs).length := by
        have := congrArg List.length hA.out
        rw [letters_len, ← hall] at this
        rw [← this]; simp
      have hA2 : A.data.toList = letters L (digits k bs) := by rw [hall]; exact hA.out
      obtain ⟨pad, hpad⟩ : ∃ pad, pad = padN fill (digits k bs).length := ⟨_, rfl⟩
      have hres : encD L k fill (digits k bs) = A.data.toList ++ List.replicate pad 61 := by rw [hA2, hpad]; rfl
      replace hres := hid hres
      have hp3 : pad ≤ 3 := by rw [hpad]; unfold padN; split <;> omega
      by_cases hn1 : n = 1
      · subst hn1
        have hft : fill = true := by rw [hkf.out]; rfl
        have hpad2 : (A.size + pad) % 4 = 0 := by rw [hpad, hAl, hft]; unfold padN; rw [if_pos rfl]; omega
        have hmin : ∀ j, j < pad → (A.size + j) % 4 ≠ 0 := fun j hj => by
          rw [hpad, hft] at hj; unfold padN at hj; rw [if_pos rfl] at hj; rw [← hAl] at hj; omega
        replace hmin := hid hmin
        clear hpad hA2 hall hd hA hAl hft
        go_wp2
        go_loop [7] (fun o => ∃ (c : Nat) (C : ByteArray), c ≤ pad ∧ o = .string C ∧ C.size = A.size + c ∧ Hid (C.data.toList = A.data.toList ++ List.replicate c 61)) (fun o => A.size + pad - (match o with | .string C => C.size | _ => 0))
        case atStart => exact ⟨0, A, Nat.zero_le _, rfl, rfl, hid (by simp)⟩
        case round =>
          obtain ⟨c, C, hc, rfl, hCs, hC⟩ := hrel
          by_cases hcp : c < pad
          · have h4 := hmin.out c hcp
            have hne : ((C.size : Int) % 4 == 0) = false := by rw [beq_eq_false_iff_ne]; omega
            replace hCs := hid hCs
            have hCb : C.size ≤ 2000000 := by have := hCs.out; omega
            go_wp2
            go_round
            case rel => exact ⟨c + 1, C ++ ⟨#[61]⟩, by omega, rfl, by rw [ByteArray.size_append, hCs.out]; rfl, hid (by rw [ba_app, hC.out, List.replicate_succ', ← List.append_assoc])⟩
            case measure =>
              have e : (C ++ (⟨#[61]⟩ : ByteArray)).size = C.size + 1 := by rw [ByteArray.size_append]; rfl
              show A.size + pad - (C ++ (⟨#[61]⟩ : ByteArray)).size < A.size + pad - C.size
              rw [e]; have := hCs.out; omega
          · obtain rfl : c = pad := by omega
            have hz : ((C.size : Int) % 4 == 0) = true := by rw [beq_iff_eq]; omega
            replace hCs := hid hCs
            go_wp2
            go_ret
            exact ⟨ret_string (ba_eq (by rw [hC.out, hres.out])), rfl⟩
      · have hn1' : ((n : Int) == 1) = false := by rw [beq_eq_false_iff_ne]; omega
        have hff : fill = false := by rw [hkf.out, decide_eq_false hn1]
        have hp0 : pad = 0 := by rw [hpad, hff]; rfl
        rw [hp0] at hres
        clear hpad hA2 hall hd hAl hp3 hff hp0 hkf
        go_wp2
        go_loop [7] (fun o => o = .string A) (fun o => 0)
        case atStart => exact rfl
        case round =>
          obtain rfl := hrel
          go_wp2
          go_ret
          exact ⟨ret_string (ba_eq (by rw [hres.out]; simp)), rfl⟩
end Go.Proofs.Ytbedanlkkidkkad
