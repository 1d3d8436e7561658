/- Letters: the document's Encode; the chapter's example. -/
import Derived.Test.YtdjlpmelmhhooaaGreatDoorBasX2
import Derived.Lib.IndexLaws
import Derived.Maps.AppendAt
import Derived.OwnWalk
namespace Go.Proofs.YtdjlpmelmhhooaaGreatDoor
section
open Go Go.RowKit
set_option linter.unusedSimpArgs false

theorem ba_app (a b : ByteArray) : (a ++ b).data.toList = a.data.toList ++ b.data.toList := by simp
theorem ba_eq {a : ByteArray} {l : List UInt8} (h : a.data.toList = l) : a = ⟨l.toArray⟩ := ByteArray.ext (Array.ext' (by simpa using h))
/-- The bits from a place on, noughts behind them. -/
def fromB (k : Nat) (l : List Nat) (i : Nat) : List Nat := l.drop i ++ List.replicate k 0
theorem fromB_get (k : Nat) (l : List Nat) (i j : Nat) (hj : j < k) : (fromB k l i)[j]? = some (l.getD (i + j) 0) := by
  unfold fromB
  rcases Nat.lt_or_ge (i + j) l.length with h | h
  · rw [List.getElem?_append_left (by simp; omega), List.getElem?_drop, List.getD_eq_getElem?_getD, List.getElem?_eq_getElem h]; rfl
  · rw [List.getElem?_append_right (by simp; omega), List.getElem?_replicate, if_pos (by simp; omega), List.getD_eq_getElem?_getD, List.getElem?_eq_none h]; rfl
theorem fromB_take (k : Nat) (l : List Nat) (i j : Nat) (hj : j < k) : (fromB k l i).take (j + 1) = (fromB k l i).take j ++ [l.getD (i + j) 0] := by
  rw [List.take_add_one, fromB_get k l i j hj]; rfl
theorem digits_from {k : Nat} (hk : 0 < k) (l : List Nat) (i : Nat) (hi : i < l.length) : digits k (l.drop i) = valB ((fromB k l i).take k) :: digits k (l.drop (i + k)) := by
  have h0 : l.drop i ≠ [] := fun e => by have := congrArg List.length e; simp at this; omega
  rw [digits, dif_neg (by simp only [not_or]; exact ⟨h0, by omega⟩), List.drop_drop]
  congr 2
  unfold fromB
  rw [List.take_append, List.take_replicate]
  congr 2
  omega
theorem isBits_getD {l : List Nat} (h : IsBits l) (i : Nat) : l.getD i 0 < 2 := by
  rw [List.getD_eq_getElem?_getD]
  cases hx : l[i]? with
  | none => simp
  | some b => exact h b (List.mem_of_getElem? hx)
theorem fromB_is {k : Nat} {l : List Nat} (h : IsBits l) (i : Nat) : IsBits (fromB k l i) := isBits_append.2 ⟨isBits_drop h i, isBits_zeros k⟩

set_option maxRecDepth 100000 in
set_option maxHeartbeats 4000000 in
theorem refEncode_any (n : Nat) (s : ByteArray) (hs : s.size ≤ 100000) (w : World) : Calls Tryz.prog 52 #[.int .i64 (n : Int), .string s] w fun e w' =>
    e = .returned (.string ⟨(enc (KL n) (Kk n) (Kf n) s.data.toList).toArray⟩) ∧ w = w' := by
  have hG := kind_good n
  have LL := hid fun w => refLetters_any n w
  have LB := hid fun w => refBits_any n w
  have hkf : Kf n = decide (n = 1) := rfl
  obtain ⟨L, hL⟩ : ∃ L, L = KL n := ⟨_, rfl⟩
  obtain ⟨k, hk⟩ : ∃ k, k = Kk n := ⟨_, rfl⟩
  obtain ⟨fill, hf⟩ : ∃ f, f = Kf n := ⟨_, rfl⟩
  rw [← hL, ← hk, ← hf] at hG ⊢
  rw [← hL] at LL
  rw [← hk] at LB
  rw [← hf] at hkf
  have hk46 := hG.k46
  have hkz : 0 < k := by omega
  have hk6 : k ≤ 6 := by omega
  have hki : (k : Int) ≤ 6 := by omega
  have hLs : L.size ≤ 64 := by rw [hG.size]; rcases hk46 with h | h <;> rw [h] <;> decide
  have LT := hid fun i hi w => bit_any s i hs hi w
  replace hk46 := hid hk46
  replace hG := hid hG
  replace hkf := hid hkf
  have hbl : (bitsOf s.data.toList).length = 8 * s.size := by rw [bitsOf_len]; simp
  have hbb := hid (bitsOf_is s.data.toList)
  obtain ⟨bs, hbs⟩ : ∃ bs, bs = bitsOf s.data.toList := ⟨_, rfl⟩
  have hbA : ∀ i, bitAt s.data.toList i = bs.getD i 0 := fun i => by rw [hbs]; rfl
  have henc : enc L k fill s.data.toList = encD L k fill (digits k bs) := by rw [hbs]; rfl
  rw [← hbs] at hbl hbb
  rw [henc]
  replace hbl := hid hbl
  replace hbA := hid hbA
  clear hL hk hf hbs henc
  go_enter Tryz.func52, Tryz.ntmps52
  go_wp2_with (first
    | (go_at_call 92; refine (LL.out _).mono ?_; rintro e w' ⟨rfl, rfl⟩)
    | (go_at_call 93; refine (LB.out _).mono ?_; rintro e w' ⟨rfl, rfl⟩))
  go_loop [7, 8] (fun o i => ∃ (q : Nat) (D : List Nat) (A : ByteArray), i = .int .i64 q ∧ q ≤ 8 * s.size + k ∧ o = .string A ∧ A.size ≤ q ∧ Hid (A.data.toList = letters L D) ∧ Hid (digits k bs = D ++ digits k (bs.drop q))) (fun _ i => 8 * s.size + k - (intOf i).toNat)
  case atStart => exact ⟨0, [], ⟨#[]⟩, rfl, by omega, rfl, by simp [ByteArray.size], hid rfl, hid rfl⟩
  case round =>
    obtain ⟨q, D, A, rfl, hq, rfl, hAs, hA, hd⟩ := hrel
    by_cases hlt : q < 8 * s.size
    · have hd0 : decide ((q : Int) < 8 * (s.size : Int)) = true := by rw [decide_eq_true_iff]; omega
      have hstep := hid (digits_from hkz bs q (by rw [hbl.out]; exact hlt))
      go_wp2
      go_loop [9, 10] (fun v j => ∃ m : Nat, j = .int .i64 m ∧ m ≤ k ∧ v = .int .i64 (valB ((fromB k bs q).take m) : Nat)) (fun _ j => k - (intOf j).toNat)
      case atStart => exact ⟨0, rfl, Nat.zero_le _, rfl⟩
      case round =>
        obtain ⟨m, rfl, hm, rfl⟩ := hrel
        by_cases hmk : m < k
        · have hd1 : decide ((m : Int) < (k : Int)) = true := by rw [decide_eq_true_iff]; omega
          have ht : valB ((fromB k bs q).take (m + 1)) = 2 * valB ((fromB k bs q).take m) + bs.getD (q + m) 0 := by rw [fromB_take k bs q m hmk, valB_snoc]
          have hb2 := isBits_getD hbb.out (q + m)
          have hv := valB_lt (isBits_take (fromB_is (k := k) hbb.out q) m)
          have hvl : ((fromB k bs q).take m).length ≤ 6 := by simp; omega
          have hv64 : valB ((fromB k bs q).take m) < 64 := Nat.lt_of_lt_of_le hv (Nat.pow_le_pow_right (by omega) hvl)
          have LT1 := fun w => LT.out (q + m) (by omega) w
          rw [hbA.out] at LT1
          obtain ⟨b, hb⟩ : ∃ b, b = bs.getD (q + m) 0 := ⟨_, rfl⟩
          rw [← hb] at ht hb2 LT1
          have hsum : (q : Int) + (m : Int) = ((q + m : Nat) : Int) := by omega
          obtain ⟨qm, hqm⟩ : ∃ qm, qm = q + m := ⟨_, rfl⟩
          rw [← hqm] at hsum LT1
          obtain ⟨v, hv0⟩ : ∃ v, v = valB ((fromB k bs q).take m) := ⟨_, rfl⟩
          rw [← hv0] at ht hv64 ⊢
          replace ht := hid ht
          replace LT1 := hid LT1
          clear hb hv hvl hqm hv0
          go_wp2_with (go_at_call 95; refine (LT1.out _).mono ?_; rintro e w' ⟨rfl, rfl⟩)
          go_round
          case rel => exact ⟨m + 1, by go_num, by omega, by rw [ht.out]; go_num⟩
          case measure => simp [intOf]; omega
        · obtain rfl : m = k := by omega
          have hdl : valB ((fromB m bs q).take m) < 2 ^ m := by
            have := valB_lt (isBits_take (fromB_is (k := m) hbb.out q) m)
            rwa [show ((fromB m bs q).take m).length = m by simp [fromB]] at this
          obtain ⟨d, hd0⟩ : ∃ d, d = valB ((fromB m bs q).take m) := ⟨_, rfl⟩
          rw [← hd0] at hdl hstep ⊢
          have hdL : d < L.size := by rw [hG.out.size]; exact hdl
          have hdLi : (d : Int) + 1 ≤ (L.size : Int) := by omega
          have hdL2 : d + 1 ≤ L.size := by omega
          have hsz : (L.extract d (d + 1)).size = 1 := by rw [ByteArray.size_extract]; omega
          have hext : A.data.toList ++ (L.extract d (d + 1)).data.toList = letters L (D ++ [d]) := by
            rw [hA.out, letters_append]; congr 1
            rw [Lib.extract_data, Nat.add_sub_cancel_left, List.drop_eq_getElem_cons (by simpa using hdL)]
            simp [letters, letter, hdL]
          have hd2 : digits m bs = (D ++ [d]) ++ digits m (bs.drop (q + m)) := by rw [hd.out, hstep.out]; simp
          replace hext := hid hext
          replace hd2 := hid hd2
          clear hd0 hdl hstep hd
          go_wp2
          go_round
          case rel => exact ⟨q + m, D ++ [d], A ++ L.extract d (d + 1), by go_num, by omega, rfl, by rw [ByteArray.size_append, hsz]; omega, hid (by rw [← hext.out]; simp), hd2⟩
          case measure => simp [intOf]; omega
    · have hd0 : decide ((q : Int) < 8 * (s.size : Int)) = false := by rw [decide_eq_false_iff_not]; omega
      have hall : digits k bs = D := by
        rw [hd.out, List.drop_of_length_le (by rw [hbl.out]; omega), digits_nil, List.append_nil]
      have hAl : A.size = (digits k bs).length := by
        have := congrArg List.length hA.out
        rw [letters_len, ← hall] at this
        rw [← this]; simp
      have hA2 : A.data.toList = letters L (digits k bs) := by rw [hall]; exact hA.out
      obtain ⟨pad, hpad⟩ : ∃ pad, pad = padN fill (digits k bs).length := ⟨_, rfl⟩
      have hres : encD L k fill (digits k bs) = A.data.toList ++ List.replicate pad 61 := by rw [hA2, hpad]; rfl
      replace hres := hid hres
      have hp3 : pad ≤ 3 := by rw [hpad]; unfold padN; split <;> omega
      by_cases hn1 : n = 1
      · subst hn1
        have hft : fill = true := by rw [hkf.out]; rfl
        have hpad2 : (A.size + pad) % 4 = 0 := by rw [hpad, hAl, hft]; unfold padN; rw [if_pos rfl]; omega
        have hmin : ∀ j, j < pad → (A.size + j) % 4 ≠ 0 := fun j hj => by
          rw [hpad, hft] at hj; unfold padN at hj; rw [if_pos rfl] at hj; rw [← hAl] at hj; omega
        replace hmin := hid hmin
        clear hpad hA2 hall hd hA hAl hft
        go_wp2
        go_loop [7] (fun o => ∃ (c : Nat) (C : ByteArray), c ≤ pad ∧ o = .string C ∧ C.size = A.size + c ∧ Hid (C.data.toList = A.data.toList ++ List.replicate c 61)) (fun o => A.size + pad - (match o with | .string C => C.size | _ => 0))
        case atStart => exact ⟨0, A, Nat.zero_le _, rfl, rfl, hid (by simp)⟩
        case round =>
          obtain ⟨c, C, hc, rfl, hCs, hC⟩ := hrel
          by_cases hcp : c < pad
          · have h4 := hmin.out c hcp
            have hne : ((C.size : Int) % 4 == 0) = false := by rw [beq_eq_false_iff_ne]; omega
            replace hCs := hid hCs
            have hCb : C.size ≤ 2000000 := by have := hCs.out; omega
            go_wp2
            go_round
            case rel => exact ⟨c + 1, C ++ ⟨#[61]⟩, by omega, rfl, by rw [ByteArray.size_append, hCs.out]; rfl, hid (by rw [ba_app, hC.out, List.replicate_succ', ← List.append_assoc])⟩
            case measure =>
              have e : (C ++ (⟨#[61]⟩ : ByteArray)).size = C.size + 1 := by rw [ByteArray.size_append]; rfl
              show A.size + pad - (C ++ (⟨#[61]⟩ : ByteArray)).size < A.size + pad - C.size
              rw [e]; have := hCs.out; omega
          · obtain rfl : c = pad := by omega
            have hz : ((C.size : Int) % 4 == 0) = true := by rw [beq_iff_eq]; omega
            replace hCs := hid hCs
            go_wp2
            go_ret
            exact ⟨ret_string (ba_eq (by rw [hC.out, hres.out])), rfl⟩
      · have hn1' : ((n : Int) == 1) = false := by rw [beq_eq_false_iff_ne]; omega
        have hff : fill = false := by rw [hkf.out, decide_eq_false hn1]
        have hp0 : pad = 0 := by rw [hpad, hff]; rfl
        rw [hp0] at hres
        clear hpad hA2 hall hd hAl hp3 hff hp0 hkf
        go_wp2
        go_loop [7] (fun o => o = .string A) (fun o => 0)
        case atStart => exact rfl
        case round =>
          obtain rfl := hrel
          go_wp2
          go_ret
          exact ⟨ret_string (ba_eq (by rw [hres.out]; simp)), rfl⟩
end
section
open Go Go.RowKit
set_option linter.unusedSimpArgs false

theorem enc_f_std : enc stdL 6 true [102] = [90, 103, 61, 61] := by
  have e : bitsOf [102] = [0, 1, 1, 0, 0, 1] ++ [1, 0] := by decide
  rw [enc, e, digits_full (k := 6) (by decide) [0, 1, 1, 0, 0, 1] [1, 0] rfl, digits_last (by decide) (by decide)]
  decide +kernel
theorem enc_f_hex : enc hexL 4 false [102] = [54, 54] := by
  have e : bitsOf [102] = [0, 1, 1, 0] ++ [0, 1, 1, 0] := by decide
  rw [enc, e, digits_full (k := 4) (by decide) [0, 1, 1, 0] [0, 1, 1, 0] rfl, digits_last (by decide) (by decide)]
  decide +kernel
set_option maxRecDepth 100000 in
theorem basAwake_any (w : World) : Calls Tryz.prog 81 #[] w fun e w' => e = .returned (.bool true) ∧ Below w.heap.size w w' := by
  obtain ⟨A, hA⟩ : ∃ A, A = stdL := ⟨_, rfl⟩
  obtain ⟨B, hB⟩ : ∃ B, B = hexL := ⟨_, rfl⟩
  have LS : ∀ w, Calls Tryz.prog 65 #[] w fun e w' => e = .returned (.agg #[.string A, .int .i64 6, .bool true]) ∧ Below w.heap.size w w' := fun w => by rw [hA]; exact std_any w
  have LH : ∀ w, Calls Tryz.prog 45 #[] w fun e w' => e = .returned (.agg #[.string B, .int .i64 4, .bool false]) ∧ Below w.heap.size w w' := fun w => by rw [hB]; exact hex_any w
  have E1 : ∀ w, Calls Tryz.prog 46 #[.agg #[.string A, .int .i64 6, .bool true], .string ⟨#[102]⟩] w fun e w' => e = .returned (.string ⟨#[90, 103, 61, 61]⟩) ∧ Below w.heap.size w w' := fun w => by
    have := encode_any stdL 6 true good_std ⟨#[102]⟩ (by simp [ByteArray.size]) w
    rw [show (⟨#[102]⟩ : ByteArray).data.toList = [102] from rfl, enc_f_std] at this
    rw [hA]; exact this
  have E2 : ∀ w, Calls Tryz.prog 46 #[.agg #[.string B, .int .i64 4, .bool false], .string ⟨#[102]⟩] w fun e w' => e = .returned (.string ⟨#[54, 54]⟩) ∧ Below w.heap.size w w' := fun w => by
    have := encode_any hexL 4 false good_hex ⟨#[102]⟩ (by simp [ByteArray.size]) w
    rw [show (⟨#[102]⟩ : ByteArray).data.toList = [102] from rfl, enc_f_hex] at this
    rw [hB]; exact this
  replace LS := hid LS
  replace LH := hid LH
  replace E1 := hid E1
  replace E2 := hid E2
  clear hA hB
  go_enter Tryz.func81, Tryz.ntmps81
  go_wp2_with (first
    | (go_at_call 65; refine (LS.out _).mono ?_; rintro e w1 ⟨rfl, hB1⟩)
    | (go_at_call 45; refine (LH.out _).mono ?_; rintro e w3 ⟨rfl, hB3⟩)
    | (go_at_call 46; with_reducible refine (E1.out _).mono ?_; rintro e w2 ⟨rfl, hB2⟩)
    | (go_at_call 46; with_reducible refine (E2.out _).mono ?_; rintro e w4 ⟨rfl, hB4⟩))
  go_ret
  exact ⟨rfl, by repeat (first | assumption | with_reducible apply below_cat)⟩
end
section
open Go Go.RowKit
set_option linter.unusedSimpArgs false

theorem toList_beqB {s t : ByteArray} : (s.toList == t.toList) = decide (s = t) := by
  rw [ByteArray.toList_eq, ByteArray.toList_eq, Bool.eq_iff_iff, beq_iff_eq, decide_eq_true_iff]
  constructor
  · intro h; exact ByteArray.ext (Array.ext' h)
  · rintro rfl; rfl
theorem idx_lt {l : List UInt8} {c : UInt8} {d : Nat} (h : Lib.indexByte l c = (d : Int)) : d < l.length := (List.getElem?_eq_some_iff.1 (Lib.indexByte_some h).1).1
/-- A row of bytes of the call's own. -/
def Bytes (w : World) (base : Nat) (v : Value) (l : List UInt8) : Prop := w.ownsRow base 5 1 v l.length (Lib.byteCells l)
theorem Bytes.shape {w : World} {base : Nat} {v : Value} {l : List UInt8} (h : Bytes w base v l) : ∃ q c, v = .slice q l.length c := by
  rcases h.2 with ⟨hv, h0⟩ | ⟨g, cap, cur, hv, _⟩
  · exact ⟨none, 0, by rw [hv, h0]⟩
  · exact ⟨_, cap, hv⟩
theorem Bytes.below {w w' : World} {base : Nat} {v : Value} {l : List UInt8} (h : Bytes w base v l) (hk : Below w.heap.size w w') : Bytes w' base v l :=
  World.ownsRow.kept (row := none) h ⟨hk.os, hk.tape, hk.output, hk.size, fun k hk' _ => hk.block k hk'⟩ (by cases hv : v.ownBlock <;> simp)
set_option maxRecDepth 100000 in
theorem Bytes.string {w : World} {base : Nat} {q : Option Addr} {n c : Nat} {l : List UInt8} (h : Bytes w base (.slice q n c) l) (hn : l.length = n) :
    (convert 83 9 (.slice q n c)).run Tryz.prog w = .ok (.string ⟨l.toArray⟩) w := by
  subst hn
  rcases h.2 with ⟨hv, h0⟩ | ⟨g, cap, cur, hv, _⟩
  · have hl : l = [] := List.eq_nil_of_length_eq_zero h0
    subst hl
    cases hv
    exact run_convert_bytes_nil w 83 5 Tryz.underlying83 Tryz.underlying5 _ _ 9 Tryz.underlying9
  · injection hv with h1 h2 h3
    subst h1; subst h3
    have := run_convert_bytes_arg (P := Tryz.prog) w 83 5 Tryz.underlying83 Tryz.underlying5 g 0 l.length c (l.map fun b => ((b.toNat : Nat) : Int)) (by simp) (fun i hi => by
      have hc := World.ownsRow.cells h (g := g) rfl i (.int .u8 (l[i].toNat : Nat)) (by simp [Lib.byteCells, hi])
      rw [show ((⟨g, 0, none⟩ : Addr).add i) = ⟨g, 0 + i, none⟩ by unfold Addr.add; split <;> simp_all] at hc
      rw [hc]; simp [hi]) 9 Tryz.underlying9
    rw [this]
    unfold strOfNums
    rw [List.map_map]
    have e : l.map ((fun n : Int => UInt8.ofNat n.toNat) ∘ fun b : UInt8 => ((b.toNat : Nat) : Int)) = l := by
      conv => rhs; rw [← List.map_id l]
      exact List.map_congr_left fun b _ => by simp
    rw [e]

theorem below_grownB {B : Nat} {a w w' : World} {row : Option Nat} (h : Below B a w) (hg : w.grownBy w' row) (hr : ∀ k, row = some k → B ≤ k) (hB : B ≤ a.heap.size) : Below B a w' :=
  h.trans ⟨hg.os, hg.tape, hg.output, hg.size, fun k hk => hg.block k (by have := h.size; omega) (fun e => by have := hr k e.symm; omega)⟩
theorem grown_rowB {w w' : World} {row : Option Nat} {b : Nat} {t : TypeId} {A : Array Value} (h : RowAt w b t A) (hg : w.grownBy w' row) (hne : some b ≠ row) : RowAt w' b t A := (hg.block b h.lt hne).trans h
theorem info_u8b : (Tryz.prog.info? 5).map (fun i => (i.zero, i.size, i.bytes)) = some (some (.int .u8 0), 1, 1) := by kernel_rfl
def decV (L : ByteArray) (k : Nat) (fill : Bool) (t : List UInt8) : Value :=
  match decP L k fill t with
  | none => .tuple #[.string ⟨#[]⟩, .int .i64 4]
  | some o => .tuple #[.string ⟨o.toArray⟩, .int .i64 0]
theorem indexByte_all (s : ByteArray) (c : UInt8) (w : World) :
    Calls Tryz.prog 90 #[.string s, .int .u8 (c.toNat : Int)] w fun e w' => e = .returned (.int .i64 (Lib.indexByte s.data.toList c)) ∧ w = w' :=
  (indexByte_any s (c.toNat : Int) w).mono fun e w' ⟨he, hw⟩ => ⟨by rw [he]; simp, hw.symm⟩
end
end Go.Proofs.YtdjlpmelmhhooaaGreatDoor
