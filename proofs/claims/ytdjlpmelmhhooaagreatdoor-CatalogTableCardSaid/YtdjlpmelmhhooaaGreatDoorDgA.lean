/- Digits: plain words; Is, weights, sums, Luhn, Check, Card; the document's; the turned digit. -/
import Derived.Test.YtdjlpmelmhhooaaGreatDoorKit
import Derived.Test.YtdjlpmelmhhooaaGreatDoorProg
import Derived.Laws.RangeAny
import Derived.Test.YtdjlpmelmhhooaaGreatDoorLibA
import Derived.OwnWalkIn
import Derived.TacticsInMore
import Derived.LoopNIn
import Derived.LoopIn
import Derived.Shelf.Abstract
import Derived.Shelf.RegionOpen
namespace Go.Proofs.YtdjlpmelmhhooaaGreatDoor
section
open Go

/-- Are they digits? -/
def isDig (l : List UInt8) : Bool := l.all fun c => decide (48 ≤ c.toNat) && decide (c.toNat ≤ 57)
def isNum (l : List UInt8) : Bool := isDig l && !l.isEmpty
theorem isDig_get {l : List UInt8} (h : isDig l = true) {i : Nat} (hi : i < l.length) : 48 ≤ l[i].toNat ∧ l[i].toNat ≤ 57 := by
  have := (List.all_eq_true.1 h) l[i] (List.getElem_mem hi)
  simpa using this
/-- A digit's weight. -/
def weightN (c : UInt8) (d : Bool) : Nat := if d then (if 10 ≤ (c.toNat - 48) * 2 then (c.toNat - 48) * 2 - 9 else (c.toNat - 48) * 2) else c.toNat - 48
/-- The weights of digits, the first of the row first; each second one doubled. -/
def weightsN : Bool → List UInt8 → List Nat
  | _, [] => []
  | d, c :: l => weightN c d :: weightsN (!d) l
def luhnSum (d : Bool) (l : List UInt8) : Nat := (weightsN d l.reverse).sum
def luhnN (l : List UInt8) : Bool := isNum l && decide (luhnSum false l % 10 = 0)
theorem weightN_le (c : UInt8) (h : c.toNat ≤ 57) (d : Bool) : weightN c d ≤ 9 := by
  unfold weightN
  split
  · split <;> omega
  · omega
theorem weightsN_le : ∀ (l : List UInt8) (d : Bool), isDig l = true → (weightsN d l).sum ≤ 9 * l.length
  | [], _, _ => by simp [weightsN]
  | c :: l, d, h => by
    have h1 : isDig l = true := by
      unfold isDig at h ⊢; rw [List.all_cons] at h; exact (Bool.and_eq_true_iff.1 h).2
    have h2 := (isDig_get h (i := 0) (by simp)).2
    have ih := weightsN_le l (!d) h1
    have h3 := weightN_le c (by simpa using h2) d
    simp only [weightsN, List.sum_cons, List.length_cons]
    omega
theorem isDig_reverse {l : List UInt8} (h : isDig l = true) : isDig l.reverse = true := by
  unfold isDig at *
  rw [List.all_eq_true] at *
  exact fun x hx => h x (List.mem_reverse.1 hx)
end
section
open Go Go.RowKit
set_option linter.unusedSimpArgs false

theorem toList_none : (⟨#[]⟩ : ByteArray).toList.isEmpty = true := by
  unfold ByteArray.toList
  unfold ByteArray.toList.loop
  rfl
theorem isDig_take_succ (l : List UInt8) (k : Nat) (h : k < l.length) : isDig (l.take (k + 1)) = (isDig (l.take k) && (decide (48 ≤ l[k].toNat) && decide (l[k].toNat ≤ 57))) := by
  unfold isDig
  rw [List.take_succ_eq_append_getElem h, List.all_append]
  simp
theorem isDig_of_bad (l : List UInt8) (k : Nat) (h : k < l.length) (hb : l[k].toNat < 48 ∨ 57 < l[k].toNat) : isDig l = false := by
  rw [Bool.eq_false_iff]
  intro hd
  have := isDig_get hd h
  omega
theorem isNum_bad {l : List UInt8} (h : isDig l = false) : isNum l = false := by simp [isNum, h]

set_option maxRecDepth 100000 in
set_option maxHeartbeats 4000000 in
theorem is_any (s : ByteArray) (hs : s.size ≤ 140737488351232) (w : World) : Calls Tryz.prog 60 #[.string s] w fun e w' => e = .returned (.bool (isNum s.data.toList)) ∧ Below w.heap.size w w' := by
  go_enter Tryz.func60, Tryz.ntmps60
  go_wp2
  go_loopw [4] (fun _ wr => ∃ pos, pos ≤ s.size ∧ Hid (isDig (s.data.toList.take pos) = true) ∧ wr = w.iter s pos) (fun _ wr => s.size - wr.iterPos w.heap.size)
  case atStart => exact ⟨0, Nat.zero_le _, hid (by simp [isDig]), rfl⟩
  case round =>
    obtain ⟨pos, hpos, hd, rfl⟩ := hrel
    by_cases hp : pos < s.size
    · have hl : pos < s.data.toList.length := by simpa using hp
      have hget : s.data.toList[pos] = s[pos] := rfl
      by_cases hhi : 128 ≤ s[pos].toNat
      · have hnext := fun ty => run_next_any (P := Tryz.prog) w s pos ty hp
        obtain ⟨hdh, _⟩ := decode_high s pos hp hhi
        have hle := decode_le s pos
        have hbad := hid (isNum_bad (isDig_of_bad _ pos hl (.inr (by rw [hget]; omega))))
        obtain ⟨r, hr⟩ : ∃ r, r = (Utf8.decode s pos).1 := ⟨_, rfl⟩
        obtain ⟨st, hst⟩ : ∃ r, r = (Utf8.decode s pos).2 := ⟨_, rfl⟩
        rw [← hr] at hdh hle hnext
        rw [← hst] at hnext
        clear hr hst hget hhi hl
        have h1 : decide ((r : Int) < 48) = false := decide_eq_false (by omega)
        have h1' : ¬ (r : Int) < 48 := by omega
        have h2 : decide ((57 : Int) < (r : Int)) = true := decide_eq_true (by omega)
        have h2' : (57 : Int) < (r : Int) := by omega
        go_wp2
        go_ret
        exact ⟨ret_bool hbad.out.symm, (Below.refl _ _).alloc (Nat.le_refl _) _⟩
      · have hnext := fun ty => run_next_ascii (P := Tryz.prog) w s pos ty hp (by omega)
        obtain ⟨r, hr⟩ : ∃ r, r = s[pos].toNat := ⟨_, rfl⟩
        simp only [← hr] at hnext
        have hr0 := hr
        by_cases h1' : (r : Int) < 48
        · have hbad := hid (isNum_bad (isDig_of_bad _ pos hl (.inl (by rw [hget]; omega))))
          clear hget hr hr0 hhi
          have h1 : decide ((r : Int) < 48) = true := decide_eq_true (by omega)
          go_wp2
          go_ret
          exact ⟨ret_bool hbad.out.symm, (Below.refl _ _).alloc (Nat.le_refl _) _⟩
        · by_cases h2' : (57 : Int) < (r : Int)
          · have hbad := hid (isNum_bad (isDig_of_bad _ pos hl (.inr (by rw [hget]; omega))))
            clear hget hr hr0 hhi
            have h1 : decide ((r : Int) < 48) = false := decide_eq_false (by omega)
            have h2 : decide ((57 : Int) < (r : Int)) = true := decide_eq_true (by omega)
            go_wp2
            go_ret
            exact ⟨ret_bool hbad.out.symm, (Below.refl _ _).alloc (Nat.le_refl _) _⟩
          · have hgood := hid (show isDig (s.data.toList.take (pos + 1)) = true by
              rw [isDig_take_succ _ _ hl, hd.out, hget]; simp; omega)
            clear hget hr hr0 hhi
            have h1 : decide ((r : Int) < 48) = false := decide_eq_false (by omega)
            have h2 : decide ((57 : Int) < (r : Int)) = false := decide_eq_false (by omega)
            go_wp2
            go_roundw
            case rel => exact ⟨pos + 1, by omega, hgood, rfl⟩
            case measure => simp only [World.iterPos_iter]; omega
    · have hnext := fun ty => run_next_end (P := Tryz.prog) w s pos ty hp
      obtain rfl : pos = s.size := by omega
      have hfin := hd.out
      rw [List.take_of_length_le (by simp)] at hfin
      replace hfin := hid hfin
      go_wp2
      go_ret
      refine ⟨ret_bool ?_, (Below.refl _ _).alloc (Nat.le_refl _) _⟩
      rw [isNum, hfin.out, Bool.true_and]
      by_cases h0 : 1 ≤ s.size
      · rw [toList_empty h0]
        have h1 : s.data.toList.length = s.size := by simp
        cases h2 : s.data.toList with
        | nil => rw [h2] at h1; simp at h1; omega
        | cons a l => rfl
      · have h7 : s.data = #[] := by
          apply Array.eq_empty_of_size_eq_zero
          have h1 : s.data.size = s.size := rfl
          omega
        cases s; simp only at h7; subst h7
        have h8 : (⟨#[]⟩ : ByteArray).toList.isEmpty = true := toList_none
        rw [h8]; rfl
end
section
open Go Go.RowKit
set_option linter.unusedSimpArgs false
attribute [local go_sem] Oper.semAt_some

def encW (x : Nat) : Array Value := #[.int .i64 (x : Nat)]

theorem run_index_text {P : Program} (t : TypeId) (s : ByteArray) (k : IntKind) (i c : Nat) (h : P.underlying t = some .string) (hi : i < s.size) (hc : c = s[i].toNat) (w : World) :
    (Instr.index t (.string s) (.int k (i : Int))).run P w = .ok (.int .u8 (c : Int)) w := by
  subst hc
  have h2 : s[i]? = some s[i] := by simp [hi]
  simp [Instr.index, asIntOf, run_underlying h, h2]

theorem weights_make (s : ByteArray) (d : Bool) (w : World) : Calls Tryz.prog 131 #[.string s, .bool d] w fun e w' =>
    e = .returned (.func (.func 152) #[] #[.pointer (some ⟨w.heap.size, 0, none⟩), .pointer (some ⟨w.heap.size + 1, 0, none⟩)]) ∧ (w.alloc (.cells #[.string s] 9)).alloc (.cells #[.bool d] 4) = w' := by
  go_enter Tryz.func131, Tryz.ntmps131
  go_wp2
  go_ret
  exact ⟨by simp, rfl⟩

set_option maxRecDepth 100000 in
set_option maxHeartbeats 8000000 in
theorem weights_on (s : ByteArray) (hs : s.size ≤ 140737488351232) (hd : isDig s.data.toList = true) (d : Bool) (bs bd : Nat) (hne : bs ≠ bd) (w : World) (hrs : RowAt w bs 9 #[.string s]) (hrd : RowAt w bd 4 #[.bool d]) :
    IterOn Tryz.prog 152 #[.pointer (some ⟨bs, 0, none⟩), .pointer (some ⟨bd, 0, none⟩)] encW (fun k => k = bd) (fun k => k = bs ∨ k = bd) (weightsN d s.data.toList.reverse) w := by
  intro l J Jx W hb hJ hJx hY h0
  have hrsW : RowAt W bs 9 #[.string s] := hrs.below hb hrs.lt
  have hrdW : RowAt W bd 4 #[.bool d] := hrd.below hb hrd.lt
  have hcs0 := hrsW.cell (j := 0) rfl
  have hlen : s.data.toList.length = s.size := by simp
  replace hd := hid hd
  replace hlen := hid hlen
  refine callsIn_of_wp Tryz.func152 rfl trivial ?_
  simp only [Tryz.ntmps152, List.size_toArray, List.length_cons, List.length_nil, Nat.reduceAdd, Nat.reduceSub, Array.replicate_succ, Array.replicate_zero, List.push_toArray, List.append_toArray, List.nil_append, List.cons_append]
  gi_wp2
  gi_loopw [4] (fun p wr => ∃ (k : Nat) (i : Int) (d' : Bool) (pre : List Nat), p = .int .i64 i ∧ (k : Int) = i + 1 ∧ k ≤ s.size ∧ Hid (weightsN d s.data.toList.reverse = pre ++ weightsN d' (s.data.toList.take k).reverse) ∧ Hid (J pre wr) ∧ Hid (RowAt wr bs 9 #[.string s]) ∧ Hid (RowAt wr bd 4 #[.bool d']) ∧ W.heap.size ≤ wr.heap.size)
    (fun p _ => (intOf p + 1).toNat)
  case atStart => exact ⟨s.size, _, d, [], rfl, by omega, Nat.le_refl _, by refine hid ?_; rw [List.take_of_length_le (by simp)]; rfl, hid h0, hid hrsW, hid hrdW, Nat.le_refl _⟩
  case round =>
    obtain ⟨k, i, d', pre, rfl, hki, hk, hx, hj, hbs, hbd, hsz⟩ := hrel
    rcases k with _ | k
    · obtain rfl : i = -1 := by omega
      have hxs : weightsN d s.data.toList.reverse = pre := by rw [hx.out]; simp [weightsN]
      replace hxs := hid hxs
      gi_wp2
      go_end0
      exact ⟨⟨_, rfl⟩, .inl (by rw [hxs.out]; exact hj.out)⟩
    · obtain rfl : i = (k : Int) := by omega
      have hl : k < s.data.toList.length := by rw [hlen.out]; omega
      have hdg := isDig_get hd.out hl
      obtain ⟨u, hu⟩ : ∃ u, u = s.data.toList[k] := ⟨_, rfl⟩
      obtain ⟨c, hc⟩ : ∃ c, c = u.toNat := ⟨_, rfl⟩
      have hidx := fun w => run_index_text (P := Tryz.prog) 9 s .i64 k c Tryz.underlying9 (by omega) (by rw [hc, hu]; rfl) w
      obtain ⟨wt, hwt⟩ : ∃ x, x = weightN u d' := ⟨_, rfl⟩
      have hxs : weightsN d s.data.toList.reverse = pre ++ wt :: weightsN (!d') (s.data.toList.take k).reverse := by
        rw [hx.out, List.take_succ_eq_append_getElem hl, List.reverse_append, hwt, hu]; rfl
      obtain ⟨fn, tmps, assign, body, hy, hR⟩ := hY pre wt _ wr hxs hsz hj.out
      simp only [encW] at hy
      rw [← hu, ← hc] at hdg
      have hcs := hbs.out.cell (j := 0) rfl
      have hcd := hbd.out.cell (j := 0) rfl
      obtain ⟨nd, hnd⟩ : ∃ x, x = !d' := ⟨_, rfl⟩
      have hxs2 : weightsN d s.data.toList.reverse = (pre ++ [wt]) ++ weightsN nd (s.data.toList.take k).reverse := by rw [hxs, hnd]; simp
      replace hxs := hid hxs
      replace hxs2 := hid hxs2
      obtain ⟨hc1, hc2⟩ := hdg
      have hsub : ((c : Int) - 48) % 256 = (c : Int) - 48 := by omega
      have hW : wt = if d' then (if 10 ≤ (c - 48) * 2 then (c - 48) * 2 - 9 else (c - 48) * 2) else c - 48 := by rw [hwt, hc]; rfl
      clear hwt hu hc hl
      have ways : (d' = false ∧ wt = c - 48) ∨ (d' = true ∧ 10 ≤ (c - 48) * 2 ∧ wt = (c - 48) * 2 - 9) ∨ (d' = true ∧ ¬ 10 ≤ (c - 48) * 2 ∧ wt = (c - 48) * 2) := by
        cases d'
        · exact .inl ⟨rfl, by simpa using hW⟩
        · by_cases h : 10 ≤ (c - 48) * 2
          · exact .inr (.inl ⟨rfl, h, by simpa [h] using hW⟩)
          · exact .inr (.inr ⟨rfl, h, by simpa [h] using hW⟩)
      clear hW
      rcases ways with ⟨rfl, hw⟩ | ⟨rfl, hge, hw⟩ | ⟨rfl, hge, hw⟩
      case' inl =>
        obtain rfl : nd = true := hnd
        have hv : (c : Int) - 48 = (wt : Int) := by omega
        have h10 : decide ((10 : Int) ≤ (wt : Int)) = false := decide_eq_false (by omega)
        have h10' : ¬ (10 : Int) ≤ (wt : Int) := by omega
      case' inr.inl =>
        obtain rfl : nd = false := hnd
        have h10 : decide ((10 : Int) ≤ ((c : Int) - 48) * 2) = true := decide_eq_true (by omega)
        have h10' : (10 : Int) ≤ ((c : Int) - 48) * 2 := by omega
        have hv : ((c : Int) - 48) * 2 - 9 = (wt : Int) := by omega
      case' inr.inr =>
        obtain rfl : nd = false := hnd
        have hv : ((c : Int) - 48) * 2 = (wt : Int) := by omega
        have h10 : decide ((10 : Int) ≤ (wt : Int)) = false := decide_eq_false (by omega)
        have h10' : ¬ (10 : Int) ≤ (wt : Int) := by omega
      all_goals
        replace hw := hid hw
        gi_wp2
        refine ⟨rfl, hR.mono ?_⟩
        rintro e W2 (⟨rfl, hj2, hk2⟩ | ⟨rfl, hj2, hk2⟩)
        · have hbs2 : RowAt W2 bs 9 #[.string s] := hk2.row hbs.out (fun h => h (.inl rfl))
          have hbd2 := hk2.row hbd.out (fun h => h (.inr rfl))
          have hsz2 : W.heap.size ≤ W2.heap.size := Nat.le_trans hsz hk2.size
          have hcd2 := hbd2.cell (j := 0) rfl
          have hfd2 := hbd2.free 0
          clear hcs hcd
          have hcs2 := hbs2.cell (j := 0) rfl
          replace hbs2 := hid hbs2
          replace hbd2 := hid hbd2
          replace hj2 := hid hj2
          clear hj hbs hbd hy hR hk2
          gi_wp2
          go_roundw
          case rel =>
            exact ⟨k, _, _, pre ++ [wt], rfl, by omega, by omega, hxs2, hid (hJ _ _ _ hj2.out ((Kept.refl (fun k => k = bd) W2).setCell ⟨bd, 0, none⟩ (.inl rfl) _)), hid (hbs2.out.other _ _ hne),
              hid ((hbd2.out.set 0 _).eqA (by simp)), by simpa using hsz2⟩
          case measure => simp only [intOf]; omega
        · gi_wp2
          refine bodyPost_ret (results_none rfl _ _ _) rfl ?_
          exact ⟨⟨_, rfl⟩, .inr ⟨pre, wt, _, hxs.out, hj2⟩⟩

theorem weightsN_split {xs pre post : List Nat} {x B : Nat} (h : xs = pre ++ x :: post) (hB : xs.sum ≤ B) : pre.sum + x ≤ B := by
  subst h
  simp only [List.sum_append, List.sum_cons] at hB
  omega

set_option maxRecDepth 100000 in
set_option maxHeartbeats 8000000 in
theorem dsum_any (s : ByteArray) (hs : s.size ≤ 140737488351232) (hd : isDig s.data.toList = true) (d : Bool) (bs bd : Nat) (hne : bs ≠ bd) (n : Nat) (hn1 : n ≤ bs) (hn2 : n ≤ bd) (w : World) (hrs : RowAt w bs 9 #[.string s]) (hrd : RowAt w bd 4 #[.bool d]) :
    Calls Tryz.prog 130 #[.func (.func 152) #[] #[.pointer (some ⟨bs, 0, none⟩), .pointer (some ⟨bd, 0, none⟩)]] w fun e w' => e = .returned (.int .i64 (luhnSum d s.data.toList : Nat)) ∧ Below n w w' := by
  refine (callsIn_wide (n := 0)).1 ?_
  refine callsIn_of_wp_marks Tryz.func130 rfl trivial ?_
  simp only [Tryz.ntmps130, List.size_toArray, List.length_cons, List.length_nil, Nat.reduceAdd, Nat.reduceSub, Array.replicate_succ, Array.replicate_zero, List.push_toArray, List.append_toArray, List.nil_append, List.cons_append]
  have hbound : (weightsN d s.data.toList.reverse).sum ≤ 9 * 140737488351232 := by
    have h1 := weightsN_le s.data.toList.reverse d (isDig_reverse hd)
    have h2 : s.data.toList.length = s.size := by simp
    rw [List.length_reverse] at h1
    omega
  replace hbound := hid hbound
  have hls := hrs.lt
  have hld := hrd.lt
  gi_wp2
  obtain ⟨W0, hW0⟩ : ∃ W0, w.alloc (.cells #[.int .i64 0] 3) = W0 := ⟨_, rfl⟩
  have hc : RowAt W0 w.heap.size 3 #[.int .i64 0] := by rw [← hW0]; exact RowAt.new w _ _
  have hrs0 : RowAt W0 bs 9 #[.string s] := by rw [← hW0]; exact hrs.alloc _
  have hrd0 : RowAt W0 bd 4 #[.bool d] := by rw [← hW0]; exact hrd.alloc _
  have hB : Below w.heap.size w W0 := by rw [← hW0]; exact below_al (Below.refl _ _) _
  have hsz : w.heap.size + 1 = W0.heap.size := by rw [← hW0]; simp
  rw [hW0]
  clear hW0
  refine wp_iter (gf := 152) (lb := #[.pointer (some ⟨bs, 0, none⟩), .pointer (some ⟨bd, 0, none⟩)]) rfl (enters_of Tryz.func152 (by kernel_rfl) rfl) (weights_on s hs hd d bs bd hne W0 hrs0 hrd0)
    (fun k hk => by subst hk; exact hrd0.lt) (fun k hk => by rcases hk with rfl | rfl; exact hrs0.lt; exact hrd0.lt) (fun _ => rfl)
    (fun pre W => RowAt W w.heap.size 3 #[.int .i64 (pre.sum : Nat)] ∧ Below n w W) (fun _ _ _ => False) ?hI ?hIx ⟨hc, hB.mono (by omega)⟩
    (fun x a' _ => a' = { tmps := #[.func (.func 152) #[] #[.pointer (some ⟨bs, 0, none⟩), .pointer (some ⟨bd, 0, none⟩)], undef, .int .i64 0, .pointer (some ⟨w.heap.size, 0, none⟩), .int .i64 (x : Nat), .func (.func 152) #[] #[.pointer (some ⟨bs, 0, none⟩), .pointer (some ⟨bd, 0, none⟩)], .int .i64 (x : Nat), undef, undef, undef, undef], defers := [] }) ?hAx ?assign ?body ?done ?stop
  case hI =>
    rintro pre X Y ⟨h1, h2⟩ hk
    exact ⟨hk.row h1 (fun h => by rcases h with h | h | h <;> omega), below_kept h2 hk (by omega) (fun k h => by rcases h with h | h | h <;> omega)⟩
  case hIx => intro _ _ _ _ h; exact h.elim
  case hAx => intro _ _ _ _ h _; exact h
  case assign =>
    intro l pre x W K _ hi hK
    gi_wp2
    exact hK _ _ (Kept.refl _ _) hi (by simp [encW])
  case body =>
    rintro pre x post a' W hx hWs _ ⟨h1, h2⟩ rfl
    have hcell := h1.cell (j := 0) rfl
    have hfr := h1.free 0
    have hlen := weightsN_split hx hbound.out
    gi_wp2
    refine ⟨(Kept.refl _ _).setCell _ (.inl ?_) _, ?_, ?_⟩
    · rintro (h | h)
      · rcases h with h | h <;> simp at h <;> omega
      · rcases h with h | h <;> simp at h <;> omega
    · exact (h1.set 0 _).eqA (by simp)
    · exact h2.setCell (by simp; omega) _
  case done =>
    rintro W hWs ⟨h1, h2⟩ hd
    have hcell := h1.cell (j := 0) rfl
    gi_wp2
    refine leave_one hd ⟨_, results_tmp rfl _ _ _, ?_, ?_⟩
    · rfl
    · exact below_kept h2 ((Kept.refl (fun k => k = W0.heap.size) _).putObj _ _ (.inl rfl)) (by omega) (fun k hk => by omega)
  case stop => intro _ _ _ _ _ _ _ h; exact h.elim
end
section
open Go Go.RowKit
set_option linter.unusedSimpArgs false

theorem isNum_dig {l : List UInt8} (h : isNum l = true) : isDig l = true := by unfold isNum at h; exact (Bool.and_eq_true_iff.1 h).1
def checkN (l : List UInt8) : Nat := 48 + (10 - luhnSum true l % 10) % 10
def cardN (l : List UInt8) : Nat := if !isNum l then 4 else if l.length < 13 then 3 else if 19 < l.length then 5 else if !luhnN l then 25 else 0

theorem wsum_any (s : ByteArray) (hs : s.size ≤ 140737488351232) (hd : isDig s.data.toList = true) (d : Bool) (w : World) :
    Calls Tryz.prog 130 #[.func (.func 152) #[] #[.pointer (some ⟨w.heap.size, 0, none⟩), .pointer (some ⟨w.heap.size + 1, 0, none⟩)]] ((w.alloc (.cells #[.string s] 9)).alloc (.cells #[.bool d] 4)) fun e w' =>
      e = .returned (.int .i64 (luhnSum d s.data.toList : Nat)) ∧ Below w.heap.size w w' := by
  refine (dsum_any s hs hd d w.heap.size (w.heap.size + 1) (by omega) w.heap.size (Nat.le_refl _) (by omega) _ ((RowAt.new w _ _).alloc _) (by have := RowAt.new (w.alloc (.cells #[.string s] 9)) #[.bool d] 4; rwa [World.size_alloc] at this)).mono ?_
  rintro e w' ⟨rfl, hB⟩
  exact ⟨rfl, (below_al (below_al (Below.refl _ _) _) _).trans hB⟩

set_option maxRecDepth 100000 in
set_option maxHeartbeats 4000000 in
theorem luhn_any (s : ByteArray) (hs : s.size ≤ 140737488351232) (w : World) : Calls Tryz.prog 101 #[.string s] w fun e w' => e = .returned (.bool (luhnN s.data.toList)) ∧ Below w.heap.size w w' := by
  have cI := fun w => is_any s hs w
  go_enter Tryz.func101, Tryz.ntmps101
  cases h : isNum s.data.toList with
  | false =>
    simp only [h] at cI
    have hl : luhnN s.data.toList = false := by simp [luhnN, h]
    replace cI := hid cI
    replace hl := hid hl
    clear h
    go_wp2_with (go_at_call 60; refine (cI.out _).mono ?_; rintro e w1 ⟨rfl, hB1⟩)
    go_ret
    exact ⟨ret_bool hl.out.symm, hB1⟩
  | true =>
    simp only [h] at cI
    have hl : luhnN s.data.toList = decide (luhnSum false s.data.toList % 10 = 0) := by simp [luhnN, h]
    have cS := fun w => wsum_any s hs (isNum_dig h) false w
    have cW := fun w => weights_make s false w
    obtain ⟨m, hm⟩ : ∃ m, m = luhnSum false s.data.toList := ⟨_, rfl⟩
    rw [← hm] at hl cS
    replace cI := hid cI
    replace hl := hid hl
    replace cS := hid cS
    replace cW := hid cW
    clear h hm
    go_wp2_with (first
      | (go_at_call 60; refine (cI.out _).mono ?_; rintro e w1 ⟨rfl, hB1⟩)
      | (go_at_call 131; refine (cW.out _).mono ?_; rintro e w2 ⟨rfl, rfl⟩)
      | (go_at_call 130; refine (cS.out _).mono ?_; rintro e w3 ⟨rfl, hB3⟩))
    go_ret
    refine ⟨ret_bool ?_, hB1.trans (hB3.mono hB1.size)⟩
    rw [hl.out, Bool.eq_iff_iff]
    simp
    omega

set_option maxRecDepth 100000 in
set_option maxHeartbeats 4000000 in
theorem card_any (s : ByteArray) (hs : s.size ≤ 140737488351232) (w : World) : Calls Tryz.prog 63 #[.string s] w fun e w' => e = .returned (.int .i64 (cardN s.data.toList : Nat)) ∧ Below w.heap.size w w' := by
  have cI := fun w => is_any s hs w
  have cL := fun w => luhn_any s hs w
  have hlen : s.data.toList.length = s.size := by simp
  have hN : cardN s.data.toList = if !isNum s.data.toList then 4 else if s.size < 13 then 3 else if 19 < s.size then 5 else if !luhnN s.data.toList then 25 else 0 := by rw [cardN, hlen]
  obtain ⟨b, hb⟩ : ∃ b, b = isNum s.data.toList := ⟨_, rfl⟩
  obtain ⟨g, hg⟩ : ∃ b, b = luhnN s.data.toList := ⟨_, rfl⟩
  simp only [← hb] at cI hN
  simp only [← hg] at cL hN
  clear hb hg hlen
  go_enter Tryz.func63, Tryz.ntmps63
  cases b
  · have hN' := hid (show cardN s.data.toList = 4 by rw [hN]; rfl)
    replace cI := hid cI
    clear hN cL
    go_wp2_with (go_at_call 60; refine (cI.out _).mono ?_; rintro e w1 ⟨rfl, hB1⟩)
    go_ret
    exact ⟨by rw [hN'.out]; rfl, hB1⟩
  · by_cases h1 : s.size < 13
    · have hN' := hid (show cardN s.data.toList = 3 by rw [hN]; simp [h1])
      have h1' : (s.size : Int) < 13 := by omega
      have h1b : decide ((s.size : Int) < 13) = true := decide_eq_true h1'
      replace cI := hid cI
      clear hN cL
      go_wp2_with (go_at_call 60; refine (cI.out _).mono ?_; rintro e w1 ⟨rfl, hB1⟩)
      go_ret
      exact ⟨by rw [hN'.out]; rfl, hB1⟩
    · have h1' : ¬ (s.size : Int) < 13 := by omega
      have h1b : decide ((s.size : Int) < 13) = false := decide_eq_false h1'
      by_cases h2 : 19 < s.size
      · have hN' := hid (show cardN s.data.toList = 5 by rw [hN]; simp [h1, h2])
        have h2' : (19 : Int) < (s.size : Int) := by omega
        have h2b : decide ((19 : Int) < (s.size : Int)) = true := decide_eq_true h2'
        replace cI := hid cI
        clear hN cL
        go_wp2_with (go_at_call 60; refine (cI.out _).mono ?_; rintro e w1 ⟨rfl, hB1⟩)
        go_ret
        exact ⟨by rw [hN'.out]; rfl, hB1⟩
      · have h2' : ¬ (19 : Int) < (s.size : Int) := by omega
        have h2b : decide ((19 : Int) < (s.size : Int)) = false := decide_eq_false h2'
        cases g
        · have hN' := hid (show cardN s.data.toList = 25 by rw [hN]; simp [h1, h2])
          replace cI := hid cI
          replace cL := hid cL
          clear hN
          go_wp2_with (first | (go_at_call 60; refine (cI.out _).mono ?_; rintro e w1 ⟨rfl, hB1⟩) | (go_at_call 101; refine (cL.out _).mono ?_; rintro e w2 ⟨rfl, hB2⟩))
          go_ret
          exact ⟨by rw [hN'.out]; rfl, below_cat hB2 hB1⟩
        · have hN' := hid (show cardN s.data.toList = 0 by rw [hN]; simp [h1, h2])
          replace cI := hid cI
          replace cL := hid cL
          clear hN
          go_wp2_with (first | (go_at_call 60; refine (cI.out _).mono ?_; rintro e w1 ⟨rfl, hB1⟩) | (go_at_call 101; refine (cL.out _).mono ?_; rintro e w2 ⟨rfl, hB2⟩))
          go_ret
          exact ⟨by rw [hN'.out]; rfl, below_cat hB2 hB1⟩
end
section
open Go Go.RowKit
set_option linter.unusedSimpArgs false

theorem weightsN_snoc : ∀ (a : List UInt8) (d : Bool) (c : UInt8), weightsN d (a ++ [c]) = weightsN d a ++ [weightN c (d != decide (a.length % 2 = 1))]
  | [], d, c => by simp [weightsN]
  | b :: a, d, c => by
    simp only [List.cons_append, weightsN, weightsN_snoc a (!d) c, List.length_cons, List.cons.injEq, true_and]
    congr 2
    congr 1
    rcases Nat.mod_two_eq_zero_or_one a.length with h | h
    · have : (a.length + 1) % 2 = 1 := by omega
      simp [h, this]
    · have : (a.length + 1) % 2 = 0 := by omega
      simp [h, this]

set_option maxRecDepth 100000 in
set_option maxHeartbeats 4000000 in
theorem refIs_any (s : ByteArray) (hs : s.size ≤ 140737488351232) (w : World) : Calls Tryz.prog 66 #[.string s] w fun e w' => e = .returned (.bool (isNum s.data.toList)) ∧ w = w' := by
  have hlen : s.data.toList.length = s.size := by simp
  replace hlen := hid hlen
  go_enter Tryz.func66, Tryz.ntmps66
  go_wp2
  go_loopw [3] (fun i wr => ∃ k : Nat, i = .int .i64 k ∧ k ≤ s.size ∧ Hid (isDig (s.data.toList.take k) = true) ∧ wr = w) (fun i _ => s.size - (intOf i).toNat)
  case atStart => exact ⟨0, rfl, Nat.zero_le _, hid (by simp [isDig]), rfl⟩
  case round =>
    obtain ⟨k, rfl, hk, hd, rfl⟩ := hrel
    by_cases hp : k < s.size
    · have hl : k < s.data.toList.length := by rw [hlen.out]; omega
      obtain ⟨c, hc⟩ : ∃ c, c = s.data.toList[k].toNat := ⟨_, rfl⟩
      have hidx := fun w => run_index_text (P := Tryz.prog) 9 s .i64 k c Tryz.underlying9 hp (by rw [hc]; rfl) w
      have hp' : (k : Int) < (s.size : Int) := by omega
      by_cases h1' : (c : Int) < 48
      · have hbad := hid (isNum_bad (isDig_of_bad _ k hl (.inl (by rw [← hc]; omega))))
        have h1 : decide ((c : Int) < 48) = true := decide_eq_true h1'
        clear hc
        go_wp2
        go_ret
        exact ⟨ret_bool hbad.out.symm, rfl⟩
      · have h1 : decide ((c : Int) < 48) = false := decide_eq_false h1'
        by_cases h2' : (57 : Int) < (c : Int)
        · have hbad := hid (isNum_bad (isDig_of_bad _ k hl (.inr (by rw [← hc]; omega))))
          have h2 : decide ((57 : Int) < (c : Int)) = true := decide_eq_true h2'
          clear hc
          go_wp2
          go_ret
          exact ⟨ret_bool hbad.out.symm, rfl⟩
        · have hgood := hid (show isDig (s.data.toList.take (k + 1)) = true by
            rw [isDig_take_succ _ _ hl, hd.out, ← hc]; simp; omega)
          have h2 : decide ((57 : Int) < (c : Int)) = false := decide_eq_false h2'
          clear hc
          go_wp2
          go_roundw
          case rel => exact ⟨k + 1, by go_num, by omega, hgood, trivial⟩
          case measure => simp [intOf]; omega
    · obtain rfl : k = s.size := by omega
      have hfin := hd.out
      rw [List.take_of_length_le (by simp)] at hfin
      have hN : isNum s.data.toList = decide (0 < s.size) := by
        rw [isNum, hfin, Bool.true_and]
        cases h2 : s.data.toList with
        | nil => have := hlen.out; rw [h2] at this; simp at this; simp [← this]
        | cons a l => have := hlen.out; rw [h2] at this; simp at this; simp; omega
      replace hN := hid hN
      clear hfin
      go_wp2
      go_ret
      exact ⟨ret_bool hN.out.symm, rfl⟩

set_option maxRecDepth 100000 in
set_option maxHeartbeats 8000000 in
theorem refLuhn_any (s : ByteArray) (hs : s.size ≤ 140737488351232) (w : World) : Calls Tryz.prog 106 #[.string s] w fun e w' => e = .returned (.bool (luhnN s.data.toList)) ∧ w = w' := by
  have cI := fun w => refIs_any s hs w
  have hlen : s.data.toList.length = s.size := by simp
  replace hlen := hid hlen
  go_enter Tryz.func106, Tryz.ntmps106
  cases h : isNum s.data.toList with
  | false =>
    simp only [h] at cI
    have hl : luhnN s.data.toList = false := by simp [luhnN, h]
    replace cI := hid cI
    replace hl := hid hl
    clear h
    go_wp2_with (go_at_call 66; refine (cI.out _).mono ?_; rintro e w1 ⟨rfl, rfl⟩)
    go_ret
    exact ⟨ret_bool hl.out.symm, rfl⟩
  | true =>
    simp only [h] at cI
    have hl : luhnN s.data.toList = decide ((weightsN false s.data.toList.reverse).sum % 10 = 0) := by rw [luhnN, h, Bool.true_and]; rfl
    have hd := isNum_dig h
    replace cI := hid cI
    replace hl := hid hl
    replace hd := hid hd
    clear h
    go_wp2_with (go_at_call 66; refine (cI.out _).mono ?_; rintro e w1 ⟨rfl, rfl⟩)
    go_loopw [3, 4] (fun t i wr => ∃ k m : Nat, i = .int .i64 k ∧ t = .int .i64 m ∧ k ≤ s.size ∧ m ≤ 9 * k ∧ Hid (m = (weightsN false (s.data.toList.reverse.take k)).sum) ∧ wr = w) (fun _ i _ => s.size - (intOf i).toNat)
    case atStart => exact ⟨0, 0, rfl, rfl, Nat.zero_le _, Nat.zero_le _, hid (by simp [weightsN]), rfl⟩
    case round =>
      obtain ⟨k, m, rfl, rfl, hk, hmk, hm, rfl⟩ := hrel
      by_cases hp : k < s.size
      · have hl2 : s.size - 1 - k < s.data.toList.length := by rw [hlen.out]; omega
        have hlr : k < s.data.toList.reverse.length := by rw [List.length_reverse, hlen.out]; omega
        have hdg := isDig_get hd.out hl2
        obtain ⟨u, hu⟩ : ∃ u, u = s.data.toList[s.size - 1 - k] := ⟨_, rfl⟩
        have hur : s.data.toList.reverse[k] = u := by rw [hu, List.getElem_reverse]; congr 1
        obtain ⟨c, hc⟩ : ∃ c, c = u.toNat := ⟨_, rfl⟩
        obtain ⟨j, hj⟩ : ∃ j, j = s.size - 1 - k := ⟨_, rfl⟩
        have hidx := fun w => run_index_text (P := Tryz.prog) 9 s .i64 j c Tryz.underlying9 (by omega) (by rw [hc, hu]; subst hj; rfl) w
        have hjz : ((s.size : Int) - 1) - (k : Int) = (j : Int) := by omega
        rw [← hu, ← hc] at hdg
        obtain ⟨hc1, hc2⟩ := hdg
        have hW : weightN u (decide (k % 2 = 1)) = if decide (k % 2 = 1) then (if 10 ≤ (c - 48) * 2 then (c - 48) * 2 - 9 else (c - 48) * 2) else c - 48 := by rw [hc]; rfl
        have hstep : (weightsN false (s.data.toList.reverse.take (k + 1))).sum = m + weightN u (decide (k % 2 = 1)) := by
          rw [List.take_succ_eq_append_getElem hlr, weightsN_snoc, hur, hm.out, List.length_take, Nat.min_eq_left (by omega)]
          simp
        rw [hW] at hstep
        replace hstep := hid hstep
        clear hu hur hc hW hj hl2 hlr
        obtain ⟨n, hn⟩ : ∃ n, n = c - 48 := ⟨_, rfl⟩
        have hsub : ((c : Int) - 48) = (n : Int) := by omega
        rw [← hn] at hstep
        have hn9 : n ≤ 9 := by omega
        clear hn
        have hp' : (k : Int) < (s.size : Int) := by omega
        rcases Nat.mod_two_eq_zero_or_one k with hpar | hpar
        · have hz : ((k : Int) % 2 == 1) = false := by rw [beq_eq_false_iff_ne]; omega
          have hst2 : (weightsN false (s.data.toList.reverse.take (k + 1))).sum = m + n := by rw [hstep.out]; simp [hpar]
          replace hst2 := hid hst2
          clear hpar
          go_wp2
          go_roundw
          case rel => exact ⟨k + 1, m + n, by go_num, by go_num, by omega, by omega, hid hst2.out.symm, trivial⟩
          case measure => simp [intOf]; omega
        · have hz : ((k : Int) % 2 == 1) = true := by rw [beq_iff_eq]; omega
          obtain ⟨q, hq⟩ : ∃ q, q = n * 2 / 10 + n * 2 % 10 := ⟨_, rfl⟩
          have hst2 : (weightsN false (s.data.toList.reverse.take (k + 1))).sum = m + q := by rw [hstep.out, hq]; simp only [hpar, decide_true, if_true]; split <;> omega
          have hqz : ((n : Int) * 2) / 10 + ((n : Int) * 2) % 10 = (q : Int) := by omega
          have hq9 : q ≤ 9 := by omega
          replace hst2 := hid hst2
          clear hpar hq
          go_wp2
          go_roundw
          case rel => exact ⟨k + 1, m + q, by go_num, by go_num, by omega, by omega, hid hst2.out.symm, trivial⟩
          case measure => simp [intOf]; omega
      · obtain rfl : k = s.size := by omega
        have hfin : luhnN s.data.toList = decide (m % 10 = 0) := by
          rw [hl.out, hm.out, List.take_of_length_le (by simp)]
        replace hfin := hid hfin
        go_wp2
        go_ret
        refine ⟨ret_bool ?_, rfl⟩
        rw [hfin.out, Bool.eq_iff_iff]
        simp
        omega

set_option maxRecDepth 100000 in
set_option maxHeartbeats 4000000 in
theorem refCard_any (s : ByteArray) (hs : s.size ≤ 140737488351232) (w : World) : Calls Tryz.prog 68 #[.string s] w fun e w' => e = .returned (.int .i64 (cardN s.data.toList : Nat)) ∧ w = w' := by
  have cI := fun w => refIs_any s hs w
  have cL := fun w => refLuhn_any s hs w
  have hlen : s.data.toList.length = s.size := by simp
  have hN : cardN s.data.toList = if !isNum s.data.toList then 4 else if s.size < 13 then 3 else if 19 < s.size then 5 else if !luhnN s.data.toList then 25 else 0 := by rw [cardN, hlen]
  obtain ⟨b, hb⟩ : ∃ b, b = isNum s.data.toList := ⟨_, rfl⟩
  obtain ⟨g, hg⟩ : ∃ b, b = luhnN s.data.toList := ⟨_, rfl⟩
  simp only [← hb] at cI hN
  simp only [← hg] at cL hN
  clear hb hg hlen
  go_enter Tryz.func68, Tryz.ntmps68
  replace cI := hid cI
  replace cL := hid cL
  cases b
  case' false =>
    have hN' := hid (show cardN s.data.toList = 4 by rw [hN]; rfl)
  case' true =>
    by_cases h1 : s.size < 13
    case' pos =>
      have hN' := hid (show cardN s.data.toList = 3 by rw [hN]; simp [h1])
      have h1' : (s.size : Int) < 13 := by omega
      have h1b : decide ((s.size : Int) < 13) = true := decide_eq_true h1'
    case' neg =>
      have h1' : ¬ (s.size : Int) < 13 := by omega
      have h1b : decide ((s.size : Int) < 13) = false := decide_eq_false h1'
      by_cases h2 : 19 < s.size
      case' pos =>
        have hN' := hid (show cardN s.data.toList = 5 by rw [hN]; simp [h1, h2])
        have h2' : (19 : Int) < (s.size : Int) := by omega
        have h2b : decide ((19 : Int) < (s.size : Int)) = true := decide_eq_true h2'
      case' neg =>
        have h2' : ¬ (19 : Int) < (s.size : Int) := by omega
        have h2b : decide ((19 : Int) < (s.size : Int)) = false := decide_eq_false h2'
        cases g
        case' false => have hN' := hid (show cardN s.data.toList = 25 by rw [hN]; simp [h1, h2])
        case' true => have hN' := hid (show cardN s.data.toList = 0 by rw [hN]; simp [h1, h2])
  all_goals
    clear hN
    go_wp2_with (first | (go_at_call 66; refine (cI.out _).mono ?_; rintro e w1 ⟨rfl, rfl⟩) | (go_at_call 106; refine (cL.out _).mono ?_; rintro e w2 ⟨rfl, rfl⟩))
    go_ret
    exact ⟨by rw [hN'.out]; rfl, rfl⟩
end
section
open Go

theorem luhnSum_snoc (l : List UInt8) (c : UInt8) (d : Bool) : luhnSum d (l ++ [c]) = weightN c d + luhnSum (!d) l := by
  simp [luhnSum, weightsN]
theorem isDig_append (a b : List UInt8) : isDig (a ++ b) = (isDig a && isDig b) := by simp [isDig]
theorem checkN_le (l : List UInt8) : 48 ≤ checkN l ∧ checkN l ≤ 57 := by unfold checkN; omega
theorem check_right (l : List UInt8) (h : isNum l = true) : luhnN (l ++ [UInt8.ofNat (checkN l)]) = true := by
  have hc := checkN_le l
  have hn : (UInt8.ofNat (checkN l)).toNat = checkN l := by simp; omega
  have h1 : isDig [UInt8.ofNat (checkN l)] = true := by simp only [isDig, List.all_cons, List.all_nil, hn]; simp; omega
  rw [luhnN, isNum, isDig_append, isNum_dig h, h1, luhnSum_snoc]
  have h2 : weightN (UInt8.ofNat (checkN l)) false = checkN l - 48 := by rw [weightN, hn]; simp
  rw [h2]
  simp [checkN]
  omega
/-- A digit's weight, out of its number. -/
def wgt (x : Nat) (p : Bool) : Nat := if p then (if 10 ≤ x * 2 then x * 2 - 9 else x * 2) else x
theorem weightN_wgt (c : UInt8) (p : Bool) : weightN c p = wgt (c.toNat - 48) p := rfl
theorem wgt_turn : ∀ x, x < 10 → ∀ y, y < 10 → ∀ p : Bool, (wgt ((x + y) % 10) p % 10 = wgt x p % 10) ↔ y = 0 := by decide +kernel
theorem weights_set : ∀ (L : List UInt8) (d : Bool) (j : Nat) (h : j < L.length) (c : UInt8), (weightsN d (L.set j c)).sum + weightN L[j] (d != decide (j % 2 = 1)) = (weightsN d L).sum + weightN c (d != decide (j % 2 = 1))
  | x :: L, d, 0, _, c => by simp [weightsN]; omega
  | x :: L, d, j + 1, h, c => by
    have ih := weights_set L (!d) j (by simpa using h) c
    have e : (d != decide ((j + 1) % 2 = 1)) = ((!d) != decide (j % 2 = 1)) := by
      rcases Nat.mod_two_eq_zero_or_one j with h | h
      · have : (j + 1) % 2 = 1 := by omega
        simp [h, this]
      · have : (j + 1) % 2 = 0 := by omega
        simp [h, this]
    simp only [List.set_cons_succ, weightsN, List.sum_cons, List.getElem_cons_succ]
    rw [e]
    omega
theorem weights_set_any (L : List UInt8) (d : Bool) (j : Nat) (h : j < L.length) (c : UInt8) : ∃ p : Bool, (weightsN d (L.set j c)).sum + weightN L[j] p = (weightsN d L).sum + weightN c p := ⟨_, weights_set L d j h c⟩
theorem isDig_set (l : List UInt8) (h : isDig l = true) (i : Nat) (c : UInt8) (hc : 48 ≤ c.toNat ∧ c.toNat ≤ 57) : isDig (l.set i c) = true := by
  unfold isDig at *
  rw [List.all_eq_true] at *
  intro x hx
  rcases List.mem_or_eq_of_mem_set hx with h2 | rfl
  · exact h x h2
  · simp; omega
/-- The digit turned by y. -/
def turnC (c : UInt8) (y : Nat) : Nat := 48 + (c.toNat - 48 + y) % 10
theorem turn_law (t : List UInt8) (ht : luhnN t = true) (i : Nat) (hi : i < t.length) (y : Nat) (hy : y < 10) : luhnN (t.set i (UInt8.ofNat (turnC t[i] y))) = decide (y = 0) := by
  unfold luhnN at ht
  rw [Bool.and_eq_true_iff] at ht
  obtain ⟨hn, hs⟩ := ht
  have hs := of_decide_eq_true hs
  have hd := isNum_dig hn
  have hg := isDig_get hd hi
  obtain ⟨c, hc⟩ : ∃ c, c = t[i] := ⟨_, rfl⟩
  rw [← hc] at hg ⊢
  have htc : 48 ≤ turnC c y ∧ turnC c y ≤ 57 := by unfold turnC; omega
  have hcn : (UInt8.ofNat (turnC c y)).toNat = turnC c y := by simp; omega
  have hd2 : isDig (t.set i (UInt8.ofNat (turnC c y))) = true := isDig_set t hd i _ (by rw [hcn]; exact htc)
  have hne : (t.set i (UInt8.ofNat (turnC c y))).isEmpty = false := by
    cases t with
    | nil => simp at hi
    | cons a l => cases i <;> rfl
  rw [luhnN, isNum, hd2, hne]
  have hj : t.length - 1 - i < t.reverse.length := by rw [List.length_reverse]; omega
  have hrev : (t.set i (UInt8.ofNat (turnC c y))).reverse = t.reverse.set (t.length - 1 - i) (UInt8.ofNat (turnC c y)) := by
    refine List.ext_getElem (by simp) fun k h1 h2 => ?_
    simp only [List.length_reverse, List.length_set] at h1 h2
    rw [List.getElem_reverse, List.getElem_set, List.getElem_set, List.getElem_reverse]
    simp only [List.length_set]
    by_cases h : i = t.length - 1 - k
    · rw [if_pos h, if_pos (by omega)]
    · rw [if_neg h, if_neg (by omega)]
  obtain ⟨p, hp⟩ := weights_set_any t.reverse false (t.length - 1 - i) hj (UInt8.ofNat (turnC c y))
  have hget : t.reverse[t.length - 1 - i] = c := by
    rw [List.getElem_reverse, hc]; congr 1; omega
  rw [hget, weightN_wgt, weightN_wgt, hcn] at hp
  have hx : turnC c y - 48 = (c.toNat - 48 + y) % 10 := by unfold turnC; omega
  rw [hx] at hp
  have hw := wgt_turn (c.toNat - 48) (by omega) y hy p
  have hs2 : (weightsN false t.reverse).sum % 10 = 0 := hs
  unfold luhnSum
  rw [hrev]
  simp only [Bool.not_false, Bool.and_self, Bool.true_and]
  rw [decide_eq_decide, ← hw]
  have h9 : wgt (c.toNat - 48) p ≤ 9 := by rw [← weightN_wgt]; exact weightN_le c (by omega) p
  omega
end
end Go.Proofs.YtdjlpmelmhhooaaGreatDoor
