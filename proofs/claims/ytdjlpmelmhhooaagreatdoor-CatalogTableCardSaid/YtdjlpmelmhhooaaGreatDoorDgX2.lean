/- Digits: plain dates, Atoi, small, Date. -/
import Derived.Test.YtdjlpmelmhhooaaGreatDoorDgB
import Derived.Lib.Atoi
import Derived.Shelf.Strconv.Atoi
import Derived.Shelf.Strconv.Itoa1
import Derived.Shelf.Strconv.Itoa2
import Derived.Test.YtdjlpmelmhhooaaGreatDoorProg
import Derived.Test.YtdjlpmelmhhooaaGreatDoorLibA
namespace Go.Proofs.YtdjlpmelmhhooaaGreatDoor
section
open Go

def valF (v : Nat) (l : List UInt8) : Nat := l.foldl (fun v c => v * 10 + (c.toNat - 48)) v
def datePart (l : List UInt8) (a n : Nat) : Nat := valF 0 ((l.drop a).take n)
def dateBad (l : List UInt8) : Bool := decide (datePart l 6 2 < 1) || (decide (daysN (datePart l 0 4 : Nat) (datePart l 4 2 : Nat) < datePart l 6 2) || (decide (23 < datePart l 8 2) || (decide (59 < datePart l 10 2) || decide (59 < datePart l 12 2))))
def dateN (l : List UInt8) : Nat := if l.length ≠ 14 ∨ isNum l = false then 4 else if dateBad l then 7 else 0
theorem decFrom_dig : ∀ (l : List UInt8) (a : Nat), isDig l = true → Lib.decFrom a l = some (valF a l)
  | [], a, _ => rfl
  | c :: l, a, h => by
    have h1 : isDig l = true := by
      unfold isDig at h ⊢; rw [List.all_cons] at h; exact (Bool.and_eq_true_iff.1 h).2
    have h2 := isDig_get h (i := 0) (by simp)
    simp only [List.getElem_cons_zero] at h2
    simp only [Lib.decFrom, Lib.digitVal, if_pos h2]
    exact decFrom_dig l _ h1
theorem atoi_dig (l : List UInt8) (h : isDig l = true) (hne : l ≠ []) : Lib.atoi l = some ((valF 0 l : Nat) : Int) := by
  cases l with
  | nil => exact absurd rfl hne
  | cons c l =>
    have h2 := isDig_get h (i := 0) (by simp)
    simp only [List.getElem_cons_zero] at h2
    have e1 : (c == 45) = false := by rw [beq_eq_false_iff_ne]; rintro rfl; simp at h2
    have e2 : (c == 43) = false := by rw [beq_eq_false_iff_ne]; rintro rfl; simp at h2
    simp only [Lib.atoi, e1, e2, Bool.false_eq_true, if_false, Lib.decNat, List.isEmpty_cons, decFrom_dig _ _ h, Option.map_some]
theorem isDig_part {l : List UInt8} (h : isDig l = true) (a n : Nat) : isDig ((l.drop a).take n) = true := by
  unfold isDig at *
  rw [List.all_eq_true] at *
  exact fun x hx => h x (List.mem_of_mem_drop (List.mem_of_mem_take hx))
theorem valF_lt {l : List UInt8} (h : isDig l = true) : valF 0 l < 10 ^ l.length := by
  have := Lib.decFrom_lt l 0 _ (decFrom_dig l 0 h)
  simpa using this
theorem datePart_lt {l : List UInt8} (h : isDig l = true) (a n : Nat) (hl : a + n ≤ l.length) : datePart l a n < 10 ^ n := by
  have := valF_lt (isDig_part h a n)
  rw [List.length_take, List.length_drop, Nat.min_eq_left (by omega)] at this
  exact this
/-- The cell of a month's days. -/
def monthN (k : Nat) : Nat := [31, 28, 31, 30, 31, 30, 31, 31, 30, 31, 30, 31].getD k 0
theorem days_month (y : Int) (m : Nat) (hm : m < 12) (h0 : 0 ≤ y) (h1 : y ≤ 9999) : daysN y ((m : Int) + 1) = monthN m + (if decide (m = 1) && leapN y then 1 else 0) := by
  have hb : ¬ (y < 0 ∨ 9999 < y) := by omega
  unfold daysN
  rw [if_neg hb]
  have : m = 0 ∨ m = 1 ∨ m = 2 ∨ m = 3 ∨ m = 4 ∨ m = 5 ∨ m = 6 ∨ m = 7 ∨ m = 8 ∨ m = 9 ∨ m = 10 ∨ m = 11 := by omega
  rcases this with rfl | rfl | rfl | rfl | rfl | rfl | rfl | rfl | rfl | rfl | rfl | rfl
  all_goals simp [monthN]
  cases leapN y <;> simp
theorem days_none (y m : Int) (h : y < 0 ∨ 9999 < y ∨ m < 1 ∨ 12 < m) : daysN y m = 0 := by
  unfold daysN
  by_cases hb : y < 0 ∨ 9999 < y
  · rw [if_pos hb]
  · rw [if_neg hb, if_neg (by omega), if_neg (by omega), if_neg (by omega)]
end
section
open Go Go.RowKit Go.Sort Go.Lib Go.Proofs Go.Shelf
def stcs_lays172_ren : Go.Shelf.Ren := ⟨fun | 172 => 132 | 244 => 153 | 245 => 154 | 247 => 161 | 279 => 162 | 280 => 163 | 281 => 164 | 282 => 165 | 287 => 175 | 316 => 176 | 171 => 178 | 205 => 177 | 321 => 190 | 322 => 191 | 243 => 192 | 246 => 203 | 283 => 171 | 284 => 172 | 285 => 173 | 286 => 174 | 129 => 186 | 317 => 185 | 318 => 187 | 319 => 188 | 320 => 189 | 337 => 201 | 338 => 202 | n => n, fun | 9 => 9 | 3 => 3 | 75 => 114 | 76 => 116 | 4 => 4 | 5 => 5 | 167 => 169 | 37 => 83 | 0 => 0 | 85 => 170 | 2 => 2 | 168 => 172 | 53 => 140 | 175 => 186 | 46 => 92 | 210 => 189 | 127 => 136 | 145 => 209 | 143 => 207 | 21 => 21 | 171 => 181 | 173 => 184 | 212 => 203 | 51 => 151 | 20 => 20 | 213 => 204 | 232 => 162 | 233 => 224 | 80 => 119 | n => n, fun | 15 => 3 | 16 => 4 | 17 => 5 | 18 => 6 | 19 => 7 | n => n⟩
theorem stcs_lays172 : Go.Proofs.Lays.n172 Tryz.prog stcs_lays172_ren := {
  mixed := by kernel_rfl
  f129 := Tryz.func186.trans (congrArg some (by kernel_rfl))
  f171 := Tryz.func178.trans (congrArg some (by kernel_rfl))
  f172 := Tryz.func132.trans (congrArg some (by kernel_rfl))
  f205 := Tryz.func177.trans (congrArg some (by kernel_rfl))
  f243 := Tryz.func192.trans (congrArg some (by kernel_rfl))
  f244 := Tryz.func153.trans (congrArg some (by kernel_rfl))
  f245 := Tryz.func154.trans (congrArg some (by kernel_rfl))
  f246 := Tryz.func203.trans (congrArg some (by kernel_rfl))
  f247 := Tryz.func161.trans (congrArg some (by kernel_rfl))
  f279 := Tryz.func162.trans (congrArg some (by kernel_rfl))
  f280 := Tryz.func163.trans (congrArg some (by kernel_rfl))
  f281 := Tryz.func164.trans (congrArg some (by kernel_rfl))
  f282 := Tryz.func165.trans (congrArg some (by kernel_rfl))
  f283 := Tryz.func171.trans (congrArg some (by kernel_rfl))
  f284 := Tryz.func172.trans (congrArg some (by kernel_rfl))
  f285 := Tryz.func173.trans (congrArg some (by kernel_rfl))
  f286 := Tryz.func174.trans (congrArg some (by kernel_rfl))
  f287 := Tryz.func175.trans (congrArg some (by kernel_rfl))
  f316 := Tryz.func176.trans (congrArg some (by kernel_rfl))
  f317 := Tryz.func185.trans (congrArg some (by kernel_rfl))
  f318 := Tryz.func187.trans (congrArg some (by kernel_rfl))
  f319 := Tryz.func188.trans (congrArg some (by kernel_rfl))
  f320 := Tryz.func189.trans (congrArg some (by kernel_rfl))
  f321 := Tryz.func190.trans (congrArg some (by kernel_rfl))
  f322 := Tryz.func191.trans (congrArg some (by kernel_rfl))
  f337 := Tryz.func201.trans (congrArg some (by kernel_rfl))
  f338 := Tryz.func202.trans (congrArg some (by kernel_rfl))
  t0 := Tryz.underlying0
  a0 := Tryz.isAgg0
  z0 := Tryz.sizeOf0
  v0 := Tryz.zeroValue0
  t2 := Tryz.underlying2
  a2 := Tryz.isAgg2
  z2 := Tryz.sizeOf2
  v2 := Tryz.zeroValue2
  t3 := Tryz.underlying3
  a3 := Tryz.isAgg3
  z3 := Tryz.sizeOf3
  v3 := Tryz.zeroValue3
  t4 := Tryz.underlying4
  a4 := Tryz.isAgg4
  z4 := Tryz.sizeOf4
  v4 := Tryz.zeroValue4
  t5 := Tryz.underlying5
  a5 := Tryz.isAgg5
  z5 := Tryz.sizeOf5
  v5 := Tryz.zeroValue5
  t9 := Tryz.underlying9
  a9 := Tryz.isAgg9
  z9 := Tryz.sizeOf9
  v9 := Tryz.zeroValue9
  t20 := Tryz.underlying20
  a20 := Tryz.isAgg20
  z20 := Tryz.sizeOf20
  v20 := Tryz.zeroValue20
  t21 := Tryz.underlying21
  a21 := Tryz.isAgg21
  z21 := Tryz.sizeOf21
  v21 := Tryz.zeroValue21
  t37 := Tryz.underlying83
  a37 := Tryz.isAgg83
  z37 := Tryz.sizeOf83
  v37 := Tryz.zeroValue83
  t46 := Tryz.underlying92
  a46 := Tryz.isAgg92
  z46 := Tryz.sizeOf92
  v46 := Tryz.zeroValue92
  t51 := Tryz.underlying151
  a51 := Tryz.isAgg151
  z51 := Tryz.sizeOf151
  v51 := Tryz.zeroValue151
  t53 := Tryz.underlying140
  a53 := Tryz.isAgg140
  z53 := Tryz.sizeOf140
  v53 := Tryz.zeroValue140
  t75 := Tryz.underlying114
  a75 := Tryz.isAgg114
  z75 := Tryz.sizeOf114
  v75 := Tryz.zeroValue114
  t76 := Tryz.underlying116
  a76 := Tryz.isAgg116
  z76 := Tryz.sizeOf116
  v76 := Tryz.zeroValue116
  t85 := Tryz.underlying170
  a85 := Tryz.isAgg170
  z85 := Tryz.sizeOf170
  v85 := Tryz.zeroValue170
  t127 := Tryz.underlying136
  a127 := Tryz.isAgg136
  z127 := Tryz.sizeOf136
  v127 := Tryz.zeroValue136
  t143 := Tryz.underlying207
  a143 := Tryz.isAgg207
  z143 := Tryz.sizeOf207
  v143 := Tryz.zeroValue207
  t145 := Tryz.underlying209
  a145 := Tryz.isAgg209
  z145 := Tryz.sizeOf209
  v145 := Tryz.zeroValue209
  t167 := Tryz.underlying169
  a167 := Tryz.isAgg169
  z167 := Tryz.sizeOf169
  v167 := Tryz.zeroValue169
  t168 := Tryz.underlying172
  a168 := Tryz.isAgg172
  z168 := Tryz.sizeOf172
  v168 := Tryz.zeroValue172
  t171 := Tryz.underlying181
  a171 := Tryz.isAgg181
  z171 := Tryz.sizeOf181
  v171 := Tryz.zeroValue181
  t173 := Tryz.underlying184
  a173 := Tryz.isAgg184
  z173 := Tryz.sizeOf184
  v173 := Tryz.zeroValue184
  t175 := Tryz.underlying186
  a175 := Tryz.isAgg186
  z175 := Tryz.sizeOf186
  v175 := Tryz.zeroValue186
  t210 := Tryz.underlying189
  a210 := Tryz.isAgg189
  z210 := Tryz.sizeOf189
  v210 := Tryz.zeroValue189
  t212 := Tryz.underlying203
  a212 := Tryz.isAgg203
  z212 := Tryz.sizeOf203
  v212 := Tryz.zeroValue203
  t213 := Tryz.underlying204
  a213 := Tryz.isAgg204
  z213 := Tryz.sizeOf204
  t232 := Tryz.underlying162
  a232 := Tryz.isAgg162
  z232 := Tryz.sizeOf162
  v232 := Tryz.zeroValue162
  t233 := Tryz.underlying224
  a233 := Tryz.isAgg224
  z233 := Tryz.sizeOf224
  v233 := Tryz.zeroValue224
  g15 := by kernel_rfl
  g16 := by kernel_rfl
  g17 := by kernel_rfl
  g18 := by kernel_rfl
  g19 := by kernel_rfl }
theorem stcs_strconv_Atoi (s : ByteArray) (n : Int) (hl : s.size ≤ 18) (h : Lib.atoi s.data.toList = some n) (w : World) :
    Calls Tryz.prog 132 #[.string s] w fun e w' => e = .returned (.tuple #[.int .i64 n, .nilIface]) ∧ ∃ t, w' = Lib.bytesWorld w 5 t := Any.strconv_Atoi stcs_lays172 s n hl h w
def stcs_lays283_ren : Go.Shelf.Ren := ⟨fun | 283 => 171 | n => n, fun | 3 => 3 | 9 => 9 | 4 => 4 | n => n, fun | n => n⟩
theorem stcs_lays283 : Go.Proofs.Lays.n283 Tryz.prog stcs_lays283_ren := {
  mixed := by kernel_rfl
  f283 := Tryz.func171.trans (congrArg some (by kernel_rfl))
  t3 := Tryz.underlying3
  a3 := Tryz.isAgg3
  z3 := Tryz.sizeOf3
  v3 := Tryz.zeroValue3
  t4 := Tryz.underlying4
  a4 := Tryz.isAgg4
  z4 := Tryz.sizeOf4
  v4 := Tryz.zeroValue4
  t9 := Tryz.underlying9
  a9 := Tryz.isAgg9
  z9 := Tryz.sizeOf9
  v9 := Tryz.zeroValue9 }
theorem stcs_internal_strconv_small (i : Nat) (h : i < 100) (w : World) :
    Calls Tryz.prog 171 #[.int .i64 i] w fun e w' => e = .returned (.string ⟨(Lib.decDigits i).toArray⟩) ∧ w' = w := Any.internal_strconv_small stcs_lays283 i h w
def stcs_laysM284_ren : Go.Shelf.Ren := ⟨fun | 284 => 172 | 129 => 186 | 317 => 185 | 318 => 187 | n => n, fun | 53 => 140 | 3 => 3 | 212 => 203 | 0 => 0 | 4 => 4 | 46 => 92 | 5 => 5 | 9 => 9 | n => n, fun | 17 => 5 | n => n⟩
theorem stcs_laysM284 : Go.Proofs.LaysM.n284 Tryz.prog stcs_laysM284_ren := {
  mixed := by kernel_rfl
  f129 := Tryz.func186.trans (congrArg some (by kernel_rfl))
  f284 := Tryz.func172.trans (congrArg some (by kernel_rfl))
  f317 := Tryz.func185.trans (congrArg some (by kernel_rfl))
  f318 := Tryz.func187.trans (congrArg some (by kernel_rfl))
  t0 := Tryz.underlying0
  a0 := Tryz.isAgg0
  z0 := Tryz.sizeOf0
  v0 := Tryz.zeroValue0
  t3 := Tryz.underlying3
  a3 := Tryz.isAgg3
  z3 := Tryz.sizeOf3
  v3 := Tryz.zeroValue3
  t4 := Tryz.underlying4
  a4 := Tryz.isAgg4
  z4 := Tryz.sizeOf4
  v4 := Tryz.zeroValue4
  t5 := Tryz.underlying5
  a5 := Tryz.isAgg5
  z5 := Tryz.sizeOf5
  v5 := Tryz.zeroValue5
  t9 := Tryz.underlying9
  a9 := Tryz.isAgg9
  z9 := Tryz.sizeOf9
  v9 := Tryz.zeroValue9
  t46 := Tryz.underlying92
  a46 := Tryz.isAgg92
  z46 := Tryz.sizeOf92
  v46 := Tryz.zeroValue92
  t53 := Tryz.underlying140
  a53 := Tryz.isAgg140
  z53 := Tryz.sizeOf140
  v53 := Tryz.zeroValue140
  t212 := Tryz.underlying203
  a212 := Tryz.isAgg203
  z212 := Tryz.sizeOf203
  v212 := Tryz.zeroValue203
  g17 := by kernel_rfl
  i0 := by kernel_rfl
  i3 := by kernel_rfl
  i4 := by kernel_rfl
  i5 := by kernel_rfl
  i9 := by kernel_rfl
  i46 := by kernel_rfl
  i53 := by kernel_rfl
  i212 := by kernel_rfl
  m17 := by kernel_rfl }
theorem stcs_internal_strconv_numDigits (u : Nat) (h1 : 1 ≤ u) (h2 : u < 18446744073709551616) (w : World) (htab : Lib.TabIs Tryz.prog w "internal/strconv.uint64pow10" .u64 Lib.pow10Tab) :
    Calls Tryz.prog 172 #[.int .u64 u] w fun e w' => e = .returned (.int .i64 (Lib.nDigits u)) ∧ w' = w := Any.internal_strconv_numDigits stcs_laysM284 u h1 h2 w htab
def stcs_lays285_ren : Go.Shelf.Ren := ⟨fun | 285 => 173 | n => n, fun | 37 => 83 | 53 => 140 | 3 => 3 | 4 => 4 | 51 => 151 | 9 => 9 | 5 => 5 | 0 => 0 | n => n, fun | n => n⟩
theorem stcs_lays285 : Go.Proofs.Lays.n285 Tryz.prog stcs_lays285_ren := {
  mixed := by kernel_rfl
  f285 := Tryz.func173.trans (congrArg some (by kernel_rfl))
  t0 := Tryz.underlying0
  a0 := Tryz.isAgg0
  z0 := Tryz.sizeOf0
  v0 := Tryz.zeroValue0
  t3 := Tryz.underlying3
  a3 := Tryz.isAgg3
  z3 := Tryz.sizeOf3
  v3 := Tryz.zeroValue3
  t4 := Tryz.underlying4
  a4 := Tryz.isAgg4
  z4 := Tryz.sizeOf4
  v4 := Tryz.zeroValue4
  t5 := Tryz.underlying5
  a5 := Tryz.isAgg5
  z5 := Tryz.sizeOf5
  v5 := Tryz.zeroValue5
  t9 := Tryz.underlying9
  a9 := Tryz.isAgg9
  z9 := Tryz.sizeOf9
  v9 := Tryz.zeroValue9
  t37 := Tryz.underlying83
  a37 := Tryz.isAgg83
  z37 := Tryz.sizeOf83
  v37 := Tryz.zeroValue83
  t51 := Tryz.underlying151
  a51 := Tryz.isAgg151
  z51 := Tryz.sizeOf151
  v51 := Tryz.zeroValue151
  t53 := Tryz.underlying140
  a53 := Tryz.isAgg140
  z53 := Tryz.sizeOf140
  v53 := Tryz.zeroValue140 }
theorem stcs_internal_strconv_formatBase10 (blk off cap : Nat) (u : Nat) (d : Array UInt8) (w : World) (hH : Holds (fun (b : UInt8) => Value.int .u8 (b.toNat : Int)) w blk off d) (hu : u < 10 ^ d.size) (hu64 : u < 18446744073709551616) (hsz : d.size < 4611686018427387904) :
    Calls Tryz.prog 173 #[.slice (some ⟨blk, off, none⟩) d.size cap, .int .u64 u] w fun e w' =>
      e = .returned (.tuple #[]) ∧ ∃ (n v' : Nat) (dk : Array UInt8), w' = (putRow (fun (b : UInt8) => Value.int .u8 (b.toNat : Int)) w blk off dk).drewN n ∧ FmtInv d.size u 0 v' dk := Any.internal_strconv_formatBase10 stcs_lays285 blk off cap u d w hH hu hu64 hsz
end
section
open Go Go.RowKit
set_option linter.unusedSimpArgs false

set_option maxRecDepth 100000 in
theorem dsmall_any (s : ByteArray) (n : Nat) (hs : s.size ≤ 18) (hd : isDig s.data.toList = true) (hne : 1 ≤ s.size) (hn : n = valF 0 s.data.toList) (w : World) :
    Calls Tryz.prog 102 #[.string s] w fun e w' => e = .returned (.int .i64 (n : Nat)) ∧ Below w.heap.size w w' := by
  have hl : s.data.toList.length = s.size := by simp
  have hA : Lib.atoi s.data.toList = some ((n : Nat) : Int) := by
    rw [hn]; exact atoi_dig _ hd (by intro h; rw [h] at hl; simp at hl; omega)
  have cA := fun w => stcs_strconv_Atoi s (n : Int) hs hA w
  replace cA := hid cA
  clear hA hn hd hl
  go_enter Tryz.func102, Tryz.ntmps102
  go_wp2_with (go_at_call 132; refine (cA.out _).mono ?_; rintro e w1 ⟨rfl, t, rfl⟩)
  go_ret
  exact ⟨rfl, rfl, rfl, rfl, by rw [Lib.bytesWorld_size]; omega, fun k hk => Lib.bytesWorld_at_old w 5 t k hk⟩

theorem part_list (s : ByteArray) (a b : Nat) : (s.extract a b).data.toList = (s.data.toList.drop a).take (b - a) := by rw [Lib.extract_data]
theorem small_part (s : ByteArray) (hs : s.size = 14) (hd : isDig s.data.toList = true) (a b n : Nat) (hab : a < b) (hb : b ≤ 14) (hn : n = datePart s.data.toList a (b - a)) (w : World) :
    Calls Tryz.prog 102 #[.string (s.extract a b)] w fun e w' => e = .returned (.int .i64 (n : Nat)) ∧ Below w.heap.size w w' := by
  have hz : (s.extract a b).size = b - a := by rw [ByteArray.size_extract]; omega
  exact dsmall_any (s.extract a b) n (by omega) (by rw [part_list]; exact isDig_part hd _ _) (by omega) (by rw [part_list, hn]; rfl) w

set_option maxRecDepth 100000 in
set_option maxHeartbeats 8000000 in
theorem date_any (s : ByteArray) (hs : s.size ≤ 140737488351232) (w : World) : Calls Tryz.prog 64 #[.string s] w fun e w' => e = .returned (.int .i64 (dateN s.data.toList : Nat)) ∧ Below w.heap.size w w' := by
  have cI := fun w => is_any s hs w
  have hlen : s.data.toList.length = s.size := by simp
  by_cases h14 : s.size = 14
  · cases hnum : isNum s.data.toList with
    | false =>
      simp only [hnum] at cI
      have hD : dateN s.data.toList = 4 := by rw [dateN, if_pos (.inr hnum)]
      replace cI := hid cI
      replace hD := hid hD
      have e1 : ((s.size : Int) != 14) = false := by rw [h14]; rfl
      clear hnum h14
      go_enter Tryz.func64, Tryz.ntmps64
      go_wp2_with (go_at_call 60; refine (cI.out _).mono ?_; rintro e w1 ⟨rfl, hB1⟩)
      go_ret
      exact ⟨by rw [hD.out]; rfl, hB1⟩
    | true =>
      simp only [hnum] at cI
      have hd := isNum_dig hnum
      have hD : dateN s.data.toList = if dateBad s.data.toList then 7 else 0 := by rw [dateN, if_neg (by rw [hlen, h14, hnum]; simp)]
      obtain ⟨Y, hY⟩ : ∃ n, n = datePart s.data.toList 0 4 := ⟨_, rfl⟩
      obtain ⟨M, hM⟩ : ∃ n, n = datePart s.data.toList 4 2 := ⟨_, rfl⟩
      obtain ⟨D, hDd⟩ : ∃ n, n = datePart s.data.toList 6 2 := ⟨_, rfl⟩
      obtain ⟨H, hH⟩ : ∃ n, n = datePart s.data.toList 8 2 := ⟨_, rfl⟩
      obtain ⟨I, hI⟩ : ∃ n, n = datePart s.data.toList 10 2 := ⟨_, rfl⟩
      obtain ⟨S, hS⟩ : ∃ n, n = datePart s.data.toList 12 2 := ⟨_, rfl⟩
      have c1 := fun w => small_part s h14 hd 0 4 Y (by omega) (by omega) hY w
      have c2 := fun w => small_part s h14 hd 4 6 M (by omega) (by omega) hM w
      have c3 := fun w => small_part s h14 hd 6 8 D (by omega) (by omega) hDd w
      have c4 := fun w => small_part s h14 hd 8 10 H (by omega) (by omega) hH w
      have c5 := fun w => small_part s h14 hd 10 12 I (by omega) (by omega) hI w
      have c6 := fun w => small_part s h14 hd 12 14 S (by omega) (by omega) hS w
      have hbad : dateBad s.data.toList = (decide (D < 1) || (decide (daysN (Y : Nat) (M : Nat) < D) || (decide (23 < H) || (decide (59 < I) || decide (59 < S))))) := by rw [dateBad, ← hY, ← hM, ← hDd, ← hH, ← hI, ← hS]
      obtain ⟨N, hN⟩ : ∃ n, n = daysN (Y : Nat) (M : Nat) := ⟨_, rfl⟩
      have cD := fun w => days_any (Y : Nat) (M : Nat) w
      rw [← hN] at hbad
      simp only [← hN] at cD
      rw [hbad] at hD
      clear hnum hd hY hM hDd hH hI hS hN hbad hlen
      replace cI := hid cI
      replace c1 := hid c1
      replace c2 := hid c2
      replace c3 := hid c3
      replace c4 := hid c4
      replace c5 := hid c5
      replace c6 := hid c6
      replace cD := hid cD
      obtain ⟨r, hr⟩ : ∃ r, r = dateN s.data.toList := ⟨_, rfl⟩
      rw [← hr] at hD ⊢
      clear hr
      have e1 : ((s.size : Int) != 14) = false := by rw [h14]; rfl
      go_enter Tryz.func64, Tryz.ntmps64
      go_wp2_with (first
        | (go_at_call 60; refine (cI.out _).mono ?_; rintro e w1 ⟨rfl, hB1⟩)
        | (go_at_call 102; with_reducible refine (c3.out _).mono ?_; rintro e w2 ⟨rfl, hB2⟩))
      by_cases a1 : D < 1
      case' pos =>
        have t1 : decide ((D : Int) < 1) = true := decide_eq_true (by omega)
        have t1' : (D : Int) < 1 := by omega
        have hD : r = 7 := by rw [hD]; simp [a1]
      case' neg =>
        have t1 : decide ((D : Int) < 1) = false := decide_eq_false (by omega)
        have t1' : ¬ (D : Int) < 1 := by omega
        by_cases a2 : N < D
        case' pos =>
          have t2 : decide ((N : Int) < (D : Int)) = true := decide_eq_true (by omega)
          have t2' : (N : Int) < (D : Int) := by omega
          have hD : r = 7 := by rw [hD]; simp [a2]
        case' neg =>
          have t2 : decide ((N : Int) < (D : Int)) = false := decide_eq_false (by omega)
          have t2' : ¬ (N : Int) < (D : Int) := by omega
          by_cases a3 : 23 < H
          case' pos =>
            have t3 : decide ((23 : Int) < (H : Int)) = true := decide_eq_true (by omega)
            have t3' : (23 : Int) < (H : Int) := by omega
            have hD : r = 7 := by rw [hD]; simp [a3]
          case' neg =>
            have t3 : decide ((23 : Int) < (H : Int)) = false := decide_eq_false (by omega)
            have t3' : ¬ (23 : Int) < (H : Int) := by omega
            by_cases a4 : 59 < I
            case' pos =>
              have t4 : decide ((59 : Int) < (I : Int)) = true := decide_eq_true (by omega)
              have t4' : (59 : Int) < (I : Int) := by omega
              have hD : r = 7 := by rw [hD]; simp [a4]
            case' neg =>
              have t4 : decide ((59 : Int) < (I : Int)) = false := decide_eq_false (by omega)
              have t4' : ¬ (59 : Int) < (I : Int) := by omega
              by_cases a5 : 59 < S
              case' pos =>
                have t5 : decide ((59 : Int) < (S : Int)) = true := decide_eq_true (by omega)
                have t5' : (59 : Int) < (S : Int) := by omega
                have hD : r = 7 := by rw [hD]; simp [a5]
              case' neg =>
                have t5 : decide ((59 : Int) < (S : Int)) = false := decide_eq_false (by omega)
                have t5' : ¬ (59 : Int) < (S : Int) := by omega
                have hD : r = 0 := by rw [hD]; simp [a1, a2, a3, a4, a5]
      all_goals
        replace hD := hid hD
        refine wp_region_sub (by kernel_rfl) (by kernel_rfl) ?_
        repeat (go_big_quiet_step (first
          | (go_at_call 102; with_reducible refine Sub.call _ (c1.out _))
          | (go_at_call 102; with_reducible refine Sub.call _ (c2.out _))
          | (go_at_call 102; with_reducible refine Sub.call _ (c4.out _))
          | (go_at_call 102; with_reducible refine Sub.call _ (c5.out _))
          | (go_at_call 102; with_reducible refine Sub.call _ (c6.out _))
          | (go_at_call 103; refine Sub.same _ (cD.out _))))
        refine wpQuiet_nil ?_
        intro q
        go_wp2
        go_ret
        exact ⟨by first | rfl | (rw [hD.out]; rfl), below_cat q.h (below_cat hB2 hB1)⟩
  · have hD : dateN s.data.toList = 4 := by rw [dateN, if_pos (.inl (by rw [hlen]; exact h14))]
    replace hD := hid hD
    have e1 : ((s.size : Int) != 14) = true := by rw [bne_iff_ne]; omega
    go_enter Tryz.func64, Tryz.ntmps64
    go_wp2
    go_ret
    exact ⟨by rw [hD.out]; rfl, Below.refl _ _⟩
end
end Go.Proofs.YtdjlpmelmhhooaaGreatDoor
