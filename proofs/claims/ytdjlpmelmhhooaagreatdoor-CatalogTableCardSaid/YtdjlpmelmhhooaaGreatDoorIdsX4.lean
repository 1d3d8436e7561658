/- Ids: Parse; the document's Parse, Text. -/
import Derived.Test.YtdjlpmelmhhooaaGreatDoorIdsY
import Derived.Test.YtdjlpmelmhhooaaGreatDoorIdX
import Derived.Test.YtdjlpmelmhhooaaGreatDoorShfY
import Derived.Test.YtdjlpmelmhhooaaGreatDoorBas9
import Derived.Lib.BytesEntry
import Derived.Test.YtdjlpmelmhhooaaGreatDoorBasA
import Derived.Test.YtdjlpmelmhhooaaGreatDoorWkX
import Derived.Test.YtdjlpmelmhhooaaGreatDoorBasX3
namespace Go.Proofs.YtdjlpmelmhhooaaGreatDoor
section
open Go Go.RowKit
set_option linter.unusedSimpArgs false
set_option linter.unusedVariables false

/-- The library's variable of the greatest length holds some number. -/
def MaxVar (w : World) : Prop := ∃ m : Int, w.cell? ⟨0, 0, none⟩ = some (.int .i64 m)
theorem MaxVar.lt {w : World} (h : MaxVar w) : 0 < w.heap.size := by
  obtain ⟨m, hm⟩ := h
  rcases Nat.lt_or_ge 0 w.heap.size with h | h
  · exact h
  · simp [World.cell?, Array.getElem?_eq_none h] at hm
theorem MaxVar.below {w w' : World} (h : MaxVar w) (hb : Below w.heap.size w w') : MaxVar w' := by
  obtain ⟨m, hm⟩ := h
  exact ⟨m, (hb.cell (p := ⟨0, 0, none⟩) (MaxVar.lt ⟨m, hm⟩)).trans hm⟩
theorem MaxVar.alloc {w : World} (h : MaxVar w) (o : Obj) : MaxVar (w.alloc o) := h.below (below_al (Below.refl _ _) o)
theorem bar_any (s : ByteArray) (hs : s.size ≤ 100000) (w : World) (hM : MaxVar w) :
    Calls Tryz.prog 49 #[.string s, .string ⟨#[45]⟩, .string ⟨#[]⟩] w fun e w' => e = .returned (.string ⟨(barI s.data.toList).toArray⟩) ∧ Below w.heap.size w w' := by
  obtain ⟨m, hm⟩ := hM
  refine (rplS_strings_ReplaceAll s ⟨#[45]⟩ ⟨#[]⟩ m w (by omega) hm (by decide) (by show s.size + _ * 0 ≤ _; omega)).mono ?_
  rintro e w' ⟨rfl, hB⟩
  refine ⟨?_, hB⟩
  show Ending.returned (.string ⟨(Lib.replaceAll s.data.toList [45] []).toArray⟩) = _
  rw [replaceAll_one]
  rfl

set_option maxRecDepth 100000 in
set_option maxHeartbeats 4000000 in
theorem parse_bad (s R : ByteArray) (d : ByteArray) (er : Int) (hbad : er = 4 ∨ er = 0 ∧ d.size ≠ 16)
    (LR : ∀ w, MaxVar w → Calls Tryz.prog 49 #[.string s, .string ⟨#[45]⟩, .string ⟨#[]⟩] w fun e w' => e = .returned (.string R) ∧ Below w.heap.size w w')
    (LD : ∀ w, Calls Tryz.prog 48 #[.agg #[.string hexL, .int .i64 4, .bool false], .string R] w fun e w' => e = .returned (.tuple #[.string d, .int .i64 er]) ∧ Below w.heap.size w w') (w : World) (hM : MaxVar w) :
    Calls Tryz.prog 13 #[.string s] w fun e w' => e = .returned (.tuple #[.agg (idA (List.replicate 16 0)), .int .i64 4]) ∧ Below w.heap.size w w' := by
  have LH0 := hex_any
  unfold alpha at LH0
  obtain ⟨H, hH⟩ : ∃ H, H = hexL := ⟨_, rfl⟩
  rw [← hH] at LD LH0
  have LH := hid LH0
  have hM0 := hid (fun o => hM.alloc o)
  replace LD := hid LD
  replace LR := hid LR
  clear hM LH0 hH
  rcases hbad with rfl | ⟨rfl, hd⟩
  case' inl => skip
  case' inr =>
    have hd1 : ((d.size : Int) != 16) = true := by rw [bne_iff_ne]; omega
    clear hd
  all_goals
    go_enter Tryz.func13, Tryz.ntmps13
    go_wp2_with (first
      | (go_at_call 45; with_reducible refine (LH.out _).mono ?_; rintro e w1 ⟨rfl, hB1⟩)
      | (go_at_call 49; with_reducible refine (LR.out _ ((hM0.out _).below hB1)).mono ?_; rintro e w2 ⟨rfl, hB2⟩)
      | (go_at_call 48; with_reducible refine (LD.out _).mono ?_; rintro e w3 ⟨rfl, hB3⟩
         have hb := below_cat hB3 (below_cat hB2 hB1)
         have b3 := hid (below_cat hb (below_al (Below.refl w.heap.size w) _))
         have r3 := hid ((RowAt.new w (idA (List.replicate 16 0)) 23).below hb (by simp))
         clear hB1 hB2 hB3 hb LH LR LD hM0)
      | (with_reducible refine at_op none (.store 23 (.tmp 2) (.tmp 21)) ?_
         refine wpList_store_row (o := ⟨none, .store _ (.tmp 2) (.tmp 21), _, _, _, _⟩) rfl 23 (.tmp 2) (.tmp 21) rfl w.heap.size (idA (List.replicate 16 0)) rfl rfl 23 _ r3.out (by rw [info16, idA_size]) rfl (idA_one _) ?_))
    exact bodyPost_ret (results_row_tmpI rfl _ _ w.heap.size 23 _ (0, 0) _ rfl (r3.out.setRow _) Tryz.underlying23 rfl (by rw [info16, idA_size])) rfl ⟨rfl, below_setRow b3.out (Nat.le_refl _) _⟩

set_option maxRecDepth 100000 in
set_option maxHeartbeats 4000000 in
theorem parse_good (s R TS : ByteArray) (l : List UInt8) (hl : l.length = 16) (b : Bool) (hq : (TS.toList == s.toList) = b)
    (LR : ∀ w, MaxVar w → Calls Tryz.prog 49 #[.string s, .string ⟨#[45]⟩, .string ⟨#[]⟩] w fun e w' => e = .returned (.string R) ∧ Below w.heap.size w w')
    (LD : ∀ w, Calls Tryz.prog 48 #[.agg #[.string hexL, .int .i64 4, .bool false], .string R] w fun e w' => e = .returned (.tuple #[.string (idS l), .int .i64 0]) ∧ Below w.heap.size w w')
    (LT : ∀ w, Calls Tryz.prog 12 #[.agg (idA l)] w fun e w' => e = .returned (.string TS) ∧ Below w.heap.size w w') (w : World) (hM : MaxVar w) :
    Calls Tryz.prog 13 #[.string s] w fun e w' => e = .returned (if b then .tuple #[.agg (idA l), .int .i64 0] else .tuple #[.agg (idA (List.replicate 16 0)), .int .i64 4]) ∧ Below w.heap.size w w' := by
  have LH0 := hex_any
  unfold alpha at LH0
  obtain ⟨H, hH⟩ : ∃ H, H = hexL := ⟨_, rfl⟩
  rw [← hH] at LD LH0
  have LH := hid LH0
  have hM0 := hid (fun o => hM.alloc o)
  have hd : (((idS l).size : Int) != 16) = false := by rw [idS_size, hl]; rfl
  have hs16 : (idS l).size = 16 := by rw [idS_size, hl]
  have hsl : (idS l).data.toList = l := by simp [idS]
  obtain ⟨gF, cF, F, hF⟩ := bytesF (P := Tryz.prog) 9 83 5 (idS l) Tryz.underlying9 Tryz.underlying83 Tryz.underlying5 (by rw [hs16]; decide)
  rw [hsl, hs16] at hF
  have hF1 := fun W => (hF W).1
  obtain ⟨d, hdd⟩ : ∃ s, s = idS l := ⟨_, rfl⟩
  rw [← hdd] at hd hF1 LD
  have hR := hid (fun W => range_bytes (hF W).2.1 rfl hl)
  have hB := hid (fun W => (hF W).2.2.1)
  obtain ⟨A, hA⟩ : ∃ A, A = idA l := ⟨_, rfl⟩
  have hAs : (Tryz.prog.info? 23).map (·.size) = some A.toList.length := by rw [info16, hA, Array.length_toList, idA_size]
  have hAone : A.all (·.oneCell') = true := by rw [hA]; exact idA_one l
  have hAsz : A.size = 16 := by rw [hA, idA_size]
  have hAi : (Tryz.prog.info? 23).map (·.size) = some A.size := by rw [info16, hAsz]
  rw [← hA] at hR LT ⊢
  replace LD := hid LD
  replace LR := hid LR
  replace LT := hid LT
  replace hAs := hid hAs
  replace hAone := hid hAone
  replace hAsz := hid hAsz
  replace hAi := hid hAi
  have ha := arr16
  clear hM LH0 hH hF hs16 hsl hdd hA hl
  cases b
  all_goals
    go_enter Tryz.func13, Tryz.ntmps13
    go_wp2_with (first
      | (go_at_call 45; with_reducible refine (LH.out _).mono ?_; rintro e w1 ⟨rfl, hB1⟩)
      | (go_at_call 49; with_reducible refine (LR.out _ ((hM0.out _).below hB1)).mono ?_; rintro e w2 ⟨rfl, hB2⟩)
      | (go_at_call 48; with_reducible refine (LD.out _).mono ?_; rintro e w3 ⟨rfl, hB3⟩
         have hb := below_cat hB3 (below_cat hB2 hB1)
         have b3 := hid (below_cat hb (below_al (Below.refl w.heap.size w) _))
         have r3 := hid ((RowAt.new w (idA (List.replicate 16 0)) 23).below hb (by simp))
         clear hB1 hB2 hB3 hb LH LR LD hM0)
      | (with_reducible refine at_op (some 25) (.load 23 (.tmp 24)) ?_
         refine wpList_load_mid (op := ⟨some 25, _, _, _, _, _⟩) rfl 23 (.tmp 24) rfl (gF _) 0 rfl A.toList _ (hR.out _) Tryz.underlying23 rfl hAs.out ?_
         have b1 := below_cat (hB.out w3) b3.out
         have r1 := r3.out.below (hB.out w3) r3.out.lt
         have s1 : w.heap.size < (F w3).heap.size := r1.lt
         generalize hX : F w3 = X
         rw [hX] at b1 r1 s1
         clear hX hR hB hF1 b3 r3
         replace b1 := hid b1
         replace r1 := hid r1)
      | (with_reducible refine at_op none (.store 23 (.tmp 6) (.tmp 25)) ?_
         refine wpList_store_row (o := ⟨none, .store _ (.tmp 6) (.tmp 25), _, _, _, _⟩) rfl 23 (.tmp 6) (.tmp 25) rfl X.heap.size A rfl rfl 23 _ (RowAt.new X _ _) hAi.out (by rw [hAsz.out]; rfl) hAone.out ?_
         generalize hY : World.setRow _ _ _ = Y
         have r2 : RowAt Y X.heap.size 23 A := by rw [← hY]; exact (RowAt.new X _ _).setRow A
         have r4 : RowAt Y w.heap.size 23 (idA (List.replicate 16 0)) := by rw [← hY]; exact (r1.out.alloc _).setRowOther _ _ (by omega)
         have b2 : Below w.heap.size w Y := by rw [← hY]; exact below_setRow (below_al b1.out _) (by omega) _
         generalize X.heap.size = g at r2 s1 ⊢
         replace r2 := hid r2
         replace r4 := hid r4
         replace b2 := hid b2
         clear hY r1 b1)
      | (with_reducible refine at_op (some 26) (.load 23 (.tmp 6)) ?_
         refine wpList_load_row (o := ⟨some 26, _, _, _, _, _⟩) rfl 23 (.tmp 6) rfl g rfl 23 _ (0, 0) _ r2.out Tryz.underlying23 rfl hAi.out ?_)
      | (go_at_call 12; with_reducible refine (LT.out _).mono ?_; rintro e w5 ⟨rfl, hB5⟩
         have b5 := hid (below_cat hB5 b2.out)
         have r5 := hid (r2.out.below hB5 r2.out.lt)
         have r6 := hid (r4.out.below hB5 r4.out.lt)
         clear hB5 b2 r2 r4)
      | (with_reducible refine at_op none (.store 23 (.tmp 2) (.tmp 30)) ?_
         refine wpList_store_row (o := ⟨none, .store _ (.tmp 2) (.tmp 30), _, _, _, _⟩) rfl 23 (.tmp 2) (.tmp 30) rfl w.heap.size (idA (List.replicate 16 0)) rfl rfl 23 _ r6.out (by rw [info16, idA_size]) rfl (idA_one _) ?_)
      | (with_reducible refine at_op (some 31) (.load 23 (.tmp 6)) ?_
         refine wpList_load_row (o := ⟨some 31, _, _, _, _, _⟩) rfl 23 (.tmp 6) rfl g rfl 23 _ (0, 0) _ r5.out Tryz.underlying23 rfl hAi.out ?_)
      | (with_reducible refine at_op none (.store 23 (.tmp 2) (.tmp 31)) ?_
         refine wpList_store_row (o := ⟨none, .store _ (.tmp 2) (.tmp 31), _, _, _, _⟩) rfl 23 (.tmp 2) (.tmp 31) rfl w.heap.size A rfl rfl 23 _ r6.out hAi.out (by rw [hAsz.out, idA_size]) hAone.out ?_))
  · exact bodyPost_ret (results_row_tmpI rfl _ _ w.heap.size 23 _ (0, 0) _ rfl (r6.out.setRow _) Tryz.underlying23 rfl (by rw [info16, idA_size])) rfl ⟨rfl, below_setRow b5.out (Nat.le_refl _) _⟩
  · exact bodyPost_ret (results_row_tmpI rfl _ _ w.heap.size 23 _ (0, 0) _ rfl (r6.out.setRow _) Tryz.underlying23 rfl hAi.out) rfl ⟨rfl, below_setRow b5.out (Nat.le_refl _) _⟩

/-- Parse, of a text that is one. -/
theorem parse_yes (s : ByteArray) (l : List UInt8) (hl : l.length = 16) (hs : s.data.toList = textI l) (w : World) (hM : MaxVar w) :
    Calls Tryz.prog 13 #[.string s] w fun e w' => e = .returned (.tuple #[.agg (idA l), .int .i64 0]) ∧ Below w.heap.size w w' := by
  have hsz : s.size = 36 := by rw [← textI_len l hl, ← hs]; simp
  have hd : decP hexL 4 false (barI s.data.toList) = some l := by rw [decP_hex, hs, barI_text l hl]
  have hc : hexE l = barI s.data.toList := by rw [hs, barI_text l hl]
  refine (parse_good s _ ⟨(textI l).toArray⟩ l hl true ?_ (fun w h => bar_any s (by omega) w h) (fun w => ?_) (fun w => callsIn_wide.1 (idText_in l hl w)) w hM).mono fun e w' h => h
  · rw [ByteArray.toList_eq, ByteArray.toList_eq, hs]; simp
  · have := decode_any hexL 4 false good_hex ⟨(barI s.data.toList).toArray⟩ (by show (barI s.data.toList).toArray.size ≤ _; rw [List.size_toArray, ← hc, hexE_len, hl]; decide) w
    unfold decV at this
    rw [show (⟨(barI s.data.toList).toArray⟩ : ByteArray).data.toList = barI s.data.toList by simp, hd] at this
    exact this
/-- Parse, of a text that is none. -/
theorem parse_no (s : ByteArray) (hsz : s.size ≤ 10000) (hs : ∀ l : List UInt8, l.length = 16 → s.data.toList ≠ textI l) (w : World) (hM : MaxVar w) :
    Calls Tryz.prog 13 #[.string s] w fun e w' => e = .returned (.tuple #[.agg (idA (List.replicate 16 0)), .int .i64 4]) ∧ Below w.heap.size w w' := by
  have hlen : (barI s.data.toList).length ≤ 10000 := Nat.le_trans (List.length_filter_le _ _) (by simpa using hsz)
  have hD := fun w => decode_any hexL 4 false good_hex ⟨(barI s.data.toList).toArray⟩ (by show (barI s.data.toList).toArray.size ≤ _; rw [List.size_toArray]; exact hlen) w
  unfold decV at hD
  rw [show (⟨(barI s.data.toList).toArray⟩ : ByteArray).data.toList = barI s.data.toList by simp] at hD
  cases h : decP hexL 4 false (barI s.data.toList) with
  | none =>
    rw [h] at hD
    exact parse_bad s _ _ 4 (.inl rfl) (fun w h => bar_any s (by omega) w h) hD w hM
  | some o =>
    rw [h] at hD
    by_cases ho : o.length = 16
    · refine (parse_good s _ ⟨(textI o).toArray⟩ o ho false ?_ (fun w h => bar_any s (by omega) w h) hD (fun w => callsIn_wide.1 (idText_in o ho w)) w hM).mono fun e w' h => h
      rw [ByteArray.toList_eq, ByteArray.toList_eq, beq_eq_false_iff_ne]
      have := hs o ho
      simp only
      exact fun e => this e.symm
    · exact parse_bad s _ ⟨o.toArray⟩ 0 (.inr ⟨rfl, by show o.toArray.size ≠ 16; rw [List.size_toArray]; exact ho⟩) (fun w h => bar_any s (by omega) w h) hD w hM
end
section
open Go Go.RowKit
set_option linter.unusedSimpArgs false
set_option linter.unusedVariables false

def cutS (s : ByteArray) : ByteArray := s.extract 0 8 ++ s.extract 9 13 ++ s.extract 14 18 ++ s.extract 19 23 ++ s.extract 24 s.size
theorem cutS_list (s : ByteArray) : (cutS s).data.toList = cutI s.data.toList := by
  have e : ∀ a b : Nat, (s.extract a b).data.toList = (s.data.toList.drop a).take (b - a) := fun a b => by
    rw [ByteArray.data_extract]; simp [Array.toList_extract, List.extract]
  unfold cutS cutI
  simp only [ByteArray.data_append, Array.toList_append, e, List.append_assoc]
  have : s.size = s.data.toList.length := by simp
  rw [this]
  simp only [List.drop_zero, Nat.sub_zero, Nat.reduceSub]
  rw [List.take_of_length_le (l := s.data.toList.drop 24) (by simp)]
theorem cutS_size (s : ByteArray) (h : s.size ≤ 36) : (cutS s).size ≤ 36 := by
  have : (cutS s).size = (cutS s).data.toList.length := by simp
  rw [this, cutS_list]
  simp [cutI]; omega

set_option maxRecDepth 100000 in
set_option maxHeartbeats 4000000 in
theorem refParse_signs (s : ByteArray) (h : signsI s.data.toList) (d : ByteArray) (ok : Bool) (A : Array Value)
    (hA : ok = true → (Tryz.prog.info? 23).map (·.size) = some A.size ∧ A.all (·.oneCell') = true ∧ ∀ w, Calls Tryz.prog 51 #[.string d] w fun e w' => e = .returned (.agg A) ∧ Below w.heap.size w w')
    (hN : ok = false → A = idA (List.replicate 16 0))
    (LD : ∀ w, Calls Tryz.prog 50 #[.int .i64 0, .string (cutS s)] w fun e w' => e = .returned (.tuple #[.string d, .bool ok]) ∧ Below w.heap.size w w') (w : World) :
    Calls Tryz.prog 14 #[.string s] w fun e w' => e = .returned (.tuple #[.agg A, .bool ok]) ∧ Below w.heap.size w w' := by
  obtain ⟨h0, h8, h13, h18, h23⟩ := h
  have h36 : s.size = 36 := by simpa using h0
  have hget : ∀ k (h : k < s.size), s.data.toList[k]? = some 45 → (s[k]).toNat = 45 := fun k h hk => by
    rw [Array.getElem?_toList, Array.getElem?_eq_getElem (show k < s.data.size from h)] at hk
    show (s.data[k]'h).toNat = 45
    rw [Option.some.inj hk]; rfl
  have k8 : 8 < s.size := by omega
  have k13 : 13 < s.size := by omega
  have k18 : 18 < s.size := by omega
  have k23 : 23 < s.size := by omega
  have e8 := hget 8 k8 h8
  have e13 := hget 13 k13 h13
  have e18 := hget 18 k18 h18
  have e23 := hget 23 k23 h23
  have hle : s.size ≤ 36 := by omega
  have z1 : ((s.size : Int) != 36) = false := by rw [h36]; rfl
  unfold cutS at LD
  replace LD := hid LD
  replace hA := hid hA
  replace hN := hid hN
  clear h8 h13 h18 h23 hget h0
  replace h36 := hid h36
  go_enter Tryz.func14, Tryz.ntmps14
  go_wp2
  generalize hW : World.alloc w _ = W
  have r0 : RowAt W w.heap.size 23 (idA (List.replicate 16 0)) := by rw [← hW]; exact RowAt.new w _ _
  have b0 : Below w.heap.size w W := by rw [← hW]; exact below_al (Below.refl _ _) _
  clear hW
  refine wp_region_sub (by kernel_rfl) (by kernel_rfl) ?_
  repeat (go_big_quiet_step ((go_at_call 50; with_reducible refine Sub.call _ (LD.out _))))
  refine wpQuiet_nil ?_
  intro q
  have r1 := r0.below q.h r0.lt
  have b1 := below_cat q.h b0
  generalize q.x = X at r1 b1 ⊢
  replace r1 := hid r1
  replace b1 := hid b1
  clear r0 b0 q LD k8 k13 k18 k23 e8 e13 e18 e23 hle z1
  cases ok with
  | false =>
    obtain rfl := hN.out rfl
    clear hN hA
    go_wp2_with (first
      | (with_reducible refine at_op none (.store 23 (.tmp 2) (.tmp 50)) ?_
         refine wpList_store_row (o := ⟨none, .store _ (.tmp 2) (.tmp 50), _, _, _, _⟩) rfl 23 (.tmp 2) (.tmp 50) rfl w.heap.size (idA (List.replicate 16 0)) rfl rfl 23 _ r1.out (by rw [info16, idA_size]) rfl (idA_one _) ?_))
    exact bodyPost_ret (results_row_tmpI rfl _ _ w.heap.size 23 _ (0, 0) _ rfl (r1.out.setRow _) Tryz.underlying23 rfl (by rw [info16, idA_size])) rfl ⟨rfl, below_setRow b1.out (Nat.le_refl _) _⟩
  | true =>
    obtain ⟨hi, h1, LO⟩ := hA.out rfl
    have hz : 16 = A.size := by
      rw [info16] at hi; exact Option.some.inj hi
    replace LO := hid LO
    replace hz := hid hz
    replace hi := hid hi
    replace h1 := hid h1
    clear hA hN
    go_wp2_with (first
      | (go_at_call 51; with_reducible refine (LO.out _).mono ?_; rintro e w5 ⟨rfl, hB5⟩
         have b5 := hid (below_cat hB5 b1.out)
         have r5 := hid (r1.out.below hB5 r1.out.lt)
         clear hB5 b1 r1)
      | (with_reducible refine at_op none (.store 23 (.tmp 2) (.tmp 52)) ?_
         refine wpList_store_row (o := ⟨none, .store _ (.tmp 2) (.tmp 52), _, _, _, _⟩) rfl 23 (.tmp 2) (.tmp 52) rfl w.heap.size A rfl rfl 23 _ r5.out hi.out (by rw [idA_size]; exact hz.out) h1.out ?_))
    exact bodyPost_ret (results_row_tmpI rfl _ _ w.heap.size 23 _ (0, 0) _ rfl (r5.out.setRow _) Tryz.underlying23 rfl hi.out) rfl ⟨rfl, below_setRow b5.out (Nat.le_refl _) _⟩

set_option maxRecDepth 100000 in
set_option maxHeartbeats 4000000 in
theorem refParse_none (s : ByteArray) (h : ¬ signsI s.data.toList) (w : World) :
    Calls Tryz.prog 14 #[.string s] w fun e w' => e = .returned (.tuple #[.agg (idA (List.replicate 16 0)), .bool false]) ∧ Below w.heap.size w w' := by
  have hget : ∀ k (h : k < s.size), (s.data.toList[k]? = some 45 ↔ (s[k]).toNat = 45) := fun k h => by
    rw [Array.getElem?_toList, Array.getElem?_eq_getElem (show k < s.data.size from h)]
    show some (s.data[k]'h) = some 45 ↔ (s.data[k]'h).toNat = 45
    rw [Option.some.injEq, ← UInt8.toNat_inj]; rfl
  have hl : s.data.toList.length = s.size := by simp
  unfold signsI at h
  rw [hl] at h
  by_cases h36 : s.size = 36
  case neg =>
    have z1 : ((s.size : Int) != 36) = true := by rw [bne_iff_ne]; omega
    clear h36 h hget hl
    go_enter Tryz.func14, Tryz.ntmps14
    go_wp2
    exact bodyPost_ret (results_row_tmpI rfl _ _ w.heap.size 23 _ (0, 0) _ rfl (RowAt.new w (idA (List.replicate 16 0)) _) Tryz.underlying23 rfl (by rw [info16, idA_size])) rfl ⟨rfl, below_al (Below.refl _ _) _⟩
  case pos =>
    have k8 : 8 < s.size := by omega
    have k13 : 13 < s.size := by omega
    have k18 : 18 < s.size := by omega
    have k23 : 23 < s.size := by omega
    rw [hget 8 k8, hget 13 k13, hget 18 k18, hget 23 k23] at h
    have z1 : ((s.size : Int) != 36) = false := by rw [h36]; rfl
    obtain ⟨u8, f8⟩ : ∃ u, s[8].toNat = u := ⟨_, rfl⟩
    obtain ⟨u13, f13⟩ : ∃ u, s[13].toNat = u := ⟨_, rfl⟩
    obtain ⟨u18, f18⟩ : ∃ u, s[18].toNat = u := ⟨_, rfl⟩
    obtain ⟨u23, f23⟩ : ∃ u, s[23].toNat = u := ⟨_, rfl⟩
    rw [f8, f13, f18, f23] at h
    clear hget hl
    have hor : u8 ≠ 45 ∨ (u8 = 45 ∧ u13 ≠ 45) ∨ (u8 = 45 ∧ u13 = 45 ∧ u18 ≠ 45) ∨ (u8 = 45 ∧ u13 = 45 ∧ u18 = 45 ∧ u23 ≠ 45) := by omega
    clear h
    rcases hor with g | ⟨rfl, g⟩ | ⟨rfl, rfl, g⟩ | ⟨rfl, rfl, rfl, g⟩
    case' inl => have t : ((u8 : Int) != 45) = true := by rw [bne_iff_ne]; omega
    case' inr.inl => have t : ((u13 : Int) != 45) = true := by rw [bne_iff_ne]; omega
    case' inr.inr.inl => have t : ((u18 : Int) != 45) = true := by rw [bne_iff_ne]; omega
    case' inr.inr.inr => have t : ((u23 : Int) != 45) = true := by rw [bne_iff_ne]; omega
    all_goals
      clear g
      replace h36 := hid h36
      go_enter Tryz.func14, Tryz.ntmps14
      go_wp2
      exact bodyPost_ret (results_row_tmpI rfl _ _ w.heap.size 23 _ (0, 0) _ rfl (RowAt.new w (idA (List.replicate 16 0)) _) Tryz.underlying23 rfl (by rw [info16, idA_size])) rfl ⟨rfl, below_al (Below.refl _ _) _⟩

theorem refDecHex (t : ByteArray) (ht : t.size ≤ 10000) : ∃ (d : ByteArray) (ok : Bool), (ok = true → hexE d.data.toList = t.data.toList) ∧ (ok = false → ∀ o, hexE o ≠ t.data.toList) ∧
    ∀ w, Calls Tryz.prog 50 #[.int .i64 0, .string t] w fun e w' => e = .returned (.tuple #[.string d, .bool ok]) ∧ Below w.heap.size w w' := by
  have h := fun w => refDecode_any 0 t ht w
  unfold refV at h
  have hiff := decR_iff good_hex t.data.toList
  unfold decR at hiff
  rw [show KL 0 = hexL from rfl, show Kk 0 = 4 from rfl, show Kf 0 = false from rfl] at h
  cases hsc : scanA hexL (headOf false t.data.toList) with
  | none =>
    rw [hsc] at h hiff
    exact ⟨_, false, fun h => by (cases h), fun _ o ho => by (have := (hiff o).2 ho; simp at this), h⟩
  | some vs =>
    rw [hsc] at h hiff
    refine ⟨_, _, fun hok => ?_, fun hok o ho => ?_, h⟩
    · have := of_decide_eq_true hok
      simpa [hexE] using this
    · have h1 := (hiff o).2 ho
      have h2 := of_decide_eq_false hok
      simp at h1
      first
        | exact h2 h1.1
        | exact h2 (h1.2 ▸ ho)
        | exact h2 (h1 ▸ ho)
/-- The document's Parse, of a text that is one. -/
theorem refParse_yes (s : ByteArray) (l : List UInt8) (hl : l.length = 16) (hs : s.data.toList = textI l) (w : World) :
    Calls Tryz.prog 14 #[.string s] w fun e w' => e = .returned (.tuple #[.agg (idA l), .bool true]) ∧ Below w.heap.size w w' := by
  obtain ⟨h1, h2⟩ := signs_text l hl
  rw [← hs] at h1 h2
  have h36 : s.size = 36 := by have := h1.1; simpa using this
  obtain ⟨d, ok, hy, hn, LD⟩ := refDecHex (cutS s) (Nat.le_trans (cutS_size s (by omega)) (by decide))
  rw [cutS_list, h2] at hy hn
  cases ok with
  | false => exact absurd rfl (hn rfl l)
  | true =>
    have hdl : d.data.toList = l := hexE_inj (hy rfl)
    have hds : d.size = 16 := by rw [← hl, ← hdl]; simp
    refine refParse_signs s h1 d true (idA l) (fun _ => ⟨by rw [info16, idA_size], idA_one l, fun w => ?_⟩) (fun h => by cases h) LD w
    have := refOf_any d hds w
    rwa [hdl] at this
theorem refParse_no (s : ByteArray) (hs : ∀ l : List UInt8, l.length = 16 → s.data.toList ≠ textI l) (w : World) :
    Calls Tryz.prog 14 #[.string s] w fun e w' => e = .returned (.tuple #[.agg (idA (List.replicate 16 0)), .bool false]) ∧ Below w.heap.size w w' := by
  by_cases h1 : signsI s.data.toList
  · have h36 : s.size = 36 := by have := h1.1; simpa using this
    obtain ⟨d, ok, hy, hn, LD⟩ := refDecHex (cutS s) (Nat.le_trans (cutS_size s (by omega)) (by decide))
    rw [cutS_list] at hy hn
    cases ok with
    | false => exact refParse_signs s h1 d false _ (fun h => by cases h) (fun _ => rfl) LD w
    | true =>
      obtain ⟨h3, h4⟩ := text_of_cut _ _ h1 (hy rfl)
      exact absurd h4.symm (hs _ h3)
  · exact refParse_none s h1 w
end
section
open Go Go.RowKit
set_option linter.unusedSimpArgs false
set_option linter.unusedVariables false

def dashS (h : ByteArray) : ByteArray := h.extract 0 8 ++ ⟨#[45]⟩ ++ h.extract 8 12 ++ ⟨#[45]⟩ ++ h.extract 12 16 ++ ⟨#[45]⟩ ++ h.extract 16 20 ++ ⟨#[45]⟩ ++ h.extract 20 h.size
theorem dashS_text (l : List UInt8) (hl : l.length = 16) (h : ByteArray) (hh : h.data.toList = hexE l) : dashS h = ⟨(textI l).toArray⟩ := by
  have e : ∀ a b : Nat, (h.extract a b).data.toList = (h.data.toList.drop a).take (b - a) := fun a b => by
    rw [ByteArray.data_extract]; simp [Array.toList_extract, List.extract]
  have hsz : h.size = 32 := by
    have : h.data.toList.length = h.size := by simp
    rw [← this, hh, hexE_len, hl]
  refine ByteArray.ext (Array.ext' ?_)
  unfold dashS
  simp only [ByteArray.data_append, Array.toList_append, e, List.append_assoc, hsz, hh]
  rw [hexE_split l hl]
  have f : ∀ i n, (hexE ((l.drop i).take n)).length = 2 * min n (16 - i) := fun i n => by rw [hexE_len]; simp [hl]
  have a0 : (hexE (l.take 4)).length = 8 := by have := f 0 4; simpa using this
  have a1 : (hexE ((l.drop 4).take 2)).length = 4 := f 4 2
  have a2 : (hexE ((l.drop 6).take 2)).length = 4 := f 6 2
  have a3 : (hexE ((l.drop 8).take 2)).length = 4 := f 8 2
  have a4 : (hexE ((l.drop 10).take 6)).length = 12 := f 10 6
  unfold textI
  generalize hexE (l.take 4) = x0 at *
  generalize hexE ((l.drop 4).take 2) = x1 at *
  generalize hexE ((l.drop 6).take 2) = x2 at *
  generalize hexE ((l.drop 8).take 2) = x3 at *
  generalize hexE ((l.drop 10).take 6) = x4 at *
  have t0 : ∀ (x y : List UInt8) n, x.length = n → (x ++ y).take n = x := fun x y n hn => by rw [List.take_left' hn]
  have t1 : ∀ (x y : List UInt8) n k, x.length = n → (x ++ y).drop (n + k) = y.drop k := fun x y n k hn => by
    rw [← List.drop_drop, List.drop_left' hn]
  simp only [List.drop_zero, Nat.sub_zero, Nat.reduceSub]
  have d8 := t1 x0 (x1 ++ (x2 ++ (x3 ++ x4))) 8 0 a0
  have d12 := t1 x0 (x1 ++ (x2 ++ (x3 ++ x4))) 8 4 a0
  have d16 := t1 x0 (x1 ++ (x2 ++ (x3 ++ x4))) 8 8 a0
  have d20 := t1 x0 (x1 ++ (x2 ++ (x3 ++ x4))) 8 12 a0
  simp only [Nat.reduceAdd, List.drop_zero] at d8 d12 d16 d20
  rw [t0 _ _ 8 a0, d8, d12, d16, d20, t0 _ _ 4 a1]
  have c4 := t1 x1 (x2 ++ (x3 ++ x4)) 4 0 a1
  have c8 := t1 x1 (x2 ++ (x3 ++ x4)) 4 4 a1
  have c12 := t1 x1 (x2 ++ (x3 ++ x4)) 4 8 a1
  simp only [Nat.reduceAdd, List.drop_zero] at c4 c8 c12
  rw [c4, c8, c12, t0 _ _ 4 a2]
  have g4 := t1 x2 (x3 ++ x4) 4 0 a2
  have g8 := t1 x2 (x3 ++ x4) 4 4 a2
  simp only [Nat.reduceAdd, List.drop_zero] at g4 g8
  rw [g4, g8, t0 _ _ 4 a3]
  have k4 := t1 x3 x4 4 0 a3
  simp only [Nat.reduceAdd, List.drop_zero] at k4
  rw [k4, List.take_of_length_le (by omega)]
  rfl

set_option maxRecDepth 100000 in
set_option maxHeartbeats 4000000 in
theorem refText_id (l : List UInt8) (hl : l.length = 16) (w : World) :
    Calls Tryz.prog 15 #[.agg (idA l)] w fun e w' => e = .returned (.string ⟨(textI l).toArray⟩) ∧ Below w.heap.size w w' := by
  have LR := fun w => raw_any l hl w
  have LE : ∀ w, Calls Tryz.prog 52 #[.int .i64 0, .string (idS l)] w fun e w' => e = .returned (.string ⟨(hexE l).toArray⟩) ∧ w = w' := fun w => by
    have := refEncode_any 0 (idS l) (by rw [idS_size, hl]; decide) w
    rw [show KL 0 = hexL from rfl, show Kk 0 = 4 from rfl, show Kf 0 = false from rfl, show (idS l).data.toList = l by simp [idS]] at this
    exact this
  have hfin := dashS_text l hl ⟨(hexE l).toArray⟩ (by simp)
  obtain ⟨H, hH⟩ : ∃ H : ByteArray, H = ⟨(hexE l).toArray⟩ := ⟨_, rfl⟩
  have hsz : H.size = 32 := by rw [hH]; show (hexE l).toArray.size = 32; rw [List.size_toArray, hexE_len, hl]
  have hle : H.size ≤ 32 := by omega
  have hge : 32 ≤ H.size := by omega
  rw [← hH] at LE hfin
  rw [← hfin]
  unfold dashS
  obtain ⟨s, hs⟩ : ∃ s, s = idS l := ⟨_, rfl⟩
  rw [← hs] at LR LE
  obtain ⟨A, hA⟩ : ∃ A, A = idA l := ⟨_, rfl⟩
  have hAi : (Tryz.prog.info? 23).map (·.size) = some A.size := by rw [info16, hA, idA_size]
  rw [← hA] at LR ⊢
  replace LR := hid LR
  replace LE := hid LE
  replace hAi := hid hAi
  clear hH hfin hs hA hl hsz
  go_enter Tryz.func15, Tryz.ntmps15
  go_wp2_with (first
    | (go_at_call 53; with_reducible refine (LR.out _).mono ?_; rintro e w1 ⟨rfl, hB1⟩)
    | (go_at_call 52; with_reducible refine (LE.out _).mono ?_; rintro e w2 ⟨rfl, rfl⟩)
    | (with_reducible refine at_op (some 4) (.load 23 (.tmp 1)) ?_
       refine wpList_load_row (o := ⟨some 4, _, _, _, _, _⟩) rfl 23 (.tmp 1) rfl w.heap.size rfl 23 _ (0, 0) _ (RowAt.new w A _) Tryz.underlying23 rfl hAi.out ?_))
  have b1 := below_cat hB1 (below_al (Below.refl w.heap.size w) _)
  replace b1 := hid b1
  clear hB1
  refine wp_region_sub (by kernel_rfl) (by kernel_rfl) ?_
  repeat (go_big_quiet_step (fail))
  refine wpQuiet_nil ?_
  intro q
  go_wp2
  go_ret
  exact ⟨rfl, below_cat q.h b1.out⟩
end
end Go.Proofs.YtdjlpmelmhhooaaGreatDoor
