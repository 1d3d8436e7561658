/- The law OtpTries: the walk. -/
import Derived.Test.YtbbjoahloghpkaaDoorOtp8
namespace Go.Proofs.YtbbjoahloghpkaaDoor
open Go Go.RowKit
set_option linter.unusedSimpArgs false
set_option linter.unusedVariables false

theorem str_beq (s t : ByteArray) : (s.toList == t.toList) = decide (t = s) := by
  by_cases h : t = s
  · simp [h]
  · have : ¬ s.toList = t.toList := fun e => h (by
      rw [ByteArray.toList_eq, ByteArray.toList_eq] at e
      exact (ByteArray.ext (Array.ext' e)).symm)
    simp [h, this]

theorem RowAt.newAt (w : World) (A : Array Value) (t : TypeId) (n : Nat) (h : n = w.heap.size) : RowAt (w.alloc (.cells A t)) n t A := by subst h; exact RowAt.new _ _ _
/-- The four boxes at the outset. -/
structure Four (w : World) (code : ByteArray) (a : Option Addr) (len cap : Nat) (stop : Int) (b : Bool) (W : World) : Prop where
  bel : Below w.heap.size w W
  r5 : RowAt W w.heap.size 9 #[.string code]
  r6 : RowAt W (w.heap.size + 1) 59 #[.slice a len cap]
  r7 : RowAt W (w.heap.size + 1 + 1) 5 #[.int .u8 stop]
  r8 : RowAt W (w.heap.size + 1 + 1 + 1) 4 #[.bool b]
theorem Four.new (w : World) (code : ByteArray) (a : Option Addr) (len cap : Nat) (stop : Int) : Four w code a len cap stop false ((((w.alloc (.cells #[.string code] 9)).alloc (.cells #[.slice a len cap] 59)).alloc (.cells #[.int .u8 stop] 5)).alloc (.cells #[.bool false] 4)) :=
  ⟨below_al (below_al (below_al (below_al (Below.refl _ _) _) _) _) _, (((RowAt.new w _ _).alloc _).alloc _).alloc _, ((RowAt.newAt _ _ _ _ (by simp)).alloc _).alloc _, (RowAt.newAt _ _ _ _ (by simp)).alloc _, RowAt.newAt _ _ _ _ (by simp)⟩
theorem Four.below {w : World} {code : ByteArray} {a : Option Addr} {len cap : Nat} {stop : Int} {b : Bool} {W W' : World} (h : Four w code a len cap stop b W) (hb : Below W.heap.size W W') : Four w code a len cap stop b W' :=
  ⟨below_cat hb h.bel, h.r5.below hb h.r5.lt, h.r6.below hb h.r6.lt, h.r7.below hb h.r7.lt, h.r8.below hb h.r8.lt⟩
theorem Four.kept {S : Nat → Prop} {w : World} {code : ByteArray} {a : Option Addr} {len cap : Nat} {stop : Int} {b : Bool} {W W' : World} (h : Four w code a len cap stop b W) (hk : Kept S W W') (hS : ∀ k, S k → w.heap.size + 3 < k) : Four w code a len cap stop b W' :=
  ⟨below_kept h.bel hk (Nat.le_refl _) (fun k hk => by have := hS k hk; omega), hk.row h.r5 (fun e => by have := hS _ e; omega), hk.row h.r6 (fun e => by have := hS _ e; omega), hk.row h.r7 (fun e => by have := hS _ e; omega), hk.row h.r8 (fun e => by have := hS _ e; omega)⟩

attribute [local go_sem] Oper.semAt_some
set_option maxRecDepth 100000 in
set_option maxHeartbeats 8000000 in
theorem tries_big (t : Int) (code : ByteArray) (a : Option Addr) (len cap : Nat) (stop : Int) (h : decide ((30 : Int) < (len : Int)) = true ∨ (decide ((30 : Int) < (len : Int)) = false ∧ decide ((60 : Int) < (code.size : Int)) = true)) (w : World) :
    CallsIn Fence.wide 0 Tryd.prog 10 #[.int .u8 t, .string code, .slice a len cap, .int .u8 stop] w fun e w' => e = .returned (.bool true) ∧ Below w.heap.size w w' := by
  have cA := hid otpAwake_any
  refine callsIn_of_wp_marks Tryd.func10 rfl trivial ?_
  simp only [Tryd.ntmps10, List.size_toArray, List.length_cons, List.length_nil, Nat.reduceAdd, Nat.reduceSub, Array.replicate_succ, Array.replicate_zero, List.push_toArray, List.append_toArray, List.nil_append, List.cons_append]
  rcases h with h | ⟨h, h2⟩
  all_goals
    gi_wp2_with (refine ⟨trivial, rfl, ?_⟩; gi_at_call 33; refine (callsIn_wide.2 (cA.out _)).mono ?_; rintro e w1 ⟨rfl, hB1⟩
                 have h4 := hid ((Four.new w code a len cap stop).below hB1)
                 have c5 : w1.cell? ⟨w.heap.size, 0, none⟩ = some (.string code) := h4.out.r5.cell rfl
                 have c6 : w1.cell? ⟨w.heap.size + 1, 0, none⟩ = some (.slice a len cap) := h4.out.r6.cell rfl
                 have c8 : w1.cell? ⟨w.heap.size + 1 + 1 + 1, 0, none⟩ = some (.bool false) := h4.out.r8.cell rfl
                 have f8 := h4.out.r8.free 0)
    exact leave_none ⟨_, results_box rfl _ _ (w.heap.size + 1 + 1 + 1) (.bool true) rfl ((h4.out.r8.set 0 (.bool true)).cell rfl) Tryd.underlying4, rfl, h4.out.bel.setCell (p := ⟨w.heap.size + 1 + 1 + 1, 0, none⟩) (show w.heap.size ≤ w.heap.size + 1 + 1 + 1 by omega) _⟩

/-- What stands behind some tries. -/
structure TriesAt (w : World) (code : ByteArray) (a : Option Addr) (len cap : Nat) (stop : Int) (n B1 B2 : Nat) (s : OSt) (pre : List (ByteArray × OSt)) (W : World) : Prop where
  four : Four w code a len cap stop false W
  r9 : RowAt W B1 3 #[.int .i64 (n : Nat)]
  r12 : RowAt W B2 47 #[.int .i64 s.tries, .int .u64 (s.dl : Nat), .int .i64 s.over]
  rest : ∃ (wrong : Nat) (right : Bool), TI n (lastO s pre) wrong right ∧ RowAt W (B2 + 1) 3 #[.int .i64 (wrong : Nat)] ∧ RowAt W (B2 + 1 + 1) 4 #[.bool right] ∧ RowAt W (B2 + 1 + 1 + 1) 3 #[.int .i64 (pre.length : Nat)] ∧
    RowAt W (B2 + 1 + 1 + 1 + 1) 47 #[.int .i64 (lastO s pre).tries, .int .u64 ((lastO s pre).dl : Nat), .int .i64 (lastO s pre).over]
theorem TriesAt.kept {S : Nat → Prop} {w : World} {code : ByteArray} {a : Option Addr} {len cap : Nat} {stop : Int} {n B1 B2 : Nat} {s : OSt} {pre : List (ByteArray × OSt)} {W W' : World} (h : TriesAt w code a len cap stop n B1 B2 s pre W) (hk : Kept S W W')
    (hS : ∀ k, S k → B2 + 4 < k) (h1 : w.heap.size + 3 < B1) (h2 : B1 < B2) : TriesAt w code a len cap stop n B1 B2 s pre W' := by
  obtain ⟨wrong, right, t, x1, x2, x3, x4⟩ := h.rest
  exact ⟨h.four.kept hk (fun k hk => by have := hS k hk; omega), hk.row h.r9 (fun e => by have := hS _ e; omega), hk.row h.r12 (fun e => by have := hS _ e; omega),
    wrong, right, t, hk.row x1 (fun e => by have := hS _ e; omega), hk.row x2 (fun e => by have := hS _ e; omega), hk.row x3 (fun e => by have := hS _ e; omega), hk.row x4 (fun e => by have := hS _ e; omega)⟩

theorem RowAt.three_other {w : World} {b g : Nat} {t : TypeId} {A : Array Value} (r : RowAt w b t A) (h : b ≠ g) (x y z : Value) : RowAt (((w.setCell ⟨g, 0, none⟩ x).setCell ⟨g, 1, none⟩ y).setCell ⟨g, 2, none⟩ z) b t A :=
  ((r.other ⟨g, 0, none⟩ x h).other ⟨g, 1, none⟩ y h).other ⟨g, 2, none⟩ z h

theorem tries_step {K D : Nat → Prop} {Ix : Code → List (ByteArray × OSt) → World → Prop} {w : World} {code : ByteArray} {a : Option Addr} {len cap : Nat} {stop : Int} {n B1 B2 L : Nat} {s v : OSt} {pre : List (ByteArray × OSt)} {W W' : World} {act : Act} {wrong : Nat} {right : Bool}
    (hf : Four w code a len cap stop false W) (h9 : RowAt W B1 3 #[.int .i64 (n : Nat)]) (hr : RowAt W B2 47 #[.int .i64 s.tries, .int .u64 (s.dl : Nat), .int .i64 s.over])
    (hk : Kept (fun k => B2 < k ∧ k ≤ B2 + 4) W W') (hdis : ∀ k, B2 < k → k ≤ B2 + 4 → ¬ (K k ∨ D k)) (h1 : w.heap.size + 3 < B1) (h2 : B1 < B2) (hlast : lastO s pre = v) (hl : pre.length = L + 1) (ht : TI n v wrong right)
    (y1 : RowAt W' (B2 + 1) 3 #[.int .i64 (wrong : Nat)]) (y2 : RowAt W' (B2 + 1 + 1) 4 #[.bool right]) (y3 : RowAt W' (B2 + 1 + 1 + 1) 3 #[.int .i64 ((L : Int) + 1)])
    (y4 : RowAt W' (B2 + 1 + 1 + 1 + 1) 47 #[.int .i64 v.tries, .int .u64 (v.dl : Nat), .int .i64 v.over]) :
    roundTo K D (fun pre W => TriesAt w code a len cap stop n B1 B2 s pre W) Ix pre W .normal act W' :=
  ⟨hk.mono fun k _ h => hdis k h.1 h.2, hf.kept hk (fun k hk => by omega), hk.row h9 (fun h => by omega), hk.row hr (fun h => by omega), wrong, right, by rw [hlast]; exact ht, y1, y2, by rw [hl]; exact y3, by rw [hlast]; exact y4⟩
theorem RowAt.putObj {W : World} {b : Nat} {t : TypeId} {A : Array Value} (r : RowAt W b t A) (l : Nat) (ob : Obj) (h : b ≠ l) : RowAt (W.putObj l ob) b t A := (World.putObj_heap_other h).trans r
/-- What stands behind some rounds of the second loop. -/
structure CutAt (w : World) (code : ByteArray) (a : Option Addr) (len cap st B2 C E : Nat) (L : Nat) (W : World) : Prop where
  four : Four w code a len cap (st : Int) false W
  r16 : RowAt W (B2 + 1 + 1 + 1) 3 #[.int .i64 (len : Nat)]
  r20 : RowAt W C 3 #[.int .i64 (L : Nat)]
  dd : W.heap[E]? = some (.deferred (some []))
theorem CutAt.kept {S : Nat → Prop} {w : World} {code : ByteArray} {a : Option Addr} {len cap st B2 C E L : Nat} {W W' : World} (h : CutAt w code a len cap st B2 C E L W) (hk : Kept S W W') (hS : ∀ k, S k → C < k) (h1 : w.heap.size + 3 < C) (h2 : B2 + 3 < C) (h3 : E < C) : CutAt w code a len cap st B2 C E L W' :=
  ⟨h.four.kept hk (fun k hk => by have := hS k hk; omega), hk.row h.r16 (fun e => by have := hS _ e; omega), hk.row h.r20 (fun e => by have := hS _ e; omega),
    (hk.block _ (by have := h.r20.lt; omega) (fun e => by have := hS _ e; omega)).trans h.dd⟩
theorem TI.b2 {n : Nat} {u : OSt} {wrong : Nat} {right : Bool} (h : TI n u wrong right) : (u.over == 2) = ((wrong : Int) == (n : Int)) := by
  have h2 := h.two
  by_cases e : wrong = n
  · rw [h2.2 e, e]; simp
  · have e1 : ¬ u.over = 2 := fun h => e (h2.1 h)
    rw [beq_eq_false_iff_ne.2 e1, beq_eq_false_iff_ne.2 (by omega)]
theorem TI.b1 {n : Nat} {u : OSt} {wrong : Nat} {right : Bool} (h : TI n u wrong right) : (u.over == 1) = right := by
  have h1 := h.one
  cases right
  · rw [beq_eq_false_iff_ne]; intro e; have := h1.1 e; cases this
  · rw [h1.2 rfl]; rfl

set_option maxRecDepth 100000 in
set_option maxHeartbeats 16000000 in
theorem tries_main (t : Int) (code : ByteArray) (a : Option Addr) (len cap : Nat) (ss : List ByteArray) (stop : Int) (ht0 : 0 ≤ t) (ht1 : t ≤ 255) (hs0 : 0 ≤ stop) (hs1 : stop ≤ 255) (hl : len ≤ 30) (hc : code.size ≤ 60) (w : World) (hin : IsStrs w a len ss) :
    CallsIn Fence.wide 0 Tryd.prog 10 #[.int .u8 t, .string code, .slice a len cap, .int .u8 stop] w fun e w' => e = .returned (.bool true) ∧ Below w.heap.size w w' := by
  have cA := hid otpAwake_any
  have h1 : decide ((30 : Int) < (len : Int)) = false := decide_eq_false (by omega)
  have h2 : decide ((60 : Int) < (code.size : Int)) = false := decide_eq_false (by omega)
  obtain ⟨n, hn⟩ : ∃ n : Nat, (1 : Int) + t % 9 = (n : Int) := ⟨(1 + t % 9).toNat, by omega⟩
  have hn1 : 1 ≤ n := by omega
  have hn9 : n ≤ 9 := by omega
  have cB0 := fun w => begin_at (n : Int) (by omega) (by omega) 0 5 5 (by decide) (by decide) (by decide) w
  rw [show ((0 : Nat) : Int) = 0 from rfl, show ((5 : Nat) : Int) = 5 from rfl] at cB0
  have cB := hid cB0
  clear cB0
  have hlen := hin.len
  replace hin := hid hin
  refine callsIn_of_wp_marks Tryd.func10 rfl trivial ?_
  simp only [Tryd.ntmps10, List.size_toArray, List.length_cons, List.length_nil, Nat.reduceAdd, Nat.reduceSub, Array.replicate_succ, Array.replicate_zero, List.push_toArray, List.append_toArray, List.nil_append, List.cons_append]
  gi_wp2_with (refine ⟨trivial, rfl, ?_⟩; gi_at_call 33; refine (callsIn_wide.2 (cA.out _)).mono ?_; rintro e w1 ⟨rfl, hB1⟩
               have h4 := hid ((Four.new w code a len cap stop).below hB1)
               have c5 : w1.cell? ⟨w.heap.size, 0, none⟩ = some (.string code) := h4.out.r5.cell rfl
               have c6 : w1.cell? ⟨w.heap.size + 1, 0, none⟩ = some (.slice a len cap) := h4.out.r6.cell rfl
               have c6a : ∀ o, (w1.alloc o).cell? ⟨w.heap.size + 1, 0, none⟩ = some (.slice a len cap) := fun o => (h4.out.r6.alloc o).cell rfl
               have c8 : w1.cell? ⟨w.heap.size + 1 + 1 + 1, 0, none⟩ = some (.bool false) := h4.out.r8.cell rfl
               have f8 := h4.out.r8.free 0)
  have hw1 := h4.out.bel.size
  have h12 : w.heap.size + 3 < w1.heap.size := h4.out.r8.lt
  have h5 := hid (h4.out.below (below_al (Below.refl w1.heap.size w1) (.cells #[.int .i64 (n : Int)] 3)))
  have r9 := hid (RowAt.new w1 #[.int .i64 (n : Int)] 3)
  obtain ⟨X1, hX1⟩ : ∃ X, X = w1.alloc (.cells #[.int .i64 (n : Int)] 3) := ⟨_, rfl⟩
  rw [← hX1] at h5 r9 ⊢
  have hX1s : w1.heap.size + 1 ≤ X1.heap.size := by rw [hX1]; simp
  obtain ⟨B1, hB⟩ : ∃ B, B = w1.heap.size := ⟨_, rfl⟩
  rw [← hB] at r9 h12 hX1s ⊢
  clear c5 c6 c6a c8 f8 h4 hX1 hB hB1 hw1
  have hinX := hid (hin.out.below h5.out.bel)
  gi_loopw [37] (fun p wr => ∃ i : Nat, p = .int .i64 i ∧ i ≤ len ∧ Hid (∀ y ∈ ss.take i, y.size ≤ 60) ∧ wr = X1) (fun p _ => len - (intOf p).toNat)
  case atStart => exact ⟨0, rfl, Nat.zero_le _, hid (by simp), rfl⟩
  case round =>
    obtain ⟨i, rfl, hi, hall, rfl⟩ := hrel
    by_cases hlt : i < len
    · obtain ⟨y, hy⟩ : ∃ y, ss[i]? = some y := ⟨_, List.getElem?_eq_getElem (by omega)⟩
      obtain ⟨x, rfl, hx⟩ := hinX.out.at hy
      have htk : ss.take (i + 1) = ss.take i ++ [y] := by rw [List.take_add_one, hy]; rfl
      have hd : decide ((i : Int) < (len : Int)) = true := decide_eq_true (by omega)
      by_cases hbig : y.size ≤ 60
      · have hd2 : decide ((60 : Int) < (y.size : Int)) = false := decide_eq_false (by omega)
        have hall2 := hid (show ∀ z ∈ ss.take (i + 1), z.size ≤ 60 by
          intro z hz
          rw [htk] at hz
          rcases List.mem_append.1 hz with h | h
          · exact hall.out z h
          · simp at h; rw [h]; exact hbig)
        clear htk hy
        gi_wp2
        go_roundw
        case rel => exact ⟨i + 1, by go_num, by omega, hall2, by first | rfl | trivial⟩
        case measure => simp [intOf]; omega
      · have hd2 : decide ((60 : Int) < (y.size : Int)) = true := decide_eq_true (by omega)
        have c8 : wr.cell? ⟨w.heap.size + 1 + 1 + 1, 0, none⟩ = some (.bool false) := h5.out.r8.cell rfl
        have f8 := h5.out.r8.free 0
        clear htk hy
        gi_wp2
        exact leave_none ⟨_, results_box rfl _ _ (w.heap.size + 1 + 1 + 1) (.bool true) rfl ((h5.out.r8.set 0 (.bool true)).cell rfl) Tryd.underlying4, rfl, h5.out.bel.setCell (p := ⟨w.heap.size + 1 + 1 + 1, 0, none⟩) (show w.heap.size ≤ w.heap.size + 1 + 1 + 1 by omega) _⟩
    · obtain rfl : i = len := by omega
      have hall2 := hid (show ∀ z ∈ ss, z.size ≤ 60 by have := hall.out; rwa [List.take_of_length_le (by omega)] at this)
      have hd : decide ((i : Int) < (i : Int)) = false := decide_eq_false (by omega)
      have c9 : wr.cell? ⟨B1, 0, none⟩ = some (.int .i64 (n : Int)) := r9.out.cell rfl
      clear hall
      gi_wp2_with (first
        | (refine ⟨trivial, rfl, ?_⟩; gi_at_call 34; with_reducible refine (callsIn_wide.2 (cB.out _)).mono ?_; rintro e w2 ⟨rfl, hB2⟩
           have h6 := hid (h5.out.below hB2)
           have r9' := hid (r9.out.below hB2 r9.out.lt)
           have q5 : ∀ o1 o2 o3 o4 o5, (((((w2.alloc o1).alloc o2).alloc o3).alloc o4).alloc o5).cell? ⟨w.heap.size, 0, none⟩ = some (.string code) := fun o1 o2 o3 o4 o5 => (((((h6.out.r5.alloc o1).alloc o2).alloc o3).alloc o4).alloc o5).cell rfl
           have q6 : ∀ o1 o2 o3 o4 o5, (((((w2.alloc o1).alloc o2).alloc o3).alloc o4).alloc o5).cell? ⟨w.heap.size + 1, 0, none⟩ = some (.slice a i cap) := fun o1 o2 o3 o4 o5 => (((((h6.out.r6.alloc o1).alloc o2).alloc o3).alloc o4).alloc o5).cell rfl)
        | (refine ⟨trivial, rfl, ?_⟩; gi_at_call 41; refine (callsIn_wide.2 (run_make ⟨(n : Int), 5, 0⟩ code a i cap _)).mono ?_; rintro e w' ⟨rfl, rfl⟩))
      have hb6 := h6.out.bel.size
      have h9l : B1 < w2.heap.size := r9'.out.lt
      clear q5 q6 c9 h5 r9 hinX
      obtain ⟨B2, hB2'⟩ : ∃ B, B = w2.heap.size := ⟨_, rfl⟩
      generalize hW0 : World.alloc _ (Obj.cells #[Value.slice a i cap] 59) = W0
      have hsz : W0.heap.size = B2 + 8 := by rw [← hW0, hB2']; simp
      have hT0 : TriesAt w code a i cap stop n B1 B2 ⟨(n : Int), 5, 0⟩ [] W0 := by
        rw [← hW0, hB2']
        refine ⟨h6.out.below (below_al (below_al (below_al (below_al (below_al (below_al (below_al (below_al (Below.refl _ _) _) _) _) _) _) _) _) _), RowAt.below r9'.out (below_al (below_al (below_al (below_al (below_al (below_al (below_al (below_al (Below.refl _ _) _) _) _) _) _) _) _) _) r9'.out.lt, ?_, 0, false, TI.start n hn1, ?_, ?_, ?_, ?_⟩
        · exact (((((((RowAt.new w2 _ _).alloc _).alloc _).alloc _).alloc _).alloc _).alloc _).alloc _
        · exact ((((((RowAt.newAt _ _ _ _ (by simp)).alloc _).alloc _).alloc _).alloc _).alloc _).alloc _
        · exact (((((RowAt.newAt _ _ _ _ (by simp)).alloc _).alloc _).alloc _).alloc _).alloc _
        · exact ((((RowAt.newAt _ _ _ _ (by simp)).alloc _).alloc _).alloc _).alloc _
        · exact (((RowAt.newAt _ _ _ _ (by simp)).alloc _).alloc _).alloc _
      have rs : RowAt W0 (B2 + 1 + 1 + 1 + 1 + 1) 47 #[.int .i64 (n : Int), .int .u64 ((5 : Nat) : Int), .int .i64 0] := by rw [← hW0, hB2']; exact ((RowAt.newAt _ _ _ _ (by simp)).alloc _).alloc _
      have rc : RowAt W0 (B2 + 1 + 1 + 1 + 1 + 1 + 1) 9 #[.string code] := by rw [← hW0, hB2']; exact (RowAt.newAt _ _ _ _ (by simp)).alloc _
      have rl : RowAt W0 (B2 + 1 + 1 + 1 + 1 + 1 + 1 + 1) 59 #[.slice a i cap] := by rw [← hW0, hB2']; exact RowAt.newAt _ _ _ _ (by simp)
      have hin0 := hin.out.below hT0.four.bel
      have hxb : ∀ x, a = some x → ss ≠ [] → x.block < w.heap.size := fun x hx hne => by
        obtain ⟨y, l, rfl⟩ := List.exists_cons_of_ne_nil hne
        obtain ⟨x', hx', hc'⟩ := hin.out.at (i := 0) (s := y) rfl
        have e : x = x' := Option.some.inj (hx.symm.trans hx')
        have h2 : (x'.add 0).block < w.heap.size := World.block_lt_of_cell? w _ hc'
        rw [addr_add_block] at h2
        rw [e]; exact h2
      have hInv : InvO ⟨(n : Int), 5, 0⟩ := ⟨by show (0 : Int) ≤ n; omega, by show (n : Int) ≤ 9; omega, fun _ => by show (1 : Int) ≤ n; omega⟩
      have hit := run_on ⟨(n : Int), 5, 0⟩ code ss hInv (by omega) (fun y hy => by have := hall2.out y hy; omega) (by omega) a i cap _ _ _ W0 rs rl rc hin0
      have hD : ∀ k, keepO W0 (B2 + 1 + 1 + 1 + 1 + 1 + 1) a ss k → k = W0.heap.size + 2 ∨ k = B2 + 6 ∨ k < w.heap.size := fun k hk => by
        rcases hk with h | h | ⟨x, h1, h2, h3⟩
        · exact .inl h
        · exact .inr (.inl h)
        · exact .inr (.inr (by rw [h2]; exact hxb x h1 h3))
      have hDn : ∀ k, B2 < k → k ≤ B2 + 4 → ¬ (twoOf W0.heap.size k ∨ keepO W0 (B2 + 1 + 1 + 1 + 1 + 1 + 1) a ss k) := fun k h1 h2 h => by
        rcases h with h | h
        · rcases h with h | h <;> omega
        · rcases hD k h with h | h | h <;> omega
      rw [← hB2'] at hb6 h9l
      simp only [← hB2']
      have hss0 := hid hall2.out
      replace hW0 := hid hW0
      clear hW0 rs rc rl hB2' h6 r9' hall2
      replace hit := hid hit
      refine wp_iter_box_at (c₀ := 1) (gf := 67) (lb := #[.pointer (some ⟨B2 + 1 + 1 + 1 + 1 + 1, 0, none⟩), .pointer (some ⟨B2 + 1 + 1 + 1 + 1 + 1 + 1 + 1, 0, none⟩), .pointer (some ⟨B2 + 1 + 1 + 1 + 1 + 1 + 1, 0, none⟩)]) rfl (enters_of Tryd.func67 (by kernel_rfl) rfl) hit.out
        (fun k hk => by omega) (fun k hk => by rcases hD k hk with h | h | h <;> omega) (fun _ => rfl)
        (fun x g => [(18, .string x.1), (19, .pointer (some ⟨g, 0, none⟩))]) (fun x g W => RowAt W g 47 #[.int .i64 x.2.tries, .int .u64 (x.2.dl : Nat), .int .i64 x.2.over] ∧ W0.heap.size + 2 < g) ?hR
        (fun pre W => TriesAt w code a i cap stop n B1 B2 ⟨(n : Int), 5, 0⟩ pre W) (fun _ _ _ => False) ?hI ?hIx hT0 ?assign ?body ?done ?stop
      case hI =>
        intro pre X Y h hk
        exact h.kept hk (fun k hk => by rcases hk with h | h | h <;> omega) h12 h9l
      case hIx => intro _ _ _ _ h; exact h.elim
      case hR =>
        rintro x g X Y ⟨h2, h3⟩ hk
        exact ⟨hk.row h2 (fun h => by rcases h with h | h | h <;> omega), h3⟩
      case assign =>
        rintro l pre ⟨y, ⟨vt, vd, vo⟩⟩ W K hsW hi hK
        have hK' := hid (hK W.heap.size (W.alloc (.cells #[.int .i64 vt, .int .u64 (vd : Nat), .int .i64 vo] 47)) ((Kept.refl _ _).alloc _) (hi.kept ((Kept.refl (fun _ => False) W).alloc _) (fun _ h => h.elim) h12 h9l) ⟨RowAt.new _ _ _, by omega⟩)
        simp only [encR, List.zip_toArray, List.foldl_toArray', List.foldl_toArray, List.zip_cons_cons, List.zip_nil_left, List.foldl_cons, List.foldl_nil, List.setIfInBounds_toArray, List.set_cons_zero, List.set_cons_succ]
        clear hK hi
        gi_wp2
        simpa [encR, putAll] using hK'.out
      case stop => intro _ _ _ _ _ _ _ h; exact h.elim
      case body =>
        rintro pre ⟨y, ⟨vt, vd, vo⟩⟩ post g W hx hsW hr hT ⟨hg, hgl⟩
        have hsp := runO_split code ss _ pre _ post hx
        obtain ⟨hy, hv⟩ := hsp
        dsimp only at hy hv
        have hpl : pre.length < i := by
          have := (List.getElem?_eq_some_iff.1 hy).1
          omega
        obtain ⟨x, rfl, hcx⟩ := (hin.out.below hT.four.bel).at hy
        obtain ⟨wrong, right, hti, x1, x2, x3, x4⟩ := hT.rest
        obtain ⟨⟨ut, ud, uo⟩, hu⟩ : ∃ u, u = lastO ⟨(n : Int), 5, 0⟩ pre := ⟨_, rfl⟩
        rw [← hu] at hti hv x4
        have hTf := hid hT.four
        have hr9 := hid hT.r9
        have hr12 := hid hT.r12
        have hsn := hid (lastO_snoc ⟨(n : Int), 5, 0⟩ pre (y, ⟨vt, vd, vo⟩))
        have c5 : W.cell? ⟨w.heap.size, 0, none⟩ = some (.string code) := hTf.out.r5.cell rfl
        have c6 : W.cell? ⟨w.heap.size + 1, 0, none⟩ = some (.slice (some x) i cap) := hTf.out.r6.cell rfl
        have c9 : W.cell? ⟨B1, 0, none⟩ = some (.int .i64 (n : Int)) := hr9.out.cell rfl
        have c14 : W.cell? ⟨B2 + 1, 0, none⟩ = some (.int .i64 (wrong : Int)) := x1.cell rfl
        have f14 := x1.free 0
        have c15 : W.cell? ⟨B2 + 1 + 1, 0, none⟩ = some (.bool right) := x2.cell rfl
        have f15 := x2.free 0
        have c16 : W.cell? ⟨B2 + 1 + 1 + 1, 0, none⟩ = some (.int .i64 (pre.length : Int)) := x3.cell rfl
        have f16 := x3.free 0
        obtain ⟨u0, u1, u2⟩ := OSt.read x4
        have g0 := x4.free 0
        have g1 := x4.free 1
        have g2 := x4.free 2
        obtain ⟨v0, v1, v2⟩ := OSt.read hg
        have hge : decide ((i : Int) ≤ (pre.length : Int)) = false := decide_eq_false (by omega)
        have hq := str_beq y code
        have hdis : ∀ k, B2 < k → k ≤ B2 + 4 → (fun k => ¬(twoOf W0.heap.size k ∨ keepO W0 (B2 + 1 + 1 + 1 + 1 + 1 + 1) (some x) ss k)) k := hDn
        replace x1 := hid x1
        replace x2 := hid x2
        replace x3 := hid x3
        replace x4 := hid x4
        replace hg := hid hg
        replace hdis := hid hdis
        obtain ⟨L, hL⟩ : ∃ L, L = pre.length := ⟨_, rfl⟩
        rw [← hL] at hpl x3 c16 hge hcx
        have hL1 := hid (show ∀ z : OSt, (pre ++ [(y, z)]).length = L + 1 by intro z; rw [List.length_append, hL]; rfl)
        simp only [encR, putAll, List.zip_toArray, List.foldl_toArray', List.foldl_toArray, List.zip_cons_cons, List.zip_nil_left, List.foldl_cons, List.foldl_nil, List.setIfInBounds_toArray, List.set_cons_zero, List.set_cons_succ]
        replace hx := hid hx
        clear hT hu hL hy hDn hit hr
        by_cases hov : uo = 0
        · subst hov
          by_cases hcy : code = y
          · have hqt : (y.toList == code.toList) = true := by rw [hq]; exact decide_eq_true hcy
            rw [show decide (code = y) = true from decide_eq_true hcy] at hv
            obtain ⟨e, hti2⟩ := hti.same rfl
            rw [e] at hv
            obtain ⟨rfl, rfl, rfl⟩ := OSt.mk.inj hv
            have t1 : vt = (n : Int) - (wrong : Int) := hti.tries
            have t2 : decide ((n : Int) < (wrong : Int)) = false := decide_eq_false (by have := hti.le; omega)
            have t3 : ¬ n < wrong := by have := hti.le; omega
            have t4 := hti.le
            have e2 := hti2.b2
            dsimp only at e2
            have e3 : ((wrong : Int) == (n : Int)) = false := by rw [← e2]; rfl
            replace hti := hid hti2
            clear hv e hcy hq e2 hti2
            gi_wp2
            refine tries_step (v := ⟨(n : Int) - (wrong : Int), 5, 1⟩) hTf.out hr9.out hr12.out ((((Kept.refl _ W).setCell ⟨B2 + 1 + 1, 0, none⟩ (.inl (show B2 < B2 + 1 + 1 ∧ B2 + 1 + 1 ≤ B2 + 4 by omega)) _).three (b := B2 + 1 + 1 + 1 + 1) (.inl (by omega)) _ _ _).setCell ⟨B2 + 1 + 1 + 1, 0, none⟩ (.inl (show B2 < B2 + 1 + 1 + 1 ∧ B2 + 1 + 1 + 1 ≤ B2 + 4 by omega)) _)
              (fun k h1 h2 => by have := hdis.out k h1 h2; rwa [hsz] at this) h12 h9l (lastO_snoc _ _ _) (hL1.out _) (by have h := hti.out; simp only [t1] at h; exact h) ?_ ?_ ?_ ?_
            · exact ((x1.out.other ⟨B2 + 1 + 1, 0, none⟩ _ (show B2 + 1 ≠ B2 + 1 + 1 by omega)).three_other (by omega) _ _ _).other ⟨B2 + 1 + 1 + 1, 0, none⟩ _ (show B2 + 1 ≠ B2 + 1 + 1 + 1 by omega)
            · exact ((((x2.out.set 0 _).eqA rfl).three_other (by omega) _ _ _).other ⟨B2 + 1 + 1 + 1, 0, none⟩ _ (show B2 + 1 + 1 ≠ B2 + 1 + 1 + 1 by omega))
            · exact (((x3.out.other ⟨B2 + 1 + 1, 0, none⟩ _ (show B2 + 1 + 1 + 1 ≠ B2 + 1 + 1 by omega)).three_other (by omega) _ _ _).set 0 _).eqA rfl
            · exact ((x4.out.other ⟨B2 + 1 + 1, 0, none⟩ _ (show B2 + 1 + 1 + 1 + 1 ≠ B2 + 1 + 1 by omega)).three _ _ _).other ⟨B2 + 1 + 1 + 1, 0, none⟩ _ (show B2 + 1 + 1 + 1 + 1 ≠ B2 + 1 + 1 + 1 by omega)
          · have hqt : (y.toList == code.toList) = false := by rw [hq]; exact decide_eq_false hcy
            rw [show decide (code = y) = false from decide_eq_false hcy] at hv
            obtain ⟨o, e, hti2⟩ := hti.wrong rfl
            rw [e] at hv
            obtain ⟨rfl, rfl, rfl⟩ := OSt.mk.inj hv
            have t2 : decide ((n : Int) < (wrong : Int) + 1) = false := decide_eq_false (by have := hti2.le; omega)
            have t3 : ¬ n < wrong + 1 := by have := hti2.le; omega
            have t4 : wrong + 1 ≤ n := hti2.le
            have e1 := hti2.b1
            have e2 := hti2.b2
            rw [show (((wrong + 1 : Nat)) : Int) = (wrong : Int) + 1 from rfl] at e2
            obtain ⟨b2, hb2⟩ : ∃ b, ((wrong : Int) + 1 == (n : Int)) = b := ⟨_, rfl⟩
            rw [hb2] at e2
            dsimp only at e1 e2
            have hti3 := hid hti2
            simp only [show (((wrong + 1 : Nat)) : Int) = (wrong : Int) + 1 from rfl] at v0 hg ⊢
            clear hv e hcy hq hti2 hti
            gi_wp2
            refine tries_step (v := ⟨(n : Int) - ((wrong : Int) + 1), 5, vo⟩) (wrong := wrong + 1) hTf.out hr9.out hr12.out ((((Kept.refl _ W).setCell ⟨B2 + 1, 0, none⟩ (.inl (show B2 < B2 + 1 ∧ B2 + 1 ≤ B2 + 4 by omega)) _).three (b := B2 + 1 + 1 + 1 + 1) (.inl (by omega)) _ _ _).setCell ⟨B2 + 1 + 1 + 1, 0, none⟩ (.inl (show B2 < B2 + 1 + 1 + 1 ∧ B2 + 1 + 1 + 1 ≤ B2 + 4 by omega)) _)
              (fun k h1 h2 => by have := hdis.out k h1 h2; rwa [hsz] at this) h12 h9l (lastO_snoc _ _ _) (hL1.out _) hti3.out ?_ ?_ ?_ ?_
            · exact (((x1.out.set 0 _).eqA rfl).three_other (by omega) _ _ _).other ⟨B2 + 1 + 1 + 1, 0, none⟩ _ (show B2 + 1 ≠ B2 + 1 + 1 + 1 by omega)
            · exact ((x2.out.other ⟨B2 + 1, 0, none⟩ _ (show B2 + 1 + 1 ≠ B2 + 1 by omega)).three_other (by omega) _ _ _).other ⟨B2 + 1 + 1 + 1, 0, none⟩ _ (show B2 + 1 + 1 ≠ B2 + 1 + 1 + 1 by omega)
            · exact (((x3.out.other ⟨B2 + 1, 0, none⟩ _ (show B2 + 1 + 1 + 1 ≠ B2 + 1 by omega)).three_other (by omega) _ _ _).set 0 _).eqA rfl
            · exact ((x4.out.other ⟨B2 + 1, 0, none⟩ _ (show B2 + 1 + 1 + 1 + 1 ≠ B2 + 1 by omega)).three _ _ _).other ⟨B2 + 1 + 1 + 1, 0, none⟩ _ (show B2 + 1 + 1 + 1 + 1 ≠ B2 + 1 + 1 + 1 by omega)
        · have e := hti.over hov (decide (code = y))
          rw [e] at hv
          obtain ⟨rfl, rfl, rfl⟩ := OSt.mk.inj hv
          have hne0 : (vo != 0) = true := by rw [bne_iff_ne]; exact hov
          have t1 : vt = (n : Int) - (wrong : Int) := hti.tries
          have t2 : decide ((n : Int) < (wrong : Int)) = false := decide_eq_false (by have := hti.le; omega)
          have t3 : ¬ n < wrong := by have := hti.le; omega
          have t4 := hti.le
          have e1 := hti.b1
          have e2 := hti.b2
          obtain ⟨b2, hb2⟩ : ∃ b, ((wrong : Int) == (n : Int)) = b := ⟨_, rfl⟩
          rw [hb2] at e2
          dsimp only at e1 e2
          replace hti := hid hti
          clear hv e
          gi_wp2
          refine tries_step (v := ⟨(n : Int) - (wrong : Int), vd, vo⟩) hTf.out hr9.out hr12.out (((Kept.refl _ W).three (b := B2 + 1 + 1 + 1 + 1) (.inl (by omega)) _ _ _).setCell ⟨B2 + 1 + 1 + 1, 0, none⟩ (.inl (show B2 < B2 + 1 + 1 + 1 ∧ B2 + 1 + 1 + 1 ≤ B2 + 4 by omega)) _)
            (fun k h1 h2 => by have := hdis.out k h1 h2; rwa [hsz] at this) h12 h9l (lastO_snoc _ _ _) (hL1.out _) (by have h := hti.out; rw [t1] at h; exact h) ?_ ?_ ?_ ?_
          · exact (x1.out.three_other (by omega) _ _ _).other ⟨B2 + 1 + 1 + 1, 0, none⟩ _ (show B2 + 1 ≠ B2 + 1 + 1 + 1 by omega)
          · exact (x2.out.three_other (by omega) _ _ _).other ⟨B2 + 1 + 1 + 1, 0, none⟩ _ (show B2 + 1 + 1 ≠ B2 + 1 + 1 + 1 by omega)
          · exact ((x3.out.three_other (by omega) _ _ _).set 0 _).eqA rfl
          · exact (x4.out.three _ _ _).other ⟨B2 + 1 + 1 + 1, 0, none⟩ _ (show B2 + 1 + 1 + 1 + 1 ≠ B2 + 1 + 1 + 1 by omega)
      case done =>
        intro W hsW hT hd
        have q5 : ∀ o, (W.alloc o).cell? ⟨w.heap.size, 0, none⟩ = some (.string code) := fun o => (hT.four.r5.alloc o).cell rfl
        have q6 : ∀ o, (W.alloc o).cell? ⟨w.heap.size + 1, 0, none⟩ = some (.slice a i cap) := fun o => (hT.four.r6.alloc o).cell rfl
        obtain ⟨q12, q13, q14⟩ := OSt.readA hT.r12
        have hTf := hid hT.four
        obtain ⟨wrong, right, hti, x1, x2, x3, x4⟩ := hT.rest
        rw [runO_len, hlen] at x3
        have hr12 := hid hT.r12
        clear x1 x2 x4 hti hT
        replace x3 := hid x3
        gi_wp2_with (refine ⟨trivial, rfl, ?_⟩; gi_at_call 41; refine (callsIn_wide.2 (run_make ⟨(n : Int), 5, 0⟩ code a i cap _)).mono ?_; rintro e w' ⟨rfl, rfl⟩)
        obtain ⟨st, rfl⟩ : ∃ st : Nat, stop = (st : Int) := ⟨stop.toNat, by omega⟩
        have hWs : B2 + 8 + 2 ≤ W.heap.size := by omega
        obtain ⟨C, hC⟩ : ∃ C, C = W.heap.size := ⟨_, rfl⟩
        generalize hY0 : World.alloc _ (Obj.cells #[Value.slice a i cap] 59) = Y0
        have hsY : Y0.heap.size = C + 4 := by rw [← hY0, hC]; simp
        have hbY : Below W.heap.size W Y0 := by rw [← hY0]; exact below_al (below_al (below_al (below_al (Below.refl _ _) _) _) _) _
        have hT2 : CutAt w code a i cap st B2 C (B2 + 8) 0 Y0 :=
          ⟨hTf.out.below hbY, x3.out.below hbY x3.out.lt, by rw [← hY0, hC]; exact (((RowAt.new W _ _).alloc _).alloc _).alloc _, (hbY.block _ (by omega)).trans (by rw [← hsz]; exact hd)⟩
        have rs : RowAt Y0 (C + 1) 47 #[.int .i64 (n : Int), .int .u64 ((5 : Nat) : Int), .int .i64 0] := by rw [← hY0, hC]; exact ((RowAt.newAt _ _ _ _ (by simp)).alloc _).alloc _
        have rc : RowAt Y0 (C + 1 + 1) 9 #[.string code] := by rw [← hY0, hC]; exact (RowAt.newAt _ _ _ _ (by simp)).alloc _
        have rl : RowAt Y0 (C + 1 + 1 + 1) 59 #[.slice a i cap] := by rw [← hY0, hC]; exact RowAt.newAt _ _ _ _ (by simp)
        have hit2 := hid (run_on ⟨(n : Int), 5, 0⟩ code ss hInv (by omega) (fun y hy => by have := hss0.out y hy; omega) (by omega) a i cap _ _ _ Y0 rs rl rc (hin.out.below hT2.four.bel))
        have hD2 : ∀ k, keepO Y0 (C + 1 + 1) a ss k → k = Y0.heap.size + 2 ∨ k = C + 2 ∨ k < w.heap.size := fun k hk => by
          rcases hk with h | h | ⟨x, h1, h2, h3⟩
          · exact .inl h
          · exact .inr (.inl h)
          · exact .inr (.inr (by rw [h2]; exact hxb x h1 h3))
        have hwC : w.heap.size + 3 < C := by omega
        have hBC : B2 + 3 < C := by omega
        have hEC : B2 + 8 < C := by omega
        simp only [← hC]
        replace hd := hid hd
        replace hit := hid hit
        replace hD := hid hD
        replace hDn := hid hDn
        replace hT0 := hid hT0
        clear hC hY0 rs rc rl q5 q6 q12 q13 q14 hTf hr12 x3 hbY hin0
        refine wp_iter_put_at (c₀ := 1) (gf := 67) (lb := #[.pointer (some ⟨C + 1, 0, none⟩), .pointer (some ⟨C + 1 + 1 + 1, 0, none⟩), .pointer (some ⟨C + 1 + 1, 0, none⟩)]) rfl (enters_of Tryd.func67 (by kernel_rfl) rfl) hit2.out
          (fun k hk => by omega) (fun k hk => by rcases hD2 k hk with h | h | h <;> omega) (fun _ => rfl) (fun x => [])
          (fun pre X => pre.length ≤ st ∧ CutAt w code a i cap st B2 C (B2 + 8) pre.length X) (fun c pre X => c = .exit 4 ∧ pre.length = st + 1 ∧ CutAt w code a i cap st B2 C (B2 + 8) pre.length X) ?hI2 ?hIx2 ⟨Nat.zero_le _, hT2⟩ ?assign2 ?body2 ?done2 ?stop2
        case hI2 =>
          rintro pre X Z ⟨h, h'⟩ hk
          exact ⟨h, h'.kept hk (fun k hk => by rcases hk with h | h | h <;> omega) hwC hBC hEC⟩
        case hIx2 =>
          rintro c pre X Z ⟨h0, h, h'⟩ hk
          exact ⟨h0, h, h'.kept hk (fun k hk => by rcases hk with h | h | h <;> omega) hwC hBC hEC⟩
        case assign2 =>
          intro l x X K hK
          gi_wp2
          simpa [encR, putAll] using hK
        case body2 =>
          rintro pre ⟨y, ⟨vt, vd, vo⟩⟩ post X hx hsX hr ⟨hL, hcut⟩
          obtain ⟨L, hLL⟩ : ∃ L, L = pre.length := ⟨_, rfl⟩
          have hL1 := hid (show (pre ++ [(y, (⟨vt, vd, vo⟩ : OSt))]).length = L + 1 by rw [List.length_append, hLL]; rfl)
          rw [← hLL] at hL hcut
          have c20 : X.cell? ⟨C, 0, none⟩ = some (.int .i64 (L : Int)) := hcut.r20.cell rfl
          have f20 := hcut.r20.free 0
          have c7 : (X.setCell ⟨C, 0, none⟩ (.int .i64 ((L : Int) + 1))).cell? ⟨w.heap.size + 1 + 1, 0, none⟩ = some (.int .u8 (st : Int)) := (hcut.four.r7.other ⟨C, 0, none⟩ _ (show w.heap.size + 1 + 1 ≠ C by omega)).cell rfl
          have hk := (Kept.refl (fun k => k = C) X).setCell ⟨C, 0, none⟩ (.inl rfl) (.int .i64 ((L : Int) + 1))
          have hk2 := hid (hk.mono (T := fun k => ¬ (twoOf Y0.heap.size k ∨ keepO Y0 (C + 1 + 1) a ss k)) (fun k _ e h => by
            subst e
            rcases h with h | h
            · rcases h with h | h <;> omega
            · rcases hD2 k h with h | h | h <;> omega))
          have hcut2 : CutAt w code a i cap st B2 C (B2 + 8) (L + 1) (X.setCell ⟨C, 0, none⟩ (.int .i64 ((L : Int) + 1))) :=
            ⟨hcut.four.kept hk (fun k e => by omega), hcut.r16.other ⟨C, 0, none⟩ _ (show B2 + 1 + 1 + 1 ≠ C by omega), (hcut.r20.set 0 _).eqA rfl, (hk.block _ (by have := hcut.r20.lt; omega) (fun e => by omega)).trans hcut.dd⟩
          replace hcut := hid hcut
          replace hcut2 := hid hcut2
          simp only [encR, putAll, List.zip_toArray, List.foldl_toArray', List.foldl_toArray, List.zip_cons_cons, List.zip_nil_left, List.foldl_cons, List.foldl_nil, List.setIfInBounds_toArray, List.set_cons_zero, List.set_cons_succ]
          clear hx hr hk hit2 hLL
          by_cases hst : (st : Int) < (L : Int) + 1
          · have hstb : decide ((st : Int) < (L : Int) + 1) = true := decide_eq_true hst
            gi_wp2
            exact ⟨hk2.out, rfl, by rw [hL1.out]; omega, by rw [hL1.out]; exact hcut2.out⟩
          · have hstb : decide ((st : Int) < (L : Int) + 1) = false := decide_eq_false hst
            gi_wp2
            exact ⟨by have h := hk2.out; rwa [hsY] at h, by rw [hL1.out]; omega, by rw [hL1.out]; exact hcut2.out⟩
        case done2 =>
          rintro X hsX ⟨hL, hcut⟩ hd2
          rw [runO_len, hlen] at hL hcut
          obtain ⟨Lc, hLc, hcut⟩ : ∃ m, m = i ∧ CutAt w code a i cap st B2 C (B2 + 8) m X := ⟨_, rfl, hcut⟩
          have hmin : min (i : Int) ((st : Int) + 1) = (Lc : Int) := by omega
          clear hLc
          have c16 : X.cell? ⟨B2 + 1 + 1 + 1, 0, none⟩ = some (.int .i64 (i : Int)) := hcut.r16.cell rfl
          have c20 : X.cell? ⟨C, 0, none⟩ = some (.int .i64 (Lc : Int)) := hcut.r20.cell rfl
          have c6 : X.cell? ⟨w.heap.size + 1, 0, none⟩ = some (.slice a i cap) := hcut.four.r6.cell rfl
          have c7 : X.cell? ⟨w.heap.size + 1 + 1, 0, none⟩ = some (.int .u8 (st : Int)) := hcut.four.r7.cell rfl
          have c8 : X.cell? ⟨w.heap.size + 1 + 1 + 1, 0, none⟩ = some (.bool false) := hcut.four.r8.cell rfl
          have f8 := hcut.four.r8.free 0
          have hmn := fun ts t w => run_mn2 (P := Tryd.prog) ts t .i64 (i : Int) ((st : Int) + 1) w
          rw [hmin] at hmn
          have e1 := (heap_setCell_other X ⟨w.heap.size + 1 + 1 + 1, 0, none⟩ (B2 + 8) (.bool true) (show B2 + 8 ≠ w.heap.size + 1 + 1 + 1 by omega)).trans hcut.dd
          have e2 := (heap_setCell_other X ⟨w.heap.size + 1 + 1 + 1, 0, none⟩ Y0.heap.size (.bool true) (show Y0.heap.size ≠ w.heap.size + 1 + 1 + 1 by omega)).trans hd2
          have r8 := hid ((((hcut.four.r8.set 0 (.bool true)).eqA (A' := #[.bool true]) rfl).putObj Y0.heap.size (.deferred none) (by omega)).putObj (B2 + 8) (.deferred none) (by omega))
          have hbF := hid (below_kept (hcut.four.bel.setCell (p := ⟨w.heap.size + 1 + 1 + 1, 0, none⟩) (show w.heap.size ≤ w.heap.size + 1 + 1 + 1 by omega) (.bool true)) (((Kept.refl (fun k => k = Y0.heap.size ∨ k = B2 + 8) _).putObj Y0.heap.size (.deferred none) (.inl (.inl rfl))).putObj (B2 + 8) (.deferred none) (.inl (.inr rfl))) (Nat.le_refl _) (fun k hk => by omega))
          replace e1 := hid e1
          replace e2 := hid e2
          replace hcut := hid hcut
          replace hd2 := hid hd2
          clear hmin hit2
          gi_wp2
          exact leave_two e1.out e2.out (by omega) ⟨_, results_box rfl _ _ (w.heap.size + 1 + 1 + 1) (.bool true) rfl (r8.out.cell rfl) Tryd.underlying4, rfl, hbF.out⟩
        case stop2 =>
          rintro c pre x post X hsX hx ⟨rfl, hL, hcut⟩ hd2
          have hle : st + 1 ≤ i := by
            have h1 := runO_len code ss ⟨(n : Int), 5, 0⟩
            rw [hx] at h1
            simp at h1 hL
            omega
          rw [hL] at hcut
          obtain ⟨Lc, hLc⟩ : ∃ m, m = st + 1 := ⟨_, rfl⟩
          rw [← hLc] at hcut
          have hmin : min (i : Int) ((st : Int) + 1) = (Lc : Int) := by omega
          clear hLc hL
          have c16 : X.cell? ⟨B2 + 1 + 1 + 1, 0, none⟩ = some (.int .i64 (i : Int)) := hcut.r16.cell rfl
          have c20 : X.cell? ⟨C, 0, none⟩ = some (.int .i64 (Lc : Int)) := hcut.r20.cell rfl
          have c6 : X.cell? ⟨w.heap.size + 1, 0, none⟩ = some (.slice a i cap) := hcut.four.r6.cell rfl
          have c7 : X.cell? ⟨w.heap.size + 1 + 1, 0, none⟩ = some (.int .u8 (st : Int)) := hcut.four.r7.cell rfl
          have c8 : X.cell? ⟨w.heap.size + 1 + 1 + 1, 0, none⟩ = some (.bool false) := hcut.four.r8.cell rfl
          have f8 := hcut.four.r8.free 0
          have hmn := fun ts t w => run_mn2 (P := Tryd.prog) ts t .i64 (i : Int) ((st : Int) + 1) w
          rw [hmin] at hmn
          have e1 := (heap_setCell_other X ⟨w.heap.size + 1 + 1 + 1, 0, none⟩ (B2 + 8) (.bool true) (show B2 + 8 ≠ w.heap.size + 1 + 1 + 1 by omega)).trans hcut.dd
          have e2 := (heap_setCell_other X ⟨w.heap.size + 1 + 1 + 1, 0, none⟩ Y0.heap.size (.bool true) (show Y0.heap.size ≠ w.heap.size + 1 + 1 + 1 by omega)).trans hd2
          have r8 := hid ((((hcut.four.r8.set 0 (.bool true)).eqA (A' := #[.bool true]) rfl).putObj Y0.heap.size (.deferred none) (by omega)).putObj (B2 + 8) (.deferred none) (by omega))
          have hbF := hid (below_kept (hcut.four.bel.setCell (p := ⟨w.heap.size + 1 + 1 + 1, 0, none⟩) (show w.heap.size ≤ w.heap.size + 1 + 1 + 1 by omega) (.bool true)) (((Kept.refl (fun k => k = Y0.heap.size ∨ k = B2 + 8) _).putObj Y0.heap.size (.deferred none) (.inl (.inl rfl))).putObj (B2 + 8) (.deferred none) (.inl (.inr rfl))) (Nat.le_refl _) (fun k hk => by omega))
          replace e1 := hid e1
          replace e2 := hid e2
          replace hcut := hid hcut
          replace hd2 := hid hd2
          clear hmin hit2
          gi_wp2
          exact leave_two e1.out e2.out (by omega) ⟨_, results_box rfl _ _ (w.heap.size + 1 + 1 + 1) (.bool true) rfl (r8.out.cell rfl) Tryd.underlying4, rfl, hbF.out⟩

theorem otpTries_walk (a0 : Int) (a1 : ByteArray) (a : Option Addr) (len cap : Nat) (ss : List ByteArray) (a3 : Int) (w : World) (w0 : (Lit.int .u8 a0).wf = true) (w1 : a1.size ≤ 140737488351232) (hin : IsStrs w a len ss) (w3 : (Lit.int .u8 a3).wf = true) :
    Calls Tryd.prog 10 #[.int .u8 a0, .string a1, .slice a len cap, .int .u8 a3] w fun e w' => e = .returned (.bool true) ∧ Below w.heap.size w w' := by
  refine (callsIn_wide (n := 0)).1 ?_
  obtain ⟨b0, b1⟩ := bounds_u8 w0
  obtain ⟨b2, b3⟩ := bounds_u8 w3
  by_cases h : len ≤ 30
  · by_cases h2 : a1.size ≤ 60
    · exact tries_main a0 a1 a len cap ss a3 b0 b1 b2 b3 h h2 w hin
    · exact tries_big a0 a1 a len cap a3 (.inr ⟨decide_eq_false (by omega), decide_eq_true (by omega)⟩) w
  · exact tries_big a0 a1 a len cap a3 (.inl (decide_eq_true (by omega))) w
end Go.Proofs.YtbbjoahloghpkaaDoor
