/- Bytes out of a text: a row whose frozen stretch lies behind its end (what a conversion leaves), stored into and appended to. Over whatever program. -/
import Derived.Test.YtbbjoahloghpkaaDoorKit
import Derived.Lib.ConvBytes
import Derived.Maps.AppendAt
import Derived.OwnWalk
namespace Go.Proofs.YtbbjoahloghpkaaDoor
open Go Go.RowKit

/-- A row of cells, none of them frozen. -/
def RowE (w : World) (b : Nat) (t : TypeId) (A : Array Value) : Prop := ∃ lo hi, w.heap[b]? = some (.cells A t (lo, hi)) ∧ (hi = 0 ∨ A.size ≤ lo)
theorem RowAt.rowE {w : World} {b : Nat} {t : TypeId} {A : Array Value} (h : RowAt w b t A) : RowE w b t A := ⟨0, 0, h, .inl rfl⟩
theorem RowE.lt {w : World} {b : Nat} {t : TypeId} {A : Array Value} (h : RowE w b t A) : b < w.heap.size := by obtain ⟨_, _, h, _⟩ := h; exact (Array.getElem?_eq_some_iff.1 h).1
theorem RowE.cell {w : World} {b : Nat} {t : TypeId} {A : Array Value} (h : RowE w b t A) {j : Nat} {v : Value} (hv : A[j]? = some v) : w.cell? ⟨b, j, none⟩ = some v := by
  obtain ⟨lo, hi, h, _⟩ := h
  rw [cell_of_row w b j A t (lo, hi) h]; exact hv
theorem RowE.free {w : World} {b : Nat} {t : TypeId} {A : Array Value} (h : RowE w b t A) {j : Nat} (hj : j < A.size) : w.frozen? ⟨b, j, none⟩ = false := by
  obtain ⟨lo, hi, h, hlo⟩ := h
  simp only [World.frozen?, h, Bool.and_eq_false_iff, decide_eq_false_iff_not]
  rcases hlo with rfl | hlo
  · right; omega
  · left; omega
theorem RowE.set {w : World} {b : Nat} {t : TypeId} {A : Array Value} (h : RowE w b t A) (j : Nat) (v : Value) : RowE (w.setCell ⟨b, j, none⟩ v) b t (A.setIfInBounds j v) := by
  obtain ⟨lo, hi, h, hlo⟩ := h
  refine ⟨lo, hi, ?_, by rw [Array.size_setIfInBounds]; exact hlo⟩
  rw [setCell_eq_setRow w b j A t (lo, hi) v h]
  exact setRow_heap w b A _ t (lo, hi) h
theorem RowE.other {w : World} {b : Nat} {t : TypeId} {A : Array Value} (h : RowE w b t A) (a : Addr) (v : Value) (hb : b ≠ a.block) : RowE (w.setCell a v) b t A := by
  obtain ⟨lo, hi, h, hlo⟩ := h; exact ⟨lo, hi, (heap_setCell_other w a b v hb).trans h, hlo⟩
theorem RowE.alloc {w : World} {b : Nat} {t : TypeId} {A : Array Value} (h : RowE w b t A) (o : Obj) : RowE (w.alloc o) b t A := by
  have hlt := h.lt
  obtain ⟨lo, hi, h, hlo⟩ := h; exact ⟨lo, hi, (Below.heap_alloc w o b hlt).trans h, hlo⟩
theorem RowE.below {w w' : World} {b : Nat} {t : TypeId} {A : Array Value} {B : Nat} (h : RowE w b t A) (hb : Below B w w') (hB : b < B) : RowE w' b t A := by
  obtain ⟨lo, hi, h, hlo⟩ := h; exact ⟨lo, hi, (hb.block b hB).trans h, hlo⟩
theorem RowE.eqA {w : World} {b : Nat} {t : TypeId} {A A' : Array Value} (h : RowE w b t A) (e : A = A') : RowE w b t A' := e ▸ h
theorem RowE.grown {w w' : World} {b : Nat} {t : TypeId} {A : Array Value} {row : Option Nat} (h : RowE w b t A) (hg : w.grownBy w' row) (hne : some b ≠ row) : RowE w' b t A := by
  have hlt := h.lt
  obtain ⟨lo, hi, h, hlo⟩ := h; exact ⟨lo, hi, (hg.block b hlt hne).trans h, hlo⟩

/-- A slice of bytes of the call's own. -/
structure BytesE (w : World) (e : TypeId) (base : Nat) (v : Value) (l : List UInt8) : Prop where
  is : ∃ g cap A, v = .slice (some ⟨g, 0, none⟩) l.length cap ∧ base ≤ g ∧ RowE w g e A ∧ l.length ≤ cap ∧ cap ≤ maxLen ∧ A.size = cap ∧ A.toList.take l.length = Lib.byteCells l

theorem BytesE.below {w w' : World} {e : TypeId} {base : Nat} {v : Value} {l : List UInt8} (h : BytesE w e base v l) (hb : Below w.heap.size w w') : BytesE w' e base v l := by
  obtain ⟨g, cap, A, h1, h2, h3, h4⟩ := h.is
  exact ⟨g, cap, A, h1, h2, h3.below hb h3.lt, h4⟩
theorem BytesE.alloc {w : World} {e : TypeId} {base : Nat} {v : Value} {l : List UInt8} (h : BytesE w e base v l) (o : Obj) : BytesE (w.alloc o) e base v l := h.below (below_al (Below.refl _ _) _)
/-- '[]byte(s)'. -/
theorem bytesE_of {P : Program} (w : World) (src dst e : TypeId) (s : ByteArray) {u : TypeDesc} (hs : P.underlying src = some u) (hd : P.underlying dst = some (.slice e)) (he : P.underlying e = some (.int .u8)) (hm : s.size ≤ maxLen) :
    ∃ v w', (convert src dst (.string s)).run P w = .ok v w' ∧ BytesE w' e w.heap.size v s.data.toList ∧ Below w.heap.size w w' := by
  refine ⟨_, _, Lib.run_convert_string_bytes w src dst e s hs hd he, ⟨⟨w.heap.size, grownCap w s.size 0 e, Lib.bytesCells w e s, by simp, Nat.le_refl _, ⟨_, _, Lib.bytesWorld_at_new w e s, .inr (Nat.le_refl _)⟩, ?_, grownCap_le_maxLen w s.size 0 e hm, ?_, ?_⟩⟩, ?_⟩
  · have := grownCap_ge w s.size 0 e; simpa using this
  · have := grownCap_ge w s.size 0 e
    have h2 : s.data.size = s.size := rfl
    simp [Lib.bytesCells, h2]; omega
  · simp [Lib.bytesCells, Lib.byteCells]
  · refine ⟨rfl, rfl, rfl, by rw [Lib.bytesWorld_size]; omega, fun k hk => Lib.bytesWorld_at_old w e s k hk⟩
/-- A byte is appended. -/
theorem run_append_e {P : Program} (w : World) (t ty e : TypeId) (i : TypeInfo) (ht : P.underlying t = some (.slice e)) (hi : P.info? e = some i) (hz : i.zero = some (.int .u8 0)) (hsz : i.size = 1) (hby : i.bytes = 1)
    (base : Nat) (v : Value) (l : List UInt8) (hown : BytesE w e base v l) (ad : Addr) (c : Nat) (b : UInt8) (hb : w.cell? ad = some (.int .u8 (b.toNat : Nat))) (hl : l.length ≤ 1099511627776) (hbase : base ≤ w.heap.size) :
    ∃ v' w', (Builtin.append_ #[t, t] ty #[v, .slice (some ad) 1 c]).run P w = .ok v' w' ∧ BytesE w' e base v' (l ++ [b]) ∧ w.grownBy w' v.ownBlock := by
  obtain ⟨g, cap, A, rfl, hbg, hr, hlc, hcm, hA, htk⟩ := hown.is
  have hnews : ∀ j u, [Value.int .u8 (b.toNat : Nat)][j]? = some u → w.cell? (ad.add j) = some u := by
    intro j u hu
    cases j with
    | zero =>
      have : ad.add 0 = ad := by unfold Addr.add; split <;> simp_all
      rw [this, hb]; simpa using hu
    | succ j => simp at hu
  by_cases hroom : l.length + 1 ≤ cap
  · have hlt : l.length < A.size := by omega
    obtain ⟨x, hx⟩ : ∃ x, A[l.length]? = some x := ⟨A[l.length], by simp [hlt]⟩
    have hc := hr.cell hx
    have hf := hr.free hlt
    have hfc := run_firstCells_some (P := P) w i.size 1 ad 1 c [Value.int .u8 (b.toNat : Nat)] (by simp [hsz]) hnews
    have hst := run_store P w ⟨g, l.length, none⟩ (.int .u8 (b.toNat : Nat)) .plain rfl
    rw [hc] at hst
    simp only [hf] at hst
    refine ⟨.slice (some ⟨g, 0, none⟩) (l.length + 1) cap, w.setCell ⟨g, l.length, none⟩ (.int .u8 (b.toNat : Nat)), ?_, ⟨⟨g, cap, A.setIfInBounds l.length (.int .u8 (b.toNat : Nat)), by simp, hbg, hr.set _ _, by simpa using hroom, hcm, by simpa using hA, ?_⟩⟩, ?_⟩
    · rw [hsz] at hfc
      have hadd : ∀ k, (⟨g, k, none⟩ : Addr).add 0 = ⟨g, k, none⟩ := fun k => by unfold Addr.add; split <;> simp_all
      simp [Builtin.append_, run_underlying ht, sizeOf, typeInfo, hi, hsz, Builtin.lenOf, hroom, hfc, Addr.add_lit, storeCells, hadd, hst]
    · rw [List.length_append, List.length_singleton, Array.toList_setIfInBounds, List.take_add_one]
      have h1 : (A.toList.set l.length (.int .u8 (b.toNat : Nat)))[l.length]? = some (.int .u8 (b.toNat : Nat)) := by
        rw [List.getElem?_set_self (by simpa using hlt)]
      rw [h1, List.take_set_of_le (Nat.le_refl _), htk]
      simp [Lib.byteCells]
    · refine ⟨rfl, rfl, rfl, by simp, fun k _ hk => ?_⟩
      exact heap_setCell_other w _ k _ (fun e => hk (by simp [Value.ownBlock, e]))
  · have holds : ∀ j u, (Lib.byteCells l)[j]? = some u → w.cell? ((⟨g, 0, none⟩ : Addr).add j) = some u := by
      intro j u hu
      have hadd : (⟨g, 0, none⟩ : Addr).add j = ⟨g, j, none⟩ := by unfold Addr.add; split <;> simp_all
      rw [hadd]
      refine hr.cell ?_
      rw [← htk, List.getElem?_take] at hu
      split at hu
      · simpa using hu
      · cases hu
    have hlo : (Lib.byteCells l).length = l.length * i.size := by rw [hsz]; simp [Lib.byteCells]
    have hrun := run_append_grow (P := P) w t ty e i _ ht hi hz ⟨g, 0, none⟩ l.length cap (Lib.byteCells l) hlo holds ad 1 c [Value.int .u8 (b.toNat : Nat)] (by simp [hsz]) hnews (by omega) (by omega)
      (growslice_fits (by omega) (by rw [hby]; omega))
    have hge := grownCap_ge w (l.length + 1) cap e
    refine ⟨_, _, hrun, ⟨⟨w.heap.size, grownCap w (l.length + 1) cap e, _, by simp, hbase, (RowAt.new w.drew _ e).rowE, by simpa using hge, grownCap_le_maxLen w _ _ e (by unfold maxLen; omega), ?_, ?_⟩⟩, ⟨rfl, rfl, rfl, by simp, fun k hk _ => Below.heap_alloc w.drew _ k hk⟩⟩
    · simp [size_zeroCells, Lib.byteCells, Value.cells]; omega
    · generalize Builtin.zeroCells _ _ = Z
      have e1 : ((Lib.byteCells l).toArray ++ [Value.int .u8 (b.toNat : Nat)].toArray ++ Z).toList = Lib.byteCells (l ++ [b]) ++ Z.toList := by simp [Lib.byteCells]
      rw [e1]
      exact List.take_left' (by simp [Lib.byteCells])
theorem wpList_append_e {P : Program} {ops : Array Oper} {rest : List Oper} {o : Oper} {a : Act} {w : World} {Q : Exit → Act → World → Prop} (hgd : o.guard = none) (s x : Operand) (t e : TypeId) (ho : o.op = .call { callee := .builtin .append, args := #[s, x], argTypes := #[t, t] })
    (i : TypeInfo) (ht : P.underlying t = some (.slice e)) (hi : P.info? e = some i) (hz : i.zero = some (.int .u8 0)) (hsz : i.size = 1) (hby : i.bytes = 1)
    (base : Nat) (v : Value) (l : List UInt8) (hs : a.eval s = v) (hown : BytesE w e base v l) (ad : Addr) (c : Nat) (b : UInt8) (hx : a.eval x = .slice (some ad) 1 c) (hb : w.cell? ad = some (.int .u8 (b.toNat : Nat))) (hl : l.length ≤ 1099511627776) (hbase : base ≤ w.heap.size)
    (h : ∀ v' w', BytesE w' e base v' (l ++ [b]) → w.grownBy w' v.ownBlock → wpList P ops Q rest (a.put o.dst v') w') : wpList P ops Q (o :: rest) a w := by
  refine wpList_plain hgd fun K hK => ?_
  obtain ⟨v', w', hr, h2, h3⟩ := run_append_e (P := P) w t o.type e i ht hi hz hsz hby base v l hown ad c b hb hl hbase
  unfold Oper.wp execOp
  simp only [ho, resolve, invoke, builtin, Sem.run_bind, Sem.run_pure, Result.andThen_ok, List.map_toArray, List.map_cons, List.map_nil, hs, hx, hr]
  exact hK _ _ (h v' w' h2 h3)
/-- 'string(b)'. -/
theorem BytesE.string {P : Program} {w : World} {e : TypeId} {base : Nat} {v : Value} {l : List UInt8} (h : BytesE w e base v l) (src dst : TypeId) (hs : P.underlying src = some (.slice e)) (he : P.underlying e = some (.int .u8)) (hd : P.underlying dst = some .string) :
    (convert src dst v).run P w = .ok (.string ⟨l.toArray⟩) w := by
  obtain ⟨g, cap, A, rfl, _, hr, _, _, _, htk⟩ := h.is
  have := run_convert_bytes_arg (P := P) w src e hs he g 0 l.length cap (l.map fun b => ((b.toNat : Nat) : Int)) (by simp) (fun i hi => by
    rw [Nat.zero_add]
    refine hr.cell ?_
    have h1 : (A.toList.take l.length)[i]? = some (.int .u8 (l[i].toNat : Nat)) := by rw [htk]; simp [Lib.byteCells, hi]
    rw [List.getElem?_take, if_pos hi] at h1
    simp at h1
    rw [h1]; simp [hi]) dst hd
  rw [this]
  unfold strOfNums
  rw [List.map_map]
  have e : l.map ((fun n : Int => UInt8.ofNat n.toNat) ∘ fun b : UInt8 => ((b.toNat : Nat) : Int)) = l := by
    conv => rhs; rw [← List.map_id l]
    exact List.map_congr_left fun b _ => by simp
  rw [e]
theorem BytesE.shape {w : World} {e : TypeId} {base : Nat} {v : Value} {l : List UInt8} (h : BytesE w e base v l) : ∃ g c, v = .slice (some ⟨g, 0, none⟩) l.length c ∧ base ≤ g := by
  obtain ⟨g, c, A, h1, h2, _⟩ := h.is; exact ⟨g, c, h1, h2⟩
theorem below_grown' {a w w' : World} {row : Option Nat} (h : Below a.heap.size a w) (hg : w.grownBy w' row) (hr : ∀ k, row = some k → a.heap.size ≤ k) : Below a.heap.size a w' :=
  h.trans ⟨hg.os, hg.tape, hg.output, hg.size, fun k hk => hg.block k (by have := h.size; omega) (fun e => by have := hr k e.symm; omega)⟩
end Go.Proofs.YtbbjoahloghpkaaDoor
