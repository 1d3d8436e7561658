/- In a quiet walk over a region that draws: a whole row is loaded. Over whatever program. 'go_big_quiet_want; refine quiet_load T (.tmp k) rfl rfl q ?_; quiet_put; go_big_quiet_on' (q: the load's run in each world of the class). -/
import Derived.Test.YtdjlpmelmhhooaaDoorLibA
import Derived.Deep.QuietTactic
import Derived.Deep.MidRow
import Derived.BigQuiet
import Derived.BigFrame
namespace Go.Proofs.YtdjlpmelmhhooaaDoor
open Go Go.RowKit
theorem quiet_load {P : Program} {w0 : World} {o : Oper} {a : Act} {K : Act → Prop} {v p : Value} (ty : TypeId) (x : Operand) (ho : o.op = .load ty x) (hx : a.eval x = p)
    (hr : ∀ q : Sub w0, (Instr.loadAt ty p).run P q.x = .ok v q.x) (hk : K (a.put o.dst v)) : o.quiet P a (fun w' => ∃ q : Sub w0, w' = q.x) K :=
  ⟨v, fun w ⟨q, hq⟩ => by
    subst hq
    unfold Oper.quietAt execOp
    rw [ho]
    simp only [hx, Sem.run_bind, hr q, Result.andThen_ok, Sem.run_pure]
    exact ⟨rfl, rfl⟩, hk⟩
theorem loadAt_row {P : Program} {W : World} {b : Nat} {t : TypeId} {A : Array Value} (r : RowAt W b t A) (ty : TypeId) (d : TypeDesc) (hu : P.underlying ty = some d) (hd : d.isRow = true) (hi : (P.info? ty).map (·.size) = some A.size) :
    (Instr.loadAt ty (.pointer (some ⟨b, 0, none⟩))).run P W = .ok (.agg A) W := by
  have := run_loadAt_mid (P := P) W b 0 ty A.toList d (fun j v hj => by rw [Nat.zero_add]; exact r.cell (by rw [Array.getElem?_toList] at hj; exact hj)) hu hd (by rw [hi, Array.length_toList])
  simpa using this
theorem wpList_load_rowG {P : Program} {ops : Array Oper} {rest : List Oper} {o : Oper} {a : Act} {w : World} {Q : Exit → Act → World → Prop} (hw : Region.wanted o (yielded ops a.tmps) = true) (ty : TypeId) (x : Operand) (ho : o.op = .load ty x)
    (b : Nat) (hx : a.eval x = .pointer (some ⟨b, 0, none⟩)) (t : TypeId) (A : Array Value) (d : TypeDesc) (r : RowAt w b t A) (hu : P.underlying ty = some d) (hd : d.isRow = true) (hi : (P.info? ty).map (·.size) = some A.size)
    (h : wpList P ops Q rest (a.put o.dst (.agg A)) w) : wpList P ops Q (o :: rest) a w :=
  BigFrame.wpList_want hw fun _ hK => by
    have := wp_load_mid (P := P) (K := _) (Q := Q) (op := o) (a := a) (w := w) ty x ho b 0 hx A.toList d (fun j v hj => by rw [Nat.zero_add]; exact r.cell (by rw [Array.getElem?_toList] at hj; exact hj)) hu hd (by rw [hi, Array.length_toList]) (hK _ _ (by simpa using h))
    exact this
end Go.Proofs.YtdjlpmelmhhooaaDoor
