/- The alphabets by their number; the document's Letters, Bits, bit. -/
import Derived.Test.YtdjlpmelmhhooaaDoorBas3
namespace Go.Proofs.YtdjlpmelmhhooaaDoor
open Go Go.RowKit
set_option linter.unusedSimpArgs false

def KL (n : Nat) : ByteArray := if n = 0 then hexL else if n = 1 then stdL else urlL
def Kk (n : Nat) : Nat := if n = 0 then 4 else 6
def Kf (n : Nat) : Bool := decide (n = 1)
theorem kind_good (n : Nat) : Good (KL n) (Kk n) (Kf n) := by
  unfold KL Kk Kf
  by_cases h0 : n = 0
  · subst h0; exact good_hex
  · rw [if_neg h0, if_neg h0]
    by_cases h1 : n = 1
    · subst h1; exact good_std
    · rw [if_neg h1, decide_eq_false h1]; exact good_url

theorem results_cellT {P : Program} {fn : Func} {p : Tmp} {ty : TypeId} (h : fn.results = #[.cell p ty]) (tmps : Array Value) (w : World) (b : Nat) (L : ByteArray) (k : Nat) (f : Bool) (hp : tmps.getD p undef = .pointer (some ⟨b, 0, none⟩))
    (ha : ∀ w, (isAgg ty).run P w = .ok true w) (hz : ∀ w, (sizeOf ty).run P w = .ok 3 w) (hr : RowAt w b ty #[.string L, .int .i64 (k : Int), .bool f]) : (results fn tmps).run P w = .ok (alpha L k f) w := results_agg h tmps w b _ _ _ hp ha hz hr
/-- A bit of a text. -/
def bitAt (s : List UInt8) (i : Nat) : Nat := (bitsOf s).getD i 0
end Go.Proofs.YtdjlpmelmhhooaaDoor
