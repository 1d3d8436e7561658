/- Ids as texts, plainly. -/
import Derived.Test.YtdjlpmelmhhooaaDoorBas1
namespace Go.Proofs.YtdjlpmelmhhooaaDoor
open Go

/-- Letters of base 16. -/
def hexE (l : List UInt8) : List UInt8 := enc hexL 4 false l
theorem hexE_append (a b : List UInt8) : hexE (a ++ b) = hexE a ++ hexE b := enc_append good_hex a b (.inl rfl)
theorem hexE_nil : hexE [] = [] := by
  have := hexE_append [] []
  simp at this
  exact this
theorem hexE_len (l : List UInt8) : (hexE l).length = 2 * l.length := by
  unfold hexE
  rw [enc_size (by decide)]
  simp [sizeN, padN]
  omega
theorem hexE_inj {a b : List UInt8} (h : hexE a = hexE b) : a = b := enc_inj good_hex h
/-- An id's text. -/
def textI (l : List UInt8) : List UInt8 :=
  hexE (l.take 4) ++ 45 :: (hexE ((l.drop 4).take 2) ++ 45 :: (hexE ((l.drop 6).take 2) ++ 45 :: (hexE ((l.drop 8).take 2) ++ 45 :: hexE ((l.drop 10).take 6))))
theorem textI_len (l : List UInt8) (h : l.length = 16) : (textI l).length = 36 := by
  simp [textI, hexE_len, h]
theorem id_split (l : List UInt8) (h : l.length = 16) : l = l.take 4 ++ ((l.drop 4).take 2 ++ ((l.drop 6).take 2 ++ ((l.drop 8).take 2 ++ (l.drop 10).take 6))) := by
  match l, h with
  | [a, b, c, d, e, f, g, i, j, k, m, n, o, p, q, r], _ => rfl
theorem hexE_split (l : List UInt8) (h : l.length = 16) : hexE l = hexE (l.take 4) ++ (hexE ((l.drop 4).take 2) ++ (hexE ((l.drop 6).take 2) ++ (hexE ((l.drop 8).take 2) ++ hexE ((l.drop 10).take 6)))) := by
  conv => lhs; rw [id_split l h]
  simp only [hexE_append]
/-- The five of them. -/
def pairsI : List (Nat × Nat) := [(0, 4), (4, 6), (6, 8), (8, 10), (10, 16)]
def pieceI (l : List UInt8) (p : Nat × Nat) : List UInt8 := hexE ((l.drop p.1).take (p.2 - p.1))
end Go.Proofs.YtdjlpmelmhhooaaDoor
