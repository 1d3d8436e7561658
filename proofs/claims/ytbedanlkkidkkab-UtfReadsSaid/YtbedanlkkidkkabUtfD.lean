/- Plain words on the document's One: the number that a text's first k bytes would be; what One answers is firstN. No program in sight. -/
import Derived.Test.YtbedanlkkidkkabUtfC
namespace Go.Proofs.Ytbedanlkkidkkab
open Go

/-- The byte at a place, as a number; 0 beyond. -/
def byI (l : List UInt8) (i : Nat) : Int := ((l.getD i 0).toNat : Int)
/-- The number reckoned at size k. -/
def valN (k : Nat) (l : List UInt8) : Int :=
  match k with
  | 1 => byI l 0
  | 2 => (byI l 0 - 192) * 64 + byI l 1 - 128
  | 3 => (byI l 0 - 224) * 4096 + (byI l 1 - 128) * 64 + byI l 2 - 128
  | _ => (byI l 0 - 240) * 262144 + (byI l 1 - 128) * 4096 + (byI l 2 - 128) * 64 + byI l 3 - 128
/-- A number written stands at the text's beginning: it is what is read. -/
theorem one_hit {l : List UInt8} {k : Nat} {v : Int} (hk : 1 ≤ k) (hl : k ≤ l.length) (h : putN v = l.take k) : 0 ≤ v ∧ firstN l = some (v.toNat, k) := by
  have hlen : (putN v).length = k := by rw [h, List.length_take]; omega
  have hp : isPoint v = true := by
    cases hq : isPoint v with
    | true => rfl
    | false => exfalso; unfold putN at hlen; rw [hq] at hlen; simp at hlen; omega
  have hv : 0 ≤ v := by simp only [isPoint, Bool.and_eq_true, decide_eq_true_eq] at hp; omega
  obtain ⟨r, rfl⟩ := Int.eq_ofNat_of_zero_le hv
  refine ⟨hv, ?_⟩
  have := firstN_put hp (l.drop k)
  rw [h, List.take_append_drop] at this
  rw [this, Int.toNat_natCast, ← put_len hp, hlen]
/-- What is read is reckoned at its size, and written it stands there. -/
theorem one_miss {l : List UInt8} {r n : Nat} (h : firstN l = some (r, n)) : valN n l = (r : Int) ∧ putN (r : Nat) = l.take n ∧ 1 ≤ n ∧ n ≤ 4 ∧ n ≤ l.length := by
  obtain ⟨h1, h2, h3, -, -⟩ := firstN_size h
  obtain ⟨e, hn, hp⟩ := firstN_is h
  have hlen := put_len hp
  have hq := point_nat hp
  have ht : putN (r : Nat) = l.take n := by
    have := congrArg (List.take n) e
    rw [hn, ← hlen, List.take_left] at this
    rw [hn, ← hlen]; exact this.symm
  refine ⟨?_, ht, h1, h3, h2⟩
  obtain ⟨t, htt⟩ : ∃ t, t = l.drop n := ⟨_, rfl⟩
  rw [← htt] at e
  clear htt ht
  by_cases c1 : r < 128
  · obtain ⟨e1, z⟩ := put1 hp c1
    rw [e, e1, hn, z]
    simp only [valN, byI, List.cons_append, List.nil_append, List.getD_cons_zero]
    rw [u8_ofNat (by omega)]
  · by_cases c2 : r < 2048
    · obtain ⟨e1, z⟩ := put2 hp (by omega) c2
      rw [e, e1, hn, z]
      simp only [valN, byI, List.cons_append, List.nil_append, List.getD_cons_zero, List.getD_cons_succ]
      rw [u8_ofNat (by omega), u8_ofNat (by omega)]
      omega
    · by_cases c3 : r < 65536
      · obtain ⟨e1, z⟩ := put3 hp (by omega) c3
        rw [e, e1, hn, z]
        simp only [valN, byI, List.cons_append, List.nil_append, List.getD_cons_zero, List.getD_cons_succ]
        rw [u8_ofNat (by omega), u8_ofNat (by omega), u8_ofNat (by omega)]
        omega
      · obtain ⟨e1, z⟩ := put4 hp (by omega)
        rw [e, e1, hn, z]
        simp only [valN, byI, List.cons_append, List.nil_append, List.getD_cons_zero, List.getD_cons_succ]
        rw [u8_ofNat (by omega), u8_ofNat (by omega), u8_ofNat (by omega), u8_ofNat (by omega)]
        omega
/-- What One answers. -/
def oneN (l : List UInt8) : Int := match firstN l with | some (r, _) => (r : Int) | none => -1
theorem oneN_hit {l : List UInt8} {k : Nat} {v : Int} (hk : 1 ≤ k) (hl : k ≤ l.length) (h : putN v = l.take k) : oneN l = v := by
  obtain ⟨h0, h1⟩ := one_hit hk hl h
  rw [oneN, h1]; simp only []; omega
theorem oneN_none {l : List UInt8} (h : ∀ k, 1 ≤ k → k ≤ 4 → k ≤ l.length → putN (valN k l) ≠ l.take k) : oneN l = -1 := by
  rw [oneN]
  cases hf : firstN l with
  | none => rfl
  | some rn =>
    obtain ⟨r, n⟩ := rn
    obtain ⟨e1, e2, h1, h2, h3⟩ := one_miss hf
    exact absurd (by rw [e1]; exact e2) (h n h1 h2 h3)

end Go.Proofs.Ytbedanlkkidkkab
