/- The walk of CRC. -/
import Derived.Test.YtbbjoahloghpkaaDoorCrc1
namespace Go.Proofs.YtbbjoahloghpkaaDoor
open Go Go.RowKit

set_option maxHeartbeats 2000000 in
set_option maxRecDepth 100000 in
theorem crc_any (f : Nat → ByteArray) (b off len cap : Nat) (w : World) (hb : b < w.heap.size) (hl : len ≤ 1000000) (hs : ∀ i, i < len → (f i).size ≤ 1000000000)
    (hc : ∀ i, i < len → w.cell? ⟨b, off + i, none⟩ = some (.string (f i))) :
    Calls Tryd.prog 115 #[.slice (some ⟨b, off, none⟩) len cap] w fun e w' => e = .returned (.int .u32 (4294967295 - crcF f len : Nat)) ∧ Below w.heap.size w w' := by
  have HC := hid hc; have HS := hid hs; clear hc hs
  go_enter Tryd.func115, Tryd.ntmps115
  have hz := zero27
  go_wp2_with (first | (go_at_call 127; refine (table_any _).mono ?_; rintro e w1 ⟨rfl, hB1⟩) | (refine wpList_store_row rfl 157 _ _ rfl w1.heap.size (tabA 256) rfl rfl 157 (tabA 0) (RowAt.new _ _ _) (by rw [info27, tab_size]) (by rw [tab_size, tab_size]) (tab_one _) ?_))
  clear hz
  obtain ⟨w2, hw2⟩ : ∃ w2 : World, w2 = (w1.alloc (.cells (tabA 0) 157)).setRow w1.heap.size (tabA 256) := ⟨_, rfl⟩
  rw [← hw2]
  have hT : RowAt w2 w1.heap.size 157 (tabA 256) := by rw [hw2]; exact (RowAt.new _ _ _).setRow _
  have hB2 : Below w.heap.size w w2 := by rw [hw2]; exact below_setRow (hB1.alloc hB1.size _) hB1.size _
  clear hw2
  have HT := hid hT; have HB := hid hB2; clear hT hB2 hB1
  go_loop [4, 11] (fun n i => ∃ k : Nat, k ≤ len ∧ i = .int .i64 k ∧ n = .int .u32 (crcF f k : Nat)) (fun _ i => len - (intOf i).toNat)
  case atStart => exact ⟨0, Nat.zero_le _, rfl, rfl⟩
  case round =>
    obtain ⟨k, hk, rfl, rfl⟩ := hrel
    by_cases hlt : k < len
    · have hd : decide ((k : Int) < (len : Int)) = true := by simp; omega
      have hcell : w2.cell? ⟨b, off + k, none⟩ = some (.string (f k)) := (HB.out.cell (p := ⟨b, off + k, none⟩) hb).trans (HC.out k hlt)
      have hsz := HS.out k hlt
      have hF := crcF_lt f k
      have hF1 : Hid (crcF f (k + 1) = crcS (crcF f k) (f k).data.toList) := hid rfl
      obtain ⟨s, hs⟩ : ∃ s, s = f k := ⟨_, rfl⟩
      rw [← hs] at hcell hsz hF1
      obtain ⟨n0, hn0⟩ : ∃ n0, n0 = crcF f k := ⟨_, rfl⟩
      rw [← hn0] at hF hF1 ⊢
      clear hs hn0
      go_wp2
      go_loop [4, 17] (fun n i => ∃ m : Nat, m ≤ s.size ∧ i = .int .i64 m ∧ n = .int .u32 (crcS n0 (s.data.toList.take m) : Nat)) (fun _ i => s.size - (intOf i).toNat)
      case atStart => exact ⟨0, Nat.zero_le _, rfl, rfl⟩
      case round =>
        obtain ⟨m, hm, rfl, rfl⟩ := hrel
        by_cases hlm : m < s.size
        · have hq := crcS_lt hF (s.data.toList.take m)
          have hsn := hid (crcS_snoc n0 s m hlm)
          obtain ⟨q, hq0⟩ : ∃ q, q = crcS n0 (s.data.toList.take m) := ⟨_, rfl⟩
          rw [← hq0] at hq hsn ⊢
          clear hq0
          have h8 : IntKind.u8.wrap (q : Int) = ((q % 256 : Nat) : Int) := by rw [IntKind.wrap_u8]; omega
          have hx8 := crc_xor8 q s[m]
          have hat := crc_at (n := q) s[m]
          have hcT : w2.cell? ⟨w1.heap.size, (q % 256) ^^^ s[m].toNat, none⟩ = some (.int .u32 (tabN ((q % 256) ^^^ s[m].toNat) : Nat)) :=
            HT.out.cell (by rw [tabA, rowA_get _ _ _ hat]; simp only [tabF, if_pos hat])
          have hx32 := crc_xor32 (tabN ((q % 256) ^^^ s[m].toNat)) q (tabN_lt hat) hq
          go_wp2
          go_round
          case rel => exact ⟨m + 1, by omega, by go_num, by rw [hsn.out]; rfl⟩
          case measure => simp [intOf]; omega
        · obtain rfl : m = s.size := by omega
          have hall := hid (show s.data.toList.take s.size = s.data.toList from List.take_of_length_le (by simp))
          go_wp2
          go_round
          case rel => exact ⟨k + 1, by omega, by go_num, by rw [hall.out, hF1.out]⟩
          case measure => simp [intOf]; omega
    · obtain rfl : k = len := by omega
      go_wp2
      go_ret
      exact ⟨ret_int (not_u32 _ (crcF_lt f k)), HB.out⟩

end Go.Proofs.YtbbjoahloghpkaaDoor
