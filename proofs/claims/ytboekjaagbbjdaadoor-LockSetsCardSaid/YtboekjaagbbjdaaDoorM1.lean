/- The document's sum of bytes, bit by bit; its stripe. -/
import Derived.Test.YtboekjaagbbjdaaDoorL7
namespace Go.Proofs.YtboekjaagbbjdaaDoor
open Go.RowKit

theorem and1 (a : Nat) (h : a < 4294967296) : bits .and .u32 (a : Int) 1 = ((a % 2 : Nat) : Int) := by
  have h2 : (BitVec.ofInt 32 1).toNat = 1 := by decide
  show IntKind.u32.wrap ((BitVec.ofInt 32 (a : Int) &&& BitVec.ofInt 32 1).toNat : Int) = _
  rw [BitVec.toNat_and, u32_nat a h, h2, Nat.and_one_is_mod]
  exact u32_in _ (by omega)
theorem step1_odd {r : Nat} (h : r % 2 = 1) : step1 r = r / 2 ^^^ 2197175160 := if_pos h
theorem step1_even {r : Nat} (h : r % 2 = 0) : step1 r = r / 2 := if_neg (by omega)

set_option maxHeartbeats 2000000 in
theorem on28_row (b off cap : Nat) (l : List UInt8) (w : World) (hm : l.length ≤ 9223372036854775807) (hc : ∀ i, i < l.length → w.cell? ⟨b, off + i, none⟩ = some (.int .u8 ((l.getD i 0).toNat : Nat))) :
    Calls Tryd.prog 28 #[.int .u32 4294967295, .slice (some ⟨b, off, none⟩) l.length cap] w fun e w' => e = .returned (.int .u32 (crcTo 4294967295 l : Nat)) ∧ w = w' := by
  have Hc := Lib.hid hc
  clear hc
  generalize hn : l.length = n at *
  have Hn := Lib.hid hn
  clear hn
  go_enter Tryd.func28, Tryd.ntmps28
  go_wp2_with fail
  go_loop [0, 5] (fun r i => ∃ k : Nat, k ≤ n ∧ i = .int .i64 k ∧ r = .int .u32 (crcTo 4294967295 (l.take k) : Nat)) (fun _ i => n - (intOf i).toNat)
  case atStart => exact ⟨0, Nat.zero_le _, rfl, rfl⟩
  obtain ⟨k, hk, rfl, rfl⟩ := hrel
  have hc := crcTo_lt (l.take k) 4294967295 (by decide)
  by_cases hlt : k < n
  case pos =>
    have cb := Hc.out k hlt
    have sn := take_snoc' l k (by have := Hn.out; omega)
    have sn2 := crcTo_snoc (l.take k) (l.getD k 0) 4294967295
    rw [← sn] at sn2
    obtain ⟨x, hx⟩ : ∃ x, l.getD k 0 = x := ⟨_, rfl⟩
    rw [hx] at cb sn2
    have hx8 := x.toNat_lt
    obtain ⟨c, hcc⟩ : ∃ c, crcTo 4294967295 (l.take k) = c := ⟨_, rfl⟩
    rw [hcc] at hc sn2
    rw [hcc]
    have x1 := xor32 c x.toNat hc (by omega)
    have hq2 : c ^^^ x.toNat < 4294967296 := Nat.xor_lt_two_pow (n := 32) (by omega) (by omega)
    obtain ⟨q, hq⟩ : ∃ q, c ^^^ x.toNat = q := ⟨_, rfl⟩
    rw [hq] at x1 sn2 hq2
    generalize x.toNat = y at *
    have SN := Lib.hid sn2
    clear sn sn2 hx hcc hq
    go_wp2_with fail
    go_loop [0, 6] (fun r i => ∃ j : Nat, j ≤ 8 ∧ i = .int .i64 j ∧ r = .int .u32 (stepN j q : Nat)) (fun _ i => 8 - (intOf i).toNat)
    case atStart => exact ⟨0, Nat.zero_le _, rfl, rfl⟩
    obtain ⟨j, hj, rfl, rfl⟩ := hrel
    have hr := stepN_lt hq2 j
    by_cases h8 : j < 8
    case pos =>
      have ns : stepN (j + 1) q = step1 (stepN j q) := rfl
      obtain ⟨r, hrr⟩ : ∃ r, stepN j q = r := ⟨_, rfl⟩
      rw [hrr] at hr ns
      rw [hrr]
      have a1 := and1 r hr
      have d1 : ((r / 2 : Nat) : Int) = (r : Int) / 2 := by omega
      rcases (by omega : r % 2 = 0 ∨ r % 2 = 1) with e | e
      · rw [step1_even e] at ns
        rw [e] at a1
        have NS := Lib.hid (show (stepN (j + 1) q : Nat) = ((r / 2 : Nat) : Int) by rw [ns])
        have f1 : (bits BinOp.and IntKind.u32 (r : Int) 1 == 1) = false := by rw [a1]; rfl
        rw [d1] at NS
        clear ns hrr e d1 a1
        go_wp2_with fail
        go_round
        case rel => exact ⟨j + 1, by omega, by go_num, by rw [NS.out]⟩
        case measure => simp [intOf]; omega
      · rw [step1_odd e] at ns
        rw [e] at a1
        have x2 := xor32 (r / 2) 2197175160 (by omega) (by decide)
        rw [d1] at x2
        have x3 : bits BinOp.xor IntKind.u32 ((r : Int) / 2) 2197175160 = ((r / 2 ^^^ 2197175160 : Nat) : Int) := x2
        have NS := Lib.hid (show (stepN (j + 1) q : Nat) = ((r / 2 ^^^ 2197175160 : Nat) : Int) by rw [ns])
        have f1 : (bits BinOp.and IntKind.u32 (r : Int) 1 == 1) = true := by rw [a1]; rfl
        obtain ⟨z, hz⟩ : ∃ z, (r / 2 ^^^ 2197175160) = z := ⟨_, rfl⟩
        rw [hz] at x3 NS
        clear ns hrr e d1 a1 x2 hz
        go_wp2_with fail
        go_round
        case rel => exact ⟨j + 1, by omega, by go_num, by rw [NS.out]⟩
        case measure => simp [intOf]; omega
    obtain rfl : 8 = j := by omega
    go_wp2_with fail
    go_round
    case rel => exact ⟨k + 1, by omega, by go_num, by rw [SN.out]⟩
    case measure => simp [intOf]; omega
  obtain rfl : n = k := by omega
  have HL := Lib.hid (show l.take n = l from List.take_of_length_le (by have := Hn.out; omega))
  go_wp2_with fail
  go_ret
  exact ⟨by rw [HL.out]; rfl, rfl⟩
theorem on28_none (a : Option Addr) (cap : Nat) (w : World) : Calls Tryd.prog 28 #[.int .u32 4294967295, .slice a 0 cap] w fun e w' => e = .returned (.int .u32 (crcTo 4294967295 [] : Nat)) ∧ w = w' := by
  go_enter Tryd.func28, Tryd.ntmps28
  go_wp2_with fail
  refine wp_loop_rounds 1 ?_
  rw [rounds_succ]
  go_wp2_with fail
  go_ret
  exact ⟨rfl, rfl⟩
theorem on28 (v : Value) (l : List UInt8) (w : World) (hv : Bytes w v l) : Calls Tryd.prog 28 #[.int .u32 4294967295, v] w fun e w' => e = .returned (.int .u32 (crcTo 4294967295 l : Nat)) ∧ w = w' := by
  rcases hv with ⟨a, cap, rfl, rfl⟩ | ⟨b, off, cap, h0, hm, rfl, hc⟩
  · exact on28_none a cap w
  · exact on28_row b off cap l w hm hc
theorem crc15 (v : Value) (l : List UInt8) (w : World) (hv : Bytes w v l) : Calls Tryd.prog 15 #[v] w fun e w' => e = .returned (.int .u32 (crc l : Nat)) ∧ w = w' := by
  have hc := crcTo_lt l 4294967295 (by decide)
  have n1 := not32 _ hc
  have HC := Lib.hid (show crc l = 4294967295 - crcTo 4294967295 l from rfl)
  obtain ⟨q, hq⟩ : ∃ q, 4294967295 - crcTo 4294967295 l = q := ⟨_, rfl⟩
  rw [hq] at n1 HC
  clear hq
  go_enter Tryd.func15, Tryd.ntmps15
  go_wp2_with fail
  refine (on28 _ l _ hv).mono ?_
  rintro e w' ⟨rfl, rfl⟩
  go_wp2_with fail
  go_ret
  exact ⟨by rw [HC.out]; rfl, rfl⟩
set_option maxHeartbeats 1000000 in
theorem stripe11 (s : ByteArray) (n : Int) (w : World) (hs : s.size ≤ 9223372036854775807) (h1 : 1 ≤ n) (h2 : n ≤ 64) : Calls Tryd.prog 11 #[.string s, .int .i64 n] w fun e w' => e = .returned (.int .i64 (strI n.toNat s)) ∧ Below w.heap.size w w' := by
  obtain ⟨w1, cap, hrun, bel, hv⟩ := text_bytes s w hs
  have Hv := Lib.hid hv
  have Bel := Lib.hid bel
  obtain ⟨m, rfl⟩ : ∃ m : Nat, n = m := ⟨n.toNat, by omega⟩
  have hst : strI (m : Int).toNat s = ((crc s.data.toList % m : Nat) : Int) := rfl
  have hc1 : crc s.data.toList < 4294967296 := by unfold crc; omega
  have Hst := Lib.hid hst
  clear hst hv bel
  go_enter Tryd.func11, Tryd.ntmps11
  go_wp2_with fail
  refine (crc15 _ _ _ Hv.out).mono ?_
  rintro e w' ⟨rfl, rfl⟩
  generalize crc s.data.toList = q at *
  clear hrun
  go_wp2_with fail
  go_ret
  refine ⟨?_, Bel.out⟩
  rw [Hst.out]
  have hq : (q : Int) % (m : Int) = ((q % m : Nat) : Int) := by omega
  show Ending.returned (.int .i64 ((q : Int) % (m : Int))) = _
  rw [hq]
end Go.Proofs.YtboekjaagbbjdaaDoor
