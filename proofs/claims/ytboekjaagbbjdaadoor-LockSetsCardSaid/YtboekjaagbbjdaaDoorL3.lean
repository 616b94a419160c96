/- The stripe of a key, in the program and in the document's answer. -/
import Derived.Test.YtboekjaagbbjdaaDoorL2
import Derived.Lib.ConvBytes
namespace Go.Proofs.YtboekjaagbbjdaaDoor
open Go.RowKit

set_option maxHeartbeats 1000000 in
theorem crcOn16_none (a : Option Addr) (cap : Nat) (w : World) : Calls Tryd.prog 16 #[.int .u32 0, .slice a 0 cap] w fun e w' => e = .returned (.int .u32 (crc [] : Nat)) ∧ w = w' := by
  have n0 := not32 0 (by decide)
  rw [show ((4294967295 - 0 : Nat) : Int) = 4294967295 by rfl, show ((0 : Nat) : Int) = 0 by rfl] at n0
  have n1 := not32 4294967295 (by decide)
  rw [show ((4294967295 - 4294967295 : Nat) : Int) = 0 by rfl, show ((4294967295 : Nat) : Int) = 4294967295 by rfl] at n1
  go_enter Tryd.func16, Tryd.ntmps16
  go_wp2_with fail
  refine wp_loop_rounds 1 ?_
  rw [rounds_succ]
  go_wp2_with fail
  go_ret
  exact ⟨rfl, rfl⟩
theorem crc12 (v : Value) (l : List UInt8) (w : World) (ht : Tab w) (hv : Bytes w v l) : Calls Tryd.prog 12 #[v] w fun e w' => e = .returned (.int .u32 (crc l : Nat)) ∧ w = w' := by
  rcases hv with ⟨a, cap, rfl, rfl⟩ | ⟨b, off, cap, h0, hm, rfl, hc⟩
  · go_enter Tryd.func12, Tryd.ntmps12
    go_wp2_with fail
    refine (crcOn16_none _ _ _).mono ?_
    rintro e w' ⟨rfl, rfl⟩
    go_wp2_with fail
    go_ret
    exact ⟨rfl, rfl⟩
  · go_enter Tryd.func12, Tryd.ntmps12
    go_wp2_with fail
    refine (crcOn16_row _ _ _ _ _ ht hm hc).mono ?_
    rintro e w' ⟨rfl, rfl⟩
    go_wp2_with fail
    go_ret
    exact ⟨rfl, rfl⟩
theorem bytes_below (w : World) (e : TypeId) (s : ByteArray) : Below w.heap.size w (Lib.bytesWorld w e s) := by
  refine ⟨rfl, rfl, rfl, ?_, fun j hj => Lib.bytesWorld_at_old w e s j hj⟩
  rw [Lib.bytesWorld_size]; omega
theorem Tab.below {w w' : World} (h : Tab w) (h0 : 0 < w.heap.size) (hb : Below w.heap.size w w') : Tab w' := fun i hi => by
  rw [hb.cell (p := ⟨0, i, none⟩) h0]; exact h i hi
/-- a text as bytes, in a block of its own -/
theorem text_bytes (s : ByteArray) (w : World) (hs : s.size ≤ 9223372036854775807) : ∃ w1 cap, (convert 9 33 (.string s)).run Tryd.prog w = .ok (.slice (some ⟨w.heap.size, 0, none⟩) s.size cap) w1 ∧ Below w.heap.size w w1 ∧ Bytes w1 (.slice (some ⟨w.heap.size, 0, none⟩) s.size cap) s.data.toList := by
  refine ⟨_, _, Lib.run_convert_string_bytes w 9 33 5 s Tryd.underlying9 Tryd.underlying33 Tryd.underlying5, bytes_below _ _ _, ?_⟩
  have hl : s.data.toList.length = s.size := by simp
  by_cases h0 : s.size = 0
  · refine .inl ⟨_, _, by rw [h0], List.eq_nil_of_length_eq_zero (by omega)⟩
  · refine .inr ⟨_, 0, _, by omega, by omega, by rw [hl], fun i hi => ?_⟩
    rw [Nat.zero_add]
    exact Lib.bytesWorld_cell w 5 s i (by omega)

set_option maxHeartbeats 1000000 in
theorem stripe8 (s : ByteArray) (n : Int) (w : World) (ht : Tab w) (h0 : 0 < w.heap.size) (hs : s.size ≤ 9223372036854775807) (h1 : 1 ≤ n) (h2 : n ≤ 64) : Calls Tryd.prog 8 #[.string s, .int .i64 n] w fun e w' => e = .returned (.int .i64 (stripe s.data.toList n.toNat : Nat)) ∧ Below w.heap.size w w' := by
  obtain ⟨w1, cap, hrun, bel, hv⟩ := text_bytes s w hs
  have Ht := Lib.hid (ht.below h0 bel)
  have Hv := Lib.hid hv
  have Bel := Lib.hid bel
  obtain ⟨m, rfl⟩ : ∃ m : Nat, n = m := ⟨n.toNat, by omega⟩
  have hst : stripe s.data.toList (m : Int).toNat = crc s.data.toList % m := rfl
  have hc1 : crc s.data.toList < 4294967296 := by unfold crc; omega
  have Hst := Lib.hid hst
  clear hst hv bel ht
  go_enter Tryd.func8, Tryd.ntmps8
  go_wp2_with fail
  refine (crc12 _ _ _ Ht.out Hv.out).mono ?_
  rintro e w' ⟨rfl, rfl⟩
  generalize crc s.data.toList = q at *
  clear hrun
  go_wp2_with fail
  go_ret
  refine ⟨?_, Bel.out⟩
  rw [Hst.out]
  have hq : (q : Int) % (m : Int) = ((q % m : Nat) : Int) := by omega
  have hlt : q % m < m := Nat.mod_lt _ (by omega)
  show Ending.returned (.int .i64 (wrap64 ((q : Int) % (m : Int)))) = _
  rw [hq, IntWalk.wrap64_in _ ⟨by omega, by omega⟩]

theorem stripe8_bad (s : ByteArray) (n : Int) (w : World) (h : n < 1 ∨ 64 < n) : Calls Tryd.prog 8 #[.string s, .int .i64 n] w fun e w' => e = .returned (.int .i64 (-1)) ∧ w = w' := by
  rcases h with h | h
  · go_enter Tryd.func8, Tryd.ntmps8
    go_wp2_with fail
    go_ret
    exact ⟨rfl, rfl⟩
  · have h' : ¬ n < 1 := by omega
    go_enter Tryd.func8, Tryd.ntmps8
    go_wp2_with fail
    go_ret
    exact ⟨rfl, rfl⟩
end Go.Proofs.YtboekjaagbbjdaaDoor
