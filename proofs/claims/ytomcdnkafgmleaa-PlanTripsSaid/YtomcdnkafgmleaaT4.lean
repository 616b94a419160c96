/- Trip over no stop, over one, over more. -/
import Derived.Test.YtomcdnkafgmleaaT6
import Derived.Deep.RegionWith
import Derived.StillTailTactics
namespace Go.Proofs.Ytomcdnkafgmleaa
open Go.RowKit

set_option maxRecDepth 100000 in
theorem trip_zero (v : Value) (M : Nat → List Int) (w : World) (hv : Rows2 w v 0 M) : Calls Try.prog 15 #[v] w fun e w' => e = .returned (.tuple #[.slice none 0 0, .int .i64 0, .int .i64 0]) ∧ w = w' := by
  obtain ⟨a, cap, rfl, hm⟩ := hv.form
  clear hv
  go_enter Try.func15, Try.ntmps15
  go_wp2_with fail
  refine wp_loop_rounds 1 ?_
  rw [rounds_succ]
  go_wp2_with fail
  exact bodyPost_ret (v := .tuple #[.slice none 0 0, .int .i64 0, .int .i64 0]) (by simp [results, Try.results15, go_sem]) rfl ⟨rfl, rfl⟩

set_option maxRecDepth 100000 in
theorem trip_one (v : Value) (M : Nat → List Int) (w : World) (hv : Rows2 w v 1 M) (hg : okRow 1 (M 0)) : Calls Try.prog 15 #[v] w fun e w' => e = .returned (.tuple #[.slice (some ⟨w.heap.size, 0, none⟩) 1 1, .int .i64 0, .int .i64 0]) ∧ w' = w.alloc (.cells #[.int .i64 0] 3) := by
  obtain ⟨a, cap, rfl, hm⟩ := hv.form
  obtain ⟨b, off, a2, cap2, rfl, c, hl, hi⟩ := hv.row (i := 0) (by omega)
  have HI := Lib.hid hi
  rw [hg.1, Nat.add_zero] at c
  rw [hg.1] at HI
  have hall := hg.2
  clear hv hi hg
  go_enter Try.func15, Try.ntmps15
  go_wp2_with fail
  refine wp_loop_rounds 2 ?_
  rw [rounds_succ]
  go_wp2_with fail
  refine (contains42 _ _ _ HI.out).mono ?_
  rintro e w' ⟨rfl, rfl⟩
  rw [hall]
  go_wp2_with fail
  rw [rounds_succ]
  go_wp2_with fail
  exact bodyPost_ret (v := .tuple #[.slice (some ⟨w.heap.size, 0, none⟩) 1 1, .int .i64 0, .int .i64 0]) (by simp [results, Try.results15, go_sem]) rfl ⟨rfl, rfl⟩

theorem and_i64 (a : Nat) (h : a < 4611686018427387904) : bits .and .i64 (a : Int) 1 = ((a % 2 : Nat) : Int) := by
  have h1 : (BitVec.ofInt 64 (a : Int)).toNat = a := by
    rw [BitVec.ofInt_natCast, BitVec.toNat_ofNat]; exact Nat.mod_eq_of_lt (by omega)
  have h2 : (BitVec.ofInt 64 1).toNat = 1 := by decide
  show IntKind.i64.wrap ((BitVec.ofInt 64 (a : Int) &&& BitVec.ofInt 64 1).toNat : Int) = _
  rw [BitVec.toNat_and, h1, h2, Nat.and_one_is_mod]
  exact IntWalk.i64_in _ (by omega)
theorem or_i64 (a b : Nat) (ha : a < 4096) (hb : b < 4096) : bits .or .i64 (a : Int) (b : Int) = ((a ||| b : Nat) : Int) := by
  have hx : a ||| b < 2 ^ 12 := Nat.or_lt_two_pow (by omega) (by omega)
  have h1 : (BitVec.ofInt 64 (a : Int)).toNat = a := by
    rw [BitVec.ofInt_natCast, BitVec.toNat_ofNat]; exact Nat.mod_eq_of_lt (by omega)
  have h2 : (BitVec.ofInt 64 (b : Int)).toNat = b := by
    rw [BitVec.ofInt_natCast, BitVec.toNat_ofNat]; exact Nat.mod_eq_of_lt (by omega)
  show IntKind.i64.wrap ((BitVec.ofInt 64 (a : Int) ||| BitVec.ofInt 64 (b : Int)).toNat : Int) = _
  rw [BitVec.toNat_or, h1, h2]
  exact IntWalk.i64_in _ (by omega)
theorem or_bits_aux : ∀ j, j < 12 → ∀ x, x < 64 → ∀ y, y < 64 → (x * 64 + y) / 2 ^ j % 2 = 0 → (x * 64 + y) ||| 2 ^ j = x * 64 + y + 2 ^ j := by decide +kernel
theorem or_bits (j a : Nat) (hj : j < 12) (ha : a < 4096) (h : a / 2 ^ j % 2 = 0) : a ||| 2 ^ j = a + 2 ^ j := by
  have e : a = a / 64 * 64 + a % 64 := by omega
  have := or_bits_aux j hj (a / 64) (by omega) (a % 64) (by omega)
  rw [← e] at this
  exact this h

end Go.Proofs.Ytomcdnkafgmleaa
