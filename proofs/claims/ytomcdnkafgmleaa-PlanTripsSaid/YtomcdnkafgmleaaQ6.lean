/- The comparisons of the law PlanReckons: lists of ints, lists of floats, four quarters. -/
import Derived.Test.YtomcdnkafgmleaaQ5
namespace Go.Proofs.Ytomcdnkafgmleaa
open Go.RowKit

theorem ints_empty (a a' : Option Addr) (cap cap' : Nat) (w : World) : Calls Try.prog 17 #[.slice a 0 cap, .slice a' 0 cap'] w fun e w' => e = .returned (.bool true) ∧ ∃ n, w' = w.drewN n := by
  go_enter Try.func17, Try.ntmps17
  go_wp2
  refine wp_loop_rounds 1 ?_
  rw [rounds_succ]
  go_wp2
  go_ret
  exact ⟨rfl, 0, rfl⟩

set_option maxRecDepth 100000 in
theorem ints_row (b off b' off' len cap cap' : Nat) (f : Nat → Int) (w : World) (hm : len ≤ 9223372036854775807) (hc : ∀ i, i < len → w.cell? ⟨b, off + i, none⟩ = some (.int .i64 (f i))) (hc' : ∀ i, i < len → w.cell? ⟨b', off' + i, none⟩ = some (.int .i64 (f i))) :
    Calls Try.prog 17 #[.slice (some ⟨b, off, none⟩) len cap, .slice (some ⟨b', off', none⟩) len cap'] w fun e w' => e = .returned (.bool true) ∧ ∃ n, w' = w.drewN n := by
  have Hc := Lib.hid hc
  have Hc' := Lib.hid hc'
  clear hc hc'
  go_enter Try.func17, Try.ntmps17
  go_wp2
  go_loopw [5] (fun i wr => ∃ k n : Nat, k ≤ len ∧ i = .int .i64 k ∧ wr = w.drewN n) (fun i _ => len - (intOf i).toNat)
  case atStart => exact ⟨0, 0, Nat.zero_le _, rfl, rfl⟩
  case round =>
    obtain ⟨k, n, hk, rfl, rfl⟩ := hrel
    by_cases hlt : k < len
    · have c := Hc.out k hlt
      have c' := Hc'.out k hlt
      have hl2 : (k : Int) < (len : Int) := by omega
      have hl3 : (0 : Int) ≤ (k : Int) := by omega
      go_wp2_with fail
      go_quiet (fail)
      go_wp2_with fail
      go_roundw
      case rel => exact ⟨k + 1, _, by omega, by go_num, rfl⟩
      case measure => simp [intOf]; omega
    · go_wp2
      go_ret
      exact ⟨rfl, n, rfl⟩

theorem ints_any (v v' : Value) (h : List Int) (w : World) (hv : Ints w v h) (hv' : Ints w v' h) : Calls Try.prog 17 #[v, v'] w fun e w' => e = .returned (.bool true) ∧ ∃ n, w' = w.drewN n := by
  rcases hv with ⟨a, cap, rfl, rfl⟩ | ⟨b, off, cap, h0, hm, rfl, hc⟩
  · rcases hv' with ⟨a', cap', rfl, _⟩ | ⟨b', off', cap', h0', _, _, _⟩
    · exact ints_empty a a' cap cap' w
    · simp at h0'
  · rcases hv' with ⟨a', cap', _, rfl⟩ | ⟨b', off', cap', _, _, rfl, hc'⟩
    · simp at h0
    · exact ints_row b off b' off' _ cap cap' _ w hm hc hc'

/-- a slice reads as floats -/
def Floats (w : World) (v : Value) (n : Nat) (f : Nat → Nat) : Prop :=
  (∃ a cap, v = .slice a 0 cap ∧ n = 0) ∨ (∃ b off cap, 0 < n ∧ n ≤ 9223372036854775807 ∧ v = .slice (some ⟨b, off, none⟩) n cap ∧ ∀ i, i < n → w.cell? ⟨b, off + i, none⟩ = some (.float .f64 (f i)))

theorem numbers_empty (a a' : Option Addr) (cap cap' : Nat) (w : World) : Calls Try.prog 28 #[.slice a 0 cap, .slice a' 0 cap'] w fun e w' => e = .returned (.bool true) ∧ ∃ n, w' = w.drewN n := by
  go_enter Try.func28, Try.ntmps28
  go_wp2_with fail
  refine wp_loop_rounds 1 ?_
  rw [rounds_succ]
  go_wp2_with fail
  go_ret
  exact ⟨rfl, 0, rfl⟩

set_option maxRecDepth 100000 in
theorem numbers_row (b off b' off' len cap cap' : Nat) (f : Nat → Nat) (w : World) (hm : len ≤ 9223372036854775807) (hc : ∀ i, i < len → w.cell? ⟨b, off + i, none⟩ = some (.float .f64 (f i))) (hc' : ∀ i, i < len → w.cell? ⟨b', off' + i, none⟩ = some (.float .f64 (f i)))
    (ho : ∀ i, i < len → Ieee.double.order (f i) (f i) = some .eq) :
    Calls Try.prog 28 #[.slice (some ⟨b, off, none⟩) len cap, .slice (some ⟨b', off', none⟩) len cap'] w fun e w' => e = .returned (.bool true) ∧ ∃ n, w' = w.drewN n := by
  have Hc := Lib.hid hc
  have Hc' := Lib.hid hc'
  have Ho := Lib.hid ho
  clear hc hc' ho
  go_enter Try.func28, Try.ntmps28
  go_wp2_with fail
  go_loopw [5] (fun i wr => ∃ k n : Nat, k ≤ len ∧ i = .int .i64 k ∧ wr = w.drewN n) (fun i _ => len - (intOf i).toNat)
  case atStart => exact ⟨0, 0, Nat.zero_le _, rfl, rfl⟩
  case round =>
    obtain ⟨k, n, hk, rfl, hw⟩ := hrel
    have Hw := Lib.hid hw
    by_cases hlt : k < len
    · have c : wr.cell? ⟨b, off + k, none⟩ = some (.float .f64 (f k)) := by rw [hw]; exact Hc.out k hlt
      have c' : wr.cell? ⟨b', off' + k, none⟩ = some (.float .f64 (f k)) := by rw [hw]; exact Hc'.out k hlt
      clear hw
      have nn := Lib.hid (fun w => number_c _ _ w (Ho.out k hlt))
      have hl2 : (k : Int) < (len : Int) := by omega
      have hl3 : (0 : Int) ≤ (k : Int) := by omega
      go_wp2_with fail
      go_quiet ((go_at_call 14; exact quiet_mine (nn.out _)))
      go_wp2_with fail
      go_roundw
      case rel => exact ⟨k + 1, n + nq, by omega, by go_num, by rw [Hw.out]; simp⟩
      case measure => simp [intOf]; omega
    · clear hw
      go_wp2_with fail
      go_ret
      exact ⟨rfl, n, Hw.out⟩

theorem numbers_any (v v' : Value) (len : Nat) (f : Nat → Nat) (w : World) (hv : Floats w v len f) (hv' : Floats w v' len f) (ho : ∀ i, i < len → Ieee.double.order (f i) (f i) = some .eq) :
    Calls Try.prog 28 #[v, v'] w fun e w' => e = .returned (.bool true) ∧ ∃ n, w' = w.drewN n := by
  rcases hv with ⟨a, cap, rfl, rfl⟩ | ⟨b, off, cap, h0, hm, rfl, hc⟩
  · rcases hv' with ⟨a', cap', rfl, _⟩ | ⟨b', off', cap', h0', _, _, _⟩
    · exact numbers_empty a a' cap cap' w
    · omega
  · rcases hv' with ⟨a', cap', _, rfl⟩ | ⟨b', off', cap', _, _, rfl, hc'⟩
    · omega
    · exact numbers_row b off b' off' _ cap cap' _ w hm hc hc' ho

set_option maxRecDepth 100000 in
set_option maxHeartbeats 2000000 in
theorem quarters29 (x0 y0 x1 y1 x2 y2 x3 y3 : Nat) (w : World)
    (h0 : Ieee.double.order x0 x0 = some .eq) (g0 : Ieee.double.order y0 y0 = some .eq) (h1 : Ieee.double.order x1 x1 = some .eq) (g1 : Ieee.double.order y1 y1 = some .eq)
    (h2 : Ieee.double.order x2 x2 = some .eq) (g2 : Ieee.double.order y2 y2 = some .eq) (h3 : Ieee.double.order x3 x3 = some .eq) (g3 : Ieee.double.order y3 y3 = some .eq) :
    Calls Try.prog 29 #[.agg #[.complex .f64 x0 y0, .complex .f64 x1 y1, .complex .f64 x2 y2, .complex .f64 x3 y3], .agg #[.float .f64 x0, .float .f64 y0, .float .f64 x1, .float .f64 y1, .float .f64 x2, .float .f64 y2, .float .f64 x3, .float .f64 y3]] w
      fun e w' => e = .returned (.bool true) ∧ Below w.heap.size w w' := by
  have f0 : (FloatKind.f64.format.order x0 x0 != some .eq) = false := by show (Ieee.double.order x0 x0 != some .eq) = false; rw [h0]; rfl
  have f1 : (FloatKind.f64.format.order y0 y0 != some .eq) = false := by show (Ieee.double.order y0 y0 != some .eq) = false; rw [g0]; rfl
  have f2 : (FloatKind.f64.format.order x1 x1 != some .eq) = false := by show (Ieee.double.order x1 x1 != some .eq) = false; rw [h1]; rfl
  have f3 : (FloatKind.f64.format.order y1 y1 != some .eq) = false := by show (Ieee.double.order y1 y1 != some .eq) = false; rw [g1]; rfl
  have f4 : (FloatKind.f64.format.order x2 x2 != some .eq) = false := by show (Ieee.double.order x2 x2 != some .eq) = false; rw [h2]; rfl
  have f5 : (FloatKind.f64.format.order y2 y2 != some .eq) = false := by show (Ieee.double.order y2 y2 != some .eq) = false; rw [g2]; rfl
  have f6 : (FloatKind.f64.format.order x3 x3 != some .eq) = false := by show (Ieee.double.order x3 x3 != some .eq) = false; rw [h3]; rfl
  have f7 : (FloatKind.f64.format.order y3 y3 != some .eq) = false := by show (Ieee.double.order y3 y3 != some .eq) = false; rw [g3]; rfl
  clear h0 h1 h2 h3 g0 g1 g2 g3
  go_enter Try.func29, Try.ntmps29
  go_wp2_with fail
  refine wp_loop_rounds 5 ?_
  iterate 4
    rw [rounds_succ]
    go_wp2_with fail
    go_quiet (fail)
    go_wp2_with fail
  rw [rounds_succ]
  go_wp2_with fail
  go_ret
  refine ⟨rfl, ?_⟩
  exact below_drewN (bel2 _ _ _) _
end Go.Proofs.Ytomcdnkafgmleaa
