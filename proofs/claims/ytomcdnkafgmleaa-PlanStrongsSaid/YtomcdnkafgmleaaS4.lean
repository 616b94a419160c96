/- The walk of the law PlanStrongs: it returns true. -/
import Derived.Test.YtomcdnkafgmleaaS3
import Derived.BigRegion
import Derived.Lib.Hide
namespace Go.Proofs.Ytomcdnkafgmleaa
open Go.RowKit

theorem strong_order {a b : Nat} (ha : Num a) (hb : Num b) : Ieee.double.order (str a b) (str a b) = some .eq := F.order_le (str_le ha hb).1

/-- the answer is one -/
theorem StrongOf.one (a0 b0 a1 b1 a2 b2 a3 b3 : Nat) :
    ∃ (n : Int) (x : Nat) (k : Int), Ieee.double.order x x = some .eq ∧ ∀ e, StrongOf [a0, b0, a1, b1, a2, b2, a3, b3] (str a1 b1) (str a2 b2) e → e = .returned (.tuple #[.int .i64 n, .float .f64 x, .int .i64 k]) := by
  by_cases h : AllNum [a0, b0, a1, b1, a2, b2, a3, b3]
  · refine ⟨if strongGt (str a1 b1) (str a2 b2) = true then 2 else 1, if strongGt (str a1 b1) (str a2 b2) = true then str a2 b2 else str a1 b1, 0, ?_, fun e he => ?_⟩
    rotate_left
    · rcases he with ⟨_, he⟩ | ⟨g, _⟩
      · exact he
      · exact absurd h g
    · have m : ∀ x ∈ [a0, b0, a1, b1, a2, b2, a3, b3], Num x := h
      split
      · exact strong_order (m _ (by simp)) (m _ (by simp))
      · exact strong_order (m _ (by simp)) (m _ (by simp))
  · refine ⟨0, 0, 172, ?_, fun e he => ?_⟩
    rotate_left
    · rcases he with ⟨g, _⟩ | ⟨_, he⟩
      · exact absurd g h
      · exact he
    · decide

theorem bcell {W w1 : World} (hb : Below W.heap.size W w1) : (∀ b o, b < W.heap.size → w1.cell? ⟨b, o, none⟩ = W.cell? ⟨b, o, none⟩) ∧ (∀ b o, b < W.heap.size → w1.frozen? ⟨b, o, none⟩ = W.frozen? ⟨b, o, none⟩) :=
  ⟨fun b o h => hb.cell (p := ⟨b, o, none⟩) h, fun b o h => hb.frozen (p := ⟨b, o, none⟩) h⟩

set_option maxRecDepth 100000 in
set_option maxHeartbeats 4000000 in
theorem strongs_walk (a0 b0 a1 b1 a2 b2 a3 b3 : Nat) (w : World)
    (la0 : a0 < 18446744073709551616) (lb0 : b0 < 18446744073709551616) (la1 : a1 < 18446744073709551616) (lb1 : b1 < 18446744073709551616) (la2 : a2 < 18446744073709551616) (lb2 : b2 < 18446744073709551616) (la3 : a3 < 18446744073709551616) (lb3 : b3 < 18446744073709551616) :
    Calls Try.prog 3 #[.agg #[.float .f64 a0, .float .f64 a1, .float .f64 a2, .float .f64 a3], .agg #[.float .f64 b0, .float .f64 b1, .float .f64 b2, .float .f64 b3]] w fun e w' => e = .returned (.bool true) ∧ Below w.heap.size w w' := by
  obtain ⟨n, x, k, hx, hone⟩ := StrongOf.one a0 b0 a1 b1 a2 b2 a3 b3
  have H1 : RowKit.Hid (∀ w, Calls Try.prog 12 #[.agg #[.complex .f64 a0 b0, .complex .f64 a1 b1, .complex .f64 a2 b2, .complex .f64 a3 b3]] w fun e w' => e = .returned (.tuple #[.int .i64 n, .float .f64 x, .int .i64 k]) ∧ Below w.heap.size w w') :=
    fun w => (strong_any a0 b0 a1 b1 a2 b2 a3 b3 w la0 lb0 la1 lb1 la2 lb2 la3 lb3).mono fun e w' h => ⟨hone e h.1, h.2⟩
  have H2 : RowKit.Hid (∀ w, Calls Try.prog 13 #[.agg #[.float .f64 a0, .float .f64 b0, .float .f64 a1, .float .f64 b1, .float .f64 a2, .float .f64 b2, .float .f64 a3, .float .f64 b3]] w fun e w' => e = .returned (.tuple #[.int .i64 n, .float .f64 x, .int .i64 k]) ∧ Below w.heap.size w w') :=
    fun w => (strongref_any a0 b0 a1 b1 a2 b2 a3 b3 w).mono fun e w' h => ⟨hone e h.1, h.2⟩
  have H3 : RowKit.Hid (∀ w, Calls Try.prog 14 #[.float .f64 x, .float .f64 x] w fun e w' => e = .returned (.bool true) ∧ w = w') := fun w => number_c x x w hx
  clear la0 lb0 la1 lb1 la2 lb2 la3 lb3 hone hx
  go_enter Try.func3, Try.ntmps3
  go_wp2_with fail
  refine wp_loop_rounds 5 ?_
  iterate 4
    rw [rounds_succ]
    go_wp2_with fail
    go_region
    go_wp2_with fail
    go_region
    go_wp2_with fail
  rw [rounds_succ]
  go_wp2_with fail
  refine (H1.out _).mono ?_
  rintro e w1 ⟨rfl, hb1⟩
  obtain ⟨hc, hf⟩ := bcell hb1
  go_wp2_with fail
  refine (H2.out _).mono ?_
  rintro e w2 ⟨rfl, hb2⟩
  clear hc hf
  go_wp2_with fail
  refine (H3.out _).mono ?_
  rintro e w3 ⟨rfl, rfl⟩
  go_wp2_with fail
  go_ret
  refine ⟨rfl, ?_⟩
  have hs := hb1.size
  simp at hs
  refine (Below.trans ?_ (hb1.mono (by simp; omega))).trans (hb2.mono (by omega))
  repeat (first | exact Below.refl _ _ | refine Below.drew ?_ | refine Below.alloc ?_ (by simp; omega) _ | refine Below.alloc ?_ (by simp) _ | refine Below.alloc ?_ (Nat.le_refl _) _)
end Go.Proofs.Ytomcdnkafgmleaa
