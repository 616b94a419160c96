/- The walk of the law PlanGrows: it returns true. -/
import Derived.Test.YtomcdnkafgmleaaG1
import Derived.Test.YtomcdnkafgmleaaS2
namespace Go.Proofs.Ytomcdnkafgmleaa
open Go.RowKit

theorem within_nat (x lo hi : Int) (h1 : -9223372036854775808 ≤ x) (h2 : x ≤ 9223372036854775807) (h3 : 0 ≤ lo) (h4 : lo ≤ hi) (h5 : hi ≤ 2199023255552) :
    ∃ n : Nat, lo ≤ (n : Int) ∧ (n : Int) ≤ hi ∧ ∀ w, Calls Try.prog 18 #[.int .i64 x, .int .i64 lo, .int .i64 hi] w fun e w' => e = .returned (.int .i64 (n : Int)) ∧ w = w' := by
  have hr := wi_range x lo hi h4
  obtain ⟨n, hn⟩ := Int.eq_ofNat_of_zero_le (show 0 ≤ wi x lo hi by omega)
  refine ⟨n, by omega, by omega, fun w => ?_⟩
  rw [← hn]
  exact within17_c x lo hi w h1 h2 h3 h4 h5

/-- what stays behind a call: the block that the law made first -/
theorem keep4 {w W w1 : World} {x0 x1 x2 x3 : Value} (h0 : W.cell? ⟨w.heap.size, 0, none⟩ = some x0) (h1 : W.cell? ⟨w.heap.size, 1, none⟩ = some x1) (h2 : W.cell? ⟨w.heap.size, 2, none⟩ = some x2) (h3 : W.cell? ⟨w.heap.size, 3, none⟩ = some x3)
    (hz : w.heap.size < W.heap.size) (hw : Below w.heap.size w W) (hb : Below W.heap.size W w1) :
    w1.cell? ⟨w.heap.size, 0, none⟩ = some x0 ∧ w1.cell? ⟨w.heap.size, 1, none⟩ = some x1 ∧ w1.cell? ⟨w.heap.size, 2, none⟩ = some x2 ∧ w1.cell? ⟨w.heap.size, 3, none⟩ = some x3 ∧ w.heap.size < w1.heap.size ∧ Below w.heap.size w w1 :=
  ⟨by rw [hb.cell (p := ⟨w.heap.size, 0, none⟩) hz, h0], by rw [hb.cell (p := ⟨w.heap.size, 1, none⟩) hz, h1], by rw [hb.cell (p := ⟨w.heap.size, 2, none⟩) hz, h2], by rw [hb.cell (p := ⟨w.heap.size, 3, none⟩) hz, h3],
    Nat.lt_of_lt_of_le hz hb.size, hw.trans (hb.mono (Nat.le_of_lt hz))⟩

set_option maxRecDepth 100000 in
set_option maxHeartbeats 4000000 in
theorem grows_walk (a0 a1 a2 a3 a4 : Int) (w : World)
    (b0 : -9223372036854775808 ≤ a0 ∧ a0 ≤ 9223372036854775807) (b1 : -9223372036854775808 ≤ a1 ∧ a1 ≤ 9223372036854775807) (b2 : -9223372036854775808 ≤ a2 ∧ a2 ≤ 9223372036854775807) (b3 : -9223372036854775808 ≤ a3 ∧ a3 ≤ 9223372036854775807) (b4 : -9223372036854775808 ≤ a4 ∧ a4 ≤ 9223372036854775807) :
    Calls Try.prog 9 #[.int .i64 a0, .int .i64 a1, .int .i64 a2, .int .i64 a3, .int .i64 a4] w fun e w' => e = .returned (.bool true) ∧ Below w.heap.size w w' := by
  obtain ⟨M, _, hM, c0⟩ := within_nat a0 0 1000000 b0.1 b0.2 (by omega) (by omega) (by omega)
  obtain ⟨D, _, hD, c1⟩ := within_nat a1 0 1000000 b1.1 b1.2 (by omega) (by omega) (by omega)
  obtain ⟨Z, _, hZ, c2⟩ := within_nat a2 0 5 b2.1 b2.2 (by omega) (by omega) (by omega)
  obtain ⟨L, _, hL, c3⟩ := within_nat a3 0 1000 b3.1 b3.2 (by omega) (by omega) (by omega)
  obtain ⟨U, _, hU, c4⟩ := within_nat a4 0 5 b4.1 b4.2 (by omega) (by omega) (by omega)
  obtain ⟨g1, g2, g3, g4, g5⟩ := grows_facts M D Z L U (by omega) (by omega)
  have P := fun w => pz_calls M D Z L _ (int_R D (by omega)) (by omega) (by omega) (by omega) (by omega) w
  have Q := fun w => pz_calls (M + U) D Z L _ (int_R D (by omega)) (by omega) (by omega) (by omega) (by omega) w
  have R := fun w => pz_calls M (D + U) Z L _ (int_R (D + U) (by omega)) (by omega) (by omega) (by omega) (by omega) w
  have S := fun w => pz_calls M D (Z + U) L _ (int_R D (by omega)) (by omega) (by omega) (by omega) (by omega) w
  have T := fun w => pz_calls M 0 Z L 0 (by rw [F.rg_zero]; exact F.R.self 0) (by omega) (by omega) (by omega) (by omega) w
  have s1 := add_int M U (by omega)
  have s2 := add_int D U (by omega)
  have s3 := add_int Z U (by omega)
  have o7 := toIntVal_R (int_R M (by omega)) (F.V_one M (by omega)).2 (by rw [F.floorv_int (by omega)]; omega)
  rw [F.floorv_int (by omega)] at o7
  have hML : (M : Int) * (L : Int) ≤ 1000000 * 1000 := Int.mul_le_mul hM hL (by omega) (by omega)
  have hML0 : 0 ≤ (M : Int) * (L : Int) := Int.mul_nonneg (by omega) (by omega)
  rw [g5] at g4 T
  generalize floatOfInt .f64 ((M + U : Nat) : Int) = mu at *
  generalize floatOfInt .f64 ((D + U : Nat) : Int) = du at *
  generalize floatOfInt .f64 ((Z + U : Nat) : Int) = zu at *
  generalize pz M D Z L = p at *
  generalize pz (M + U) D Z L = q at *
  generalize pz M (D + U) Z L = r at *
  generalize pz M D (Z + U) L = s at *
  have hw : wrap64 ((M : Int) * (L : Int)) = (M : Int) * (L : Int) := IntWalk.wrap64_in _ ⟨by omega, by omega⟩
  have hle : decide ((M : Int) * (L : Int) ≤ p) = true := by simpa using g4
  have C0 := Lib.hid c0
  have C1 := Lib.hid c1
  have C2 := Lib.hid c2
  have C3 := Lib.hid c3
  have C4 := Lib.hid c4
  have P' := Lib.hid P
  have Q' := Lib.hid Q
  have R' := Lib.hid R
  have S' := Lib.hid S
  have T' := Lib.hid T
  have o1 : ∀ t w, (binOp .add t (.float .f64 (floatOfInt .f64 (M : Int))) (.float .f64 (floatOfInt .f64 (U : Int)))).run Try.prog w = .ok (.float .f64 mu) w := fun t w => run_float_arith w .add t .f64 _ _ _ s1
  have o2 : ∀ t w, (binOp .add t (.float .f64 (floatOfInt .f64 (D : Int))) (.float .f64 (floatOfInt .f64 (U : Int)))).run Try.prog w = .ok (.float .f64 du) w := fun t w => run_float_arith w .add t .f64 _ _ _ s2
  have o3 : ∀ t w, (binOp .add t (.float .f64 (floatOfInt .f64 (Z : Int))) (.float .f64 (floatOfInt .f64 (U : Int)))).run Try.prog w = .ok (.float .f64 zu) w := fun t w => run_float_arith w .add t .f64 _ _ _ s3
  have o4 : ∀ w, (convert 22 3 (.float .f64 (floatOfInt .f64 (M : Int)))).run Try.prog w = .ok (.int .i64 (M : Int)) w := fun w => run_convert_float_int w 22 3 .f64 .i64 _ _ (by rw [Try.underlying22]; rfl) Try.underlying3 o7
  clear c0 c1 c2 c3 c4 P Q R S T s1 s2 s3 o7 g5 b0 b1 b2 b3 b4
  go_enter Try.func9, Try.ntmps9
  go_wp2_with fail
  refine (C0.out _).mono ?_
  rintro e w' ⟨rfl, rfl⟩
  clear C0
  go_wp2_with fail
  refine (C1.out _).mono ?_
  rintro e w' ⟨rfl, rfl⟩
  clear C1
  go_wp2_with fail
  refine (C2.out _).mono ?_
  rintro e w' ⟨rfl, rfl⟩
  clear C2
  go_wp2_with fail
  refine (C3.out _).mono ?_
  rintro e w' ⟨rfl, rfl⟩
  clear C3
  go_wp2_with fail
  refine (C4.out _).mono ?_
  rintro e w' ⟨rfl, rfl⟩
  clear C4
  go_wp2_with fail
  refine (P'.out _).mono ?_
  rintro e w1 ⟨rfl, hb⟩
  obtain ⟨k0, k1, k2, k3, z1, K1⟩ := keep4 (w := w) (x0 := .float .f64 (floatOfInt .f64 (M : Int))) (x1 := .float .f64 (floatOfInt .f64 (D : Int))) (x2 := .float .f64 (floatOfInt .f64 (Z : Int))) (x3 := .int .i64 (L : Int)) (by simp) (by simp) (by simp) (by simp) (by simp) ((Below.refl _ _).alloc (Nat.le_refl _) _) hb
  clear hb P'
  go_wp2_with fail
  refine (Q'.out _).mono ?_
  rintro e w2 ⟨rfl, hb⟩
  obtain ⟨k0, k1, k2, k3, z2, K2⟩ := keep4 (w := w) (by rw [World.cell?_alloc_past _ _ _ z1]; exact k0) (by rw [World.cell?_alloc_past _ _ _ z1]; exact k1) (by rw [World.cell?_alloc_past _ _ _ z1]; exact k2) (by rw [World.cell?_alloc_past _ _ _ z1]; exact k3) (by simp; omega) (K1.alloc (Nat.le_of_lt z1) _) hb
  clear hb Q'
  go_wp2_with fail
  refine (R'.out _).mono ?_
  rintro e w3 ⟨rfl, hb⟩
  obtain ⟨k0, k1, k2, k3, z3, K3⟩ := keep4 (w := w) (by rw [World.cell?_alloc_past _ _ _ z2]; exact k0) (by rw [World.cell?_alloc_past _ _ _ z2]; exact k1) (by rw [World.cell?_alloc_past _ _ _ z2]; exact k2) (by rw [World.cell?_alloc_past _ _ _ z2]; exact k3) (by simp; omega) (K2.alloc (Nat.le_of_lt z2) _) hb
  clear hb R'
  go_wp2_with fail
  refine (S'.out _).mono ?_
  rintro e w4 ⟨rfl, hb⟩
  obtain ⟨k0, k1, k2, k3, z4, K4⟩ := keep4 (w := w) (by rw [World.cell?_alloc_past _ _ _ z3]; exact k0) (by rw [World.cell?_alloc_past _ _ _ z3]; exact k1) (by rw [World.cell?_alloc_past _ _ _ z3]; exact k2) (by rw [World.cell?_alloc_past _ _ _ z3]; exact k3) (by simp; omega) (K3.alloc (Nat.le_of_lt z3) _) hb
  clear hb S'
  go_wp2_with fail
  refine (T'.out _).mono ?_
  rintro e w5 ⟨rfl, hb⟩
  obtain ⟨k0, k1, k2, k3, z5, K5⟩ := keep4 (w := w) (by rw [World.cell?_alloc_past _ _ _ z4]; exact k0) (by rw [World.cell?_alloc_past _ _ _ z4]; exact k1) (by rw [World.cell?_alloc_past _ _ _ z4]; exact k2) (by rw [World.cell?_alloc_past _ _ _ z4]; exact k3) (by simp; omega) (K4.alloc (Nat.le_of_lt z4) _) hb
  clear hb T'
  go_wp2_with fail
  go_ret
  exact ⟨rfl, K5⟩
end Go.Proofs.Ytomcdnkafgmleaa
