/- Point over whole numbers, and how it grows; the small helper 'within' of the laws. -/
import Derived.Test.YtomcdnkafgmleaaP3
namespace Go.Proofs.Ytomcdnkafgmleaa
open Go.RowKit

/-- what 'within' makes of a number -/
def wi (x lo hi : Int) : Int := lo + (if x < 0 then -(x + 1) else x) % (hi - lo + 1)
theorem wi_range (x lo hi : Int) (h : lo ≤ hi) : lo ≤ wi x lo hi ∧ wi x lo hi ≤ hi := by
  unfold wi
  have h1 := Int.emod_nonneg (if x < 0 then -(x + 1) else x) (show hi - lo + 1 ≠ 0 by omega)
  have h2 := Int.emod_lt_of_pos (if x < 0 then -(x + 1) else x) (show 0 < hi - lo + 1 by omega)
  omega
theorem within17_c (x lo hi : Int) (w : World) (h1 : -9223372036854775808 ≤ x) (h2 : x ≤ 9223372036854775807) (h3 : 0 ≤ lo) (h4 : lo ≤ hi) (h5 : hi ≤ 2199023255552) :
    Calls Try.prog 18 #[.int .i64 x, .int .i64 lo, .int .i64 hi] w fun e w' => e = .returned (.int .i64 (wi x lo hi)) ∧ w = w' := by
  have hr := wi_range x lo hi h4
  by_cases hx : x < 0
  · have e : wi x lo hi = lo + (-(x + 1)) % (hi - lo + 1) := by unfold wi; rw [if_pos hx]
    rw [e] at hr ⊢
    have b1 := Int.emod_nonneg (-(x + 1)) (show hi - lo + 1 ≠ 0 by omega)
    have b2 := Int.emod_lt_of_pos (-(x + 1)) (show 0 < hi - lo + 1 by omega)
    have t : (-(x + 1)).tmod (hi - lo + 1) = (-(x + 1)) % (hi - lo + 1) := Int.tmod_eq_emod_of_nonneg (by omega)
    clear e
    go_enter Try.func18, Try.ntmps18
    go_wp2
    go_ret
    exact ⟨rfl, rfl⟩
  · have e : wi x lo hi = lo + x % (hi - lo + 1) := by unfold wi; rw [if_neg hx]
    rw [e] at hr ⊢
    have b1 := Int.emod_nonneg x (show hi - lo + 1 ≠ 0 by omega)
    have b2 := Int.emod_lt_of_pos x (show 0 < hi - lo + 1 by omega)
    clear e
    go_enter Try.func18, Try.ntmps18
    go_wp2
    go_ret
    exact ⟨rfl, rfl⟩

/-- the root of a lead, as a rung -/
def rootOf (L : Nat) : Nat := (Ieee.double.sqrt (floatOfInt .f64 (L : Int))).getD 0
theorem rootOf_spec (L : Nat) (h : L ≤ 1000) : Ieee.double.sqrt (floatOfInt .f64 (L : Int)) = some (rootOf L) ∧ rootOf L ≤ 4629700416936869888 := by
  obtain ⟨s, h1, h2⟩ := F.root_R L h
  unfold rootOf; rw [h1]; exact ⟨rfl, h2⟩

/-- the point of whole numbers -/
def pz (M D Z L : Nat) : Int := ((F.ceilv (ptr (F.rg M 0) (F.rg D 0) (F.rg Z 0) (F.rg L 0) (rootOf L)) : Nat) : Int)

theorem int_R (n : Nat) (h : n < 9007199254740992) : F.R (floatOfInt .f64 (n : Int)) (F.rg n 0) := by rw [F.ofInt_R n h]; exact F.R.self _

theorem pz_calls (M D Z L : Nat) (d : Nat) (hd : F.R d (F.rg D 0)) (hM : M ≤ 1000000000) (hD : D ≤ 1000000000) (hZ : Z ≤ 10) (hL : L ≤ 1000) (w : World) :
    Calls Try.prog 30 #[.agg #[.float .f64 (floatOfInt .f64 (M : Int)), .float .f64 d, .float .f64 (floatOfInt .f64 (Z : Int)), .int .i64 (L : Int)]] w fun e w' => e = .returned (.tuple #[.int .i64 (pz M D Z L), .int .i64 0]) ∧ Below w.heap.size w w' := by
  obtain ⟨e1, ls⟩ := rootOf_spec L hL
  obtain ⟨zd, sp, ml, tot, h⟩ := pointOk (int_R M (by omega)) hd (int_R Z (by omega)) (F.rg_int_mono hM) (F.rg_int_mono hD) (F.rg_int_mono hZ) hL _ e1 ls
  exact (h.calls w).1

theorem ptr_mono {m d z m' d' z' : Nat} (l s : Nat) (h1 : m ≤ m') (h2 : d ≤ d') (h3 : z ≤ z') : ptr m d z l s ≤ ptr m' d' z' l s :=
  F.addr_mono (F.mulr_mono h1 (Nat.le_refl _)) (F.mulr_mono (F.mulr_mono h3 h2) (Nat.le_refl _))
theorem pz_mono {M D Z M' D' Z' : Nat} (L : Nat) (h1 : M ≤ M') (h2 : D ≤ D') (h3 : Z ≤ Z') : pz M D Z L ≤ pz M' D' Z' L :=
  Int.ofNat_le.2 (F.ceilv_mono (ptr_mono _ _ (F.rg_int_mono h1) (F.rg_int_mono h2) (F.rg_int_mono h3)))
theorem pz_zero (M Z L : Nat) (hM : M ≤ 1000000000) (hL : L ≤ 1000) : pz M 0 Z L = (M : Int) * (L : Int) := by
  have hml : M * L ≤ 1000000000 * 1000 := Nat.mul_le_mul hM hL
  have : ptr (F.rg M 0) (F.rg 0 0) (F.rg Z 0) (F.rg L 0) (rootOf L) = F.rg (M * L) 0 := by
    unfold ptr
    rw [F.rg_zero, F.mulr_zero', F.mulr_zero, F.mulr_int (by omega) (by omega) (by omega)]
    exact F.addr_zero (F.V_one _ (by omega)).2
  unfold pz
  rw [this, F.ceilv_int (by omega)]
  exact Int.natCast_mul M L

theorem add_int (M U : Nat) (h : M + U < 9007199254740992) : Ieee.double.add (floatOfInt .f64 (M : Int)) (floatOfInt .f64 (U : Int)) = some (floatOfInt .f64 ((M + U : Nat) : Int)) := by
  rw [F.ofInt_R M (by omega), F.ofInt_R U (by omega), F.ofInt_R (M + U) h]
  obtain ⟨z, h1, h2⟩ := F.add_R (F.R.self (F.rg M 0)) (F.R.self (F.rg U 0)) (F.V_one M (by omega)).2 (F.V_one U (by omega)).2
  rw [F.addr_int (by omega) (by omega) h] at h2
  rw [h1]
  rcases h2 with h2 | ⟨h2, h3⟩
  · rw [h2]
  · exfalso
    -- the sum of two positive words is none below 0
    unfold Ieee.Format.add at h1
    rw [F.read_pos (F.V_one M (by omega)).2, F.read_pos (F.V_one U (by omega)).2] at h1
    simp only [Ieee.Datum.sum, F.signed_false] at h1
    have hd : ∀ a b : Nat, (if ((a : Nat) : Int) + ((b : Nat) : Int) = 0 then false && false else decide (((a : Nat) : Int) + ((b : Nat) : Int) < 0)) = false := by
      intro a b
      split
      · rfl
      · simp; omega
    rw [hd] at h1
    have h4 : Ieee.double.nearest false _ _ = z := Option.some.inj h1
    have := F.nearest_le
    rw [← h4] at h3
    have h5 := F.nearest_le (m := (((F.mag (F.rg M 0) * 2 ^ (-1074 + (F.ex (F.rg M 0) : Int) - min (-1074 + (F.ex (F.rg M 0) : Int)) (-1074 + (F.ex (F.rg U 0) : Int))).toNat : Nat) : Int) + ((F.mag (F.rg U 0) * 2 ^ (-1074 + (F.ex (F.rg U 0) : Int) - min (-1074 + (F.ex (F.rg M 0) : Int)) (-1074 + (F.ex (F.rg U 0) : Int))).toNat : Nat) : Int)).natAbs) (p := min (-1074 + (F.ex (F.rg M 0) : Int)) (-1074 + (F.ex (F.rg U 0) : Int)))
    omega

/-- all that the law PlanGrows asks of the five points -/
theorem grows_facts (M D Z L U : Nat) (hM : M ≤ 1000000) (hL : L ≤ 1000) :
    pz M D Z L ≤ pz (M + U) D Z L ∧ pz M D Z L ≤ pz M (D + U) Z L ∧ pz M D Z L ≤ pz M D (Z + U) L ∧ pz M 0 Z L ≤ pz M D Z L ∧ pz M 0 Z L = (M : Int) * (L : Int) :=
  ⟨pz_mono L (by omega) (by omega) (by omega), pz_mono L (by omega) (by omega) (by omega), pz_mono L (by omega) (by omega) (by omega), pz_mono L (by omega) (by omega) (by omega), pz_zero M Z L (by omega) hL⟩
end Go.Proofs.Ytomcdnkafgmleaa
