/- Plain facts on 64-bit floats: whole numbers stay whole: smoothing with weight 1 and 1/2, a mean of like numbers, a number turned round. -/
import Derived.Test.YtomcdnkafgmleaaF5
namespace Go.Proofs.Ytomcdnkafgmleaa.F
open Ieee

/-- exactness: few digits at any place from the least on -/
theorem V_exact (m k : Nat) (hm : m < 9007199254740992) : V (rg (m * 2 ^ k) (-1074)) = m * 2 ^ k := by
  rw [rg_scale]
  by_cases h0 : m = 0
  · subst h0; rw [rg_zero, V_zero, Nat.zero_mul]
  have hl : m.log2 < 53 := (Nat.log2_lt h0).2 hm
  have h1 := Nat.log2_self_le h0
  have h2 := log_lt m
  -- the rung that has this size
  suffices h : ∃ r, V r = m * 2 ^ k by
    obtain ⟨r, hr⟩ := h
    have : rg (m * 2 ^ k) (-1074) = r := by rw [← hr, rg_V]
    rw [rg_scale] at this
    rw [this, hr]
  by_cases hs : m * 2 ^ k < 4503599627370496
  · refine ⟨m * 2 ^ k, ?_⟩
    have e1 : ex (m * 2 ^ k) = 0 := by unfold ex; omega
    rw [V_mul, e1, Nat.pow_zero, Nat.mul_one]
    unfold mag; rw [if_pos hs]
  · -- normal: the digits are brought to 53
    have hk : 52 - m.log2 ≤ k := by
      rcases Nat.lt_or_ge k (52 - m.log2) with g | g
      · exfalso
        have : m * 2 ^ k < 2 ^ (m.log2 + 1) * 2 ^ k := Nat.mul_lt_mul_of_pos_right h2 (two_pos _)
        rw [← Nat.pow_add] at this
        have h3 : 2 ^ (m.log2 + 1 + k) ≤ 2 ^ 52 := Nat.pow_le_pow_right (by omega) (by omega)
        have h4 : (2 : Nat) ^ 52 = 4503599627370496 := by decide
        omega
      · exact g
    have hm52 : 2 ^ m.log2 * 2 ^ (52 - m.log2) = 4503599627370496 := by
      rw [← Nat.pow_add, show m.log2 + (52 - m.log2) = 52 by omega]
    have hm53 : 2 ^ (m.log2 + 1) * 2 ^ (52 - m.log2) = 9007199254740992 := by
      rw [← Nat.pow_add, show m.log2 + 1 + (52 - m.log2) = 53 by omega]
    have a1 : 4503599627370496 ≤ m * 2 ^ (52 - m.log2) := by rw [← hm52]; exact Nat.mul_le_mul_right _ h1
    have a2 : m * 2 ^ (52 - m.log2) < 9007199254740992 := by rw [← hm53]; exact Nat.mul_lt_mul_of_pos_right h2 (two_pos _)
    have hfin : m * 2 ^ (52 - m.log2) * 2 ^ (k - (52 - m.log2)) = m * 2 ^ k := by
      rw [Nat.mul_assoc, ← Nat.pow_add, show 52 - m.log2 + (k - (52 - m.log2)) = k by omega]
    generalize m * 2 ^ (52 - m.log2) = K at a1 a2 hfin
    generalize k - (52 - m.log2) = e at hfin
    refine ⟨e * 4503599627370496 + K, ?_⟩
    have e1 : ex (e * 4503599627370496 + K) = e := by unfold ex; omega
    have e2 : mag (e * 4503599627370496 + K) = K := by unfold mag; rw [if_neg (by omega)]; omega
    rw [V_mul, e1, e2, hfin]

theorem one_eq : one = 2 ^ e74 := rfl
/-- weight 1 -/
theorem mulr_one {a : Nat} (h : a < 9218868437227405312) : mulr (rg 1 0) a = a := by
  unfold mulr
  rw [(V_one 1 (by omega)).1, Nat.one_mul, Nat.mul_comm]
  have : rg (V a * one) (-2148) = rg (V a) (-1074) := by rw [one_eq, rg_scale]; rfl
  rw [this, rg_V]; omega
theorem subr_self (a : Nat) : subr a a = 0 := by unfold subr; rw [Nat.sub_self, rg_zero]; rfl

theorem mi_one : R (mi 4607182418800017408 4607182418800017408) 0 ∧ double.sub 4607182418800017408 4607182418800017408 = some (mi 4607182418800017408 4607182418800017408) := by
  have e : double.sub 4607182418800017408 4607182418800017408 = some 0 := by decide +kernel
  unfold mi; rw [e]; exact ⟨R.self 0, rfl⟩

theorem smo_one {f : Nat → Int} {len : Nat} (hl : len ≤ 4096) (hf : ∀ i, i < len → 0 ≤ f i ∧ f i ≤ 1099511627776) : ∀ k, k < len → R (smo 4607182418800017408 (mi 4607182418800017408 4607182418800017408) f k) (rg (f k).toNat 0)
  | 0, h => (fl_R (hf 0 h).1 (hf 0 h).2).1
  | k + 1, h => by
    have hw : R 4607182418800017408 (rg 1 0) := by rw [rg1]; exact R.self _
    have hr := mi_one.1
    have l1 : rg 1 0 < 9218868437227405312 := by rw [rg1]; omega
    obtain ⟨p, h1, h2⟩ := smo_R hw hr (Nat.le_refl _) (Nat.zero_le _) hl hf k (by omega)
    obtain ⟨hx, lx⟩ := fl_R (hf (k + 1) h).1 (hf (k + 1) h).2
    obtain ⟨z1, e1, r1⟩ := mul_R hw hx l1 (lt_infr lx (by omega))
    obtain ⟨z2, e2, r2⟩ := mul_R hr h1 (by omega) (lt_infr h2 (by omega))
    rw [mulr_one (lt_infr lx (by omega))] at r1
    rw [mulr_zero] at r2
    obtain ⟨z3, e3, r3⟩ := add_R r1 r2 (lt_infr lx (by omega)) (by omega)
    rw [addr_zero (lt_infr lx (by omega))] at r3
    have m1 : mu 4607182418800017408 (floatOfInt .f64 (f (k + 1))) = z1 := by unfold mu; rw [e1]; rfl
    have m2 : mu (mi 4607182418800017408 4607182418800017408) (smo 4607182418800017408 (mi 4607182418800017408 4607182418800017408) f k) = z2 := by unfold mu; rw [e2]; rfl
    show R (pl (mu 4607182418800017408 (floatOfInt .f64 (f (k + 1)))) (mu (mi 4607182418800017408 4607182418800017408) (smo 4607182418800017408 (mi 4607182418800017408 4607182418800017408) f k))) _
    rw [m1, m2]
    have m3 : pl z1 z2 = z3 := by unfold pl; rw [e3]; rfl
    rw [m3]; exact r3

/-- weight 1/2, like numbers -/
def half : Nat := 4602678819172646912
theorem V_half : V half = 2 ^ (e74 - 1) := by decide +kernel
theorem half_le : half ≤ rg 1 0 := by rw [rg1]; decide
theorem mi_half : R (mi 4607182418800017408 half) half ∧ double.sub 4607182418800017408 half = some (mi 4607182418800017408 half) := by
  have e : double.sub 4607182418800017408 half = some half := by decide +kernel
  unfold mi; rw [e]; exact ⟨R.self _, rfl⟩
theorem half_sum {c : Nat} (hc : c < 9007199254740992) : addr (mulr half (rg c 0)) (mulr half (rg c 0)) = rg c 0 := by
  have hv := V_one c hc
  have h1 : rg (V half * V (rg c 0)) (-2148) = rg (c * 2 ^ (e74 - 1)) (-1074) := by
    rw [V_half, hv.1, one_eq]
    have : 2 ^ (e74 - 1) * (c * 2 ^ e74) = c * 2 ^ (e74 - 1) * 2 ^ e74 := by rw [← Nat.mul_assoc, Nat.mul_comm (2 ^ (e74 - 1)) c]
    rw [this, rg_scale]; rfl
  have h2 : rg (c * 2 ^ (e74 - 1)) (-1074) ≤ rg c 0 := by
    rw [← rg_one c, one_eq]
    exact rg_mono _ (Nat.mul_le_mul_left _ (Nat.pow_le_pow_right (by omega) (by rw [e74_eq]; omega)))
  have h3 : mulr half (rg c 0) = rg (c * 2 ^ (e74 - 1)) (-1074) := by unfold mulr; rw [h1]; omega
  rw [h3]
  unfold addr
  rw [V_exact c _ hc]
  have : c * 2 ^ (e74 - 1) + c * 2 ^ (e74 - 1) = c * one := by
    rw [one_eq, show e74 = (e74 - 1) + 1 from rfl, Nat.pow_succ, ← Nat.mul_assoc]
    rw [show e74 - 1 + 1 - 1 = e74 - 1 from rfl]; omega
  rw [this, rg_one]; omega

theorem smo_half {c : Int} {len : Nat} (hl : len ≤ 4096) (h0 : 0 ≤ c) (h1 : c ≤ 1099511627776) : ∀ k, k < len → R (smo half (mi 4607182418800017408 half) (fun _ => c) k) (rg c.toNat 0)
  | 0, _ => (fl_R h0 h1).1
  | k + 1, h => by
    have ih := smo_half hl h0 h1 k (by omega)
    obtain ⟨hx, lx⟩ := fl_R h0 h1
    have lh : half < 9218868437227405312 := by decide
    have lr := lt_infr lx (by omega)
    obtain ⟨z1, e1, r1⟩ := mul_R (R.self half) hx lh lr
    obtain ⟨z2, e2, r2⟩ := mul_R mi_half.1 ih lh lr
    have hmul : mulr half (rg c.toNat 0) ≤ rg c.toNat 0 := by
      have := mulr_mono half_le (Nat.le_refl (rg c.toNat 0))
      rw [mulr_one lr] at this; exact this
    obtain ⟨z3, e3, r3⟩ := add_R r1 r2 (by omega) (by omega)
    rw [half_sum (by omega)] at r3
    have m1 : mu half (floatOfInt .f64 c) = z1 := by unfold mu; rw [e1]; rfl
    have m2 : mu (mi 4607182418800017408 half) (smo half (mi 4607182418800017408 half) (fun _ => c) k) = z2 := by unfold mu; rw [e2]; rfl
    show R (pl (mu half (floatOfInt .f64 c)) (mu (mi 4607182418800017408 half) (smo half (mi 4607182418800017408 half) (fun _ => c) k))) _
    rw [m1, m2]
    have m3 : pl z1 z2 = z3 := by unfold pl; rw [e3]; rfl
    rw [m3]; exact r3

/-- a number and the same turned round -/
theorem flip (s : Bool) (r : Nat) (h : r < 9223372036854775808) : double.word s r ^^^ 2 ^ 63 = double.word (!s) r := by
  have key : ∀ r : Nat, r < 2 ^ 63 → r ^^^ 2 ^ 63 = 2 ^ 63 + r := by
    intro r h
    apply Nat.eq_of_testBit_eq
    intro i
    rw [Nat.testBit_xor, Nat.testBit_two_pow]
    rcases Nat.lt_trichotomy i 63 with g | g | g
    · have h3 : ¬ (63 = i) := by omega
      rw [Nat.testBit_two_pow_add_gt g]; simp [h3]
    · subst g; rw [Nat.testBit_two_pow_add_eq]; simp
    · have h1 : r.testBit i = false := Nat.testBit_lt_two_pow (Nat.lt_of_lt_of_le h (Nat.pow_le_pow_right (by omega) (by omega)))
      have h2 : (2 ^ 63 + r).testBit i = false := Nat.testBit_lt_two_pow (Nat.lt_of_lt_of_le (show 2 ^ 63 + r < 2 ^ 64 by omega) (Nat.pow_le_pow_right (by omega) (by omega)))
      have h3 : ¬ (63 = i) := by omega
      rw [h1, h2]; simp [h3]
  have hp : (2 : Nat) ^ 63 = 9223372036854775808 := by decide
  cases s
  · show r ^^^ 2 ^ 63 = 9223372036854775808 + r
    rw [key r (by omega), hp]
  · show (9223372036854775808 + r) ^^^ 2 ^ 63 = r
    rw [← hp, ← key r (by omega), Nat.xor_assoc, Nat.xor_self, Nat.xor_zero]

theorem neg_order (a b : Int) (h : a = -b) : double.order (floatOfInt .f64 a) (floatOfInt .f64 b ^^^ 2 ^ 63) = some .eq := by
  subst h
  by_cases hb : b = 0
  · subst hb; decide +kernel
  · have e1 : floatOfInt .f64 b = double.word (decide (b < 0)) (min (rg b.natAbs 0) 9218868437227405312) := by rw [← nearest_eq]; rfl
    have e2 : floatOfInt .f64 (-b) = double.word (decide (-b < 0)) (min (rg b.natAbs 0) 9218868437227405312) := by rw [← nearest_eq, ← Int.natAbs_neg]; rfl
    have hd : decide (-b < 0) = !(decide (b < 0)) := by
      by_cases h : b < 0
      · rw [decide_eq_true h, decide_eq_false (by omega)]; rfl
      · rw [decide_eq_false h, decide_eq_true (by omega)]; rfl
    rw [e1, e2, hd, flip _ _ (by omega)]
    exact order_NN (word_NN _ (by omega))

/-- a quotient of whole numbers that is whole -/
theorem div_exact (k c : Nat) (hk : 0 < k) (hk2 : k < 9007199254740992) (hkc : k * c < 9007199254740992) (hc : c < 9007199254740992) : double.div (rg (k * c) 0) (rg k 0) = some (rg c 0) := by
  obtain ⟨vb, lb⟩ := V_one k hk2
  obtain ⟨va, la⟩ := V_one (k * c) hkc
  have hb0 : rg k 0 ≠ 0 := by
    intro e; rw [e, V_zero] at vb
    have := Nat.mul_pos hk one_pos; omega
  by_cases h0 : c = 0
  · subst h0
    rw [Nat.mul_zero, rg_zero]
    unfold Format.div
    rw [read_pos lb, read_pos (r := 0) (by omega)]
    simp only [Datum.quotient]
    rw [if_neg (mag_ne hb0)]
    simp [mag, Format.write, Format.nearest, word_false]
  have hone : 2 ^ 52 ≤ one := by rw [one_eq]; exact Nat.pow_le_pow_right (by omega) (by rw [e74_eq]; omega)
  have big : ∀ m, 0 < m → m < 9007199254740992 → 4503599627370496 ≤ rg m 0 := by
    intro m hm0 hm
    rcases Nat.lt_or_ge (rg m 0) 4503599627370496 with g | g
    · exfalso
      have hv := (V_one m hm).1
      have e1 : ex (rg m 0) = 0 := by unfold ex; omega
      rw [V_mul, e1, Nat.pow_zero, Nat.mul_one] at hv
      unfold mag at hv; rw [if_pos g] at hv
      have : one ≤ m * one := Nat.le_mul_of_pos_left _ hm0
      have h52 : (2 : Nat) ^ 52 = 4503599627370496 := by decide
      omega
    · exact g
  have hkc0 : 0 < k * c := Nat.mul_pos hk (by omega)
  have ba := big _ hkc0 hkc
  have bb := big _ hk hk2
  have lga := mag_log ba
  have lgb := mag_log bb
  have ma : 4503599627370496 ≤ mag (rg (k * c) 0) ∧ mag (rg (k * c) 0) < 9007199254740992 := by
    unfold mag; rw [if_neg (by omega)]
    have := Nat.mod_lt (rg (k * c) 0) (show 4503599627370496 > 0 by omega)
    omega
  have mb : 4503599627370496 ≤ mag (rg k 0) ∧ mag (rg k 0) < 9007199254740992 := by
    unfold mag; rw [if_neg (by omega)]
    have := Nat.mod_lt (rg k 0) (show 4503599627370496 > 0 by omega)
    omega
  rw [V_mul] at va vb
  unfold Format.div
  rw [read_pos la, read_pos lb]
  have hb1 := mag_ne hb0
  simp only [Datum.quotient, lga, lgb, frac_eq]
  rw [if_neg hb1]
  generalize mag (rg (k * c) 0) = A at *
  generalize mag (rg k 0) = B at *
  generalize ex (rg (k * c) 0) = ea at *
  generalize ex (rg k 0) = eb at *
  have hrel : A * 2 ^ ea = c * B * 2 ^ eb := by rw [va, Nat.mul_assoc c, vb, ← Nat.mul_assoc, Nat.mul_comm k c]
  -- the quotient is whole
  have hq : ∃ Q K : Nat, A * 2 ^ 54 = Q * B ∧ 2 * Q = c * 2 ^ K ∧ ((-1074 + (ea : Int)) - (-1074 + (eb : Int)) - ((52 + 2 + 52 - 52 : Nat) : Int) - 1 + (K : Int)) = 0 := by
    rcases Nat.le_total eb ea with g | g
    · -- A * 2^(ea-eb) = c * B
      have h1 : A * 2 ^ (ea - eb) = c * B := by
        have : A * 2 ^ (ea - eb) * 2 ^ eb = c * B * 2 ^ eb := by rw [Nat.mul_assoc, ← Nat.pow_add, show ea - eb + eb = ea by omega, hrel]
        exact Nat.eq_of_mul_eq_mul_right (two_pos _) this
      have hd : ea - eb ≤ 54 := by
        rcases Nat.lt_or_ge 54 (ea - eb) with h | h
        · exfalso
          have h2 : 2 ^ 55 ≤ 2 ^ (ea - eb) := Nat.pow_le_pow_right (by omega) h
          have h3 : 4503599627370496 * 2 ^ 55 ≤ A * 2 ^ (ea - eb) := Nat.mul_le_mul ma.1 h2
          have h4 : c * B ≤ 9007199254740992 * 9007199254740992 := Nat.mul_le_mul (by omega) (by omega)
          have h5 : (4503599627370496 : Nat) * 2 ^ 55 > 9007199254740992 * 9007199254740992 := by decide
          omega
        · exact h
      refine ⟨c * 2 ^ (54 - (ea - eb)), 55 - (ea - eb), ?_, ?_, by omega⟩
      · have : A * 2 ^ 54 = A * 2 ^ (ea - eb) * 2 ^ (54 - (ea - eb)) := by rw [Nat.mul_assoc, ← Nat.pow_add, show ea - eb + (54 - (ea - eb)) = 54 by omega]
        rw [this, h1, Nat.mul_assoc, Nat.mul_comm B, ← Nat.mul_assoc]
      · rw [show 55 - (ea - eb) = 54 - (ea - eb) + 1 by omega, Nat.pow_succ]; ac_rfl
    · have h1 : A = c * B * 2 ^ (eb - ea) := by
        have : A * 2 ^ ea = c * B * 2 ^ (eb - ea) * 2 ^ ea := by rw [hrel, Nat.mul_assoc (c * B), ← Nat.pow_add, show eb - ea + ea = eb by omega]
        exact Nat.eq_of_mul_eq_mul_right (two_pos _) this
      refine ⟨c * 2 ^ (54 + (eb - ea)), 55 + (eb - ea), ?_, ?_, by omega⟩
      · rw [h1, Nat.mul_assoc (c * B), ← Nat.pow_add, Nat.add_comm (eb - ea) 54, Nat.mul_assoc, Nat.mul_comm B, ← Nat.mul_assoc]
      · rw [show 55 + (eb - ea) = 54 + (eb - ea) + 1 by omega, Nat.pow_succ]; ac_rfl
  obtain ⟨Q, K, q1, q2, q3⟩ := hq
  have hsh : A <<< (52 + 2 + 52 - 52) = Q * B := by rw [shl]; exact q1
  rw [hsh, Nat.mul_div_cancel _ (by omega : 0 < B), Nat.mul_mod_left]
  simp only [Option.map_some, Format.write, bne_self_eq_false, Bool.toNat_false, Nat.add_zero]
  rw [nearest_pos, q2, rg_scale, q3]
  have := (V_one c hc).2
  rw [show min (rg c 0) 9218868437227405312 = rg c 0 by omega]
end Go.Proofs.Ytomcdnkafgmleaa.F
