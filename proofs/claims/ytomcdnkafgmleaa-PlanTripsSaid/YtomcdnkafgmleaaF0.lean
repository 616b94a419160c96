/- Plain facts on 64-bit floats: the word's size in units of the least one, rounding as a monotone function, and what it leaves exact. -/
import Derived.Laws.FloatArith
namespace Go.Proofs.Ytomcdnkafgmleaa.F
open Ieee

theorem binade_eq : double.binade = 4503599627370496 := rfl
theorem infRung_eq : double.infRung = 9218868437227405312 := rfl
theorem sign_eq : double.signWeight = 9223372036854775808 := rfl
theorem least_eq : double.leastPlace = -1074 := rfl
theorem frac_eq : double.fractionBits = 52 := rfl

/-- the digits of a rung, and the place of the last one above the least -/
def mag (r : Nat) : Nat := if r < 4503599627370496 then r else 4503599627370496 + r % 4503599627370496
def ex (r : Nat) : Nat := r / 4503599627370496 - 1
/-- a rung's size in units of 2^-1074 -/
def V (r : Nat) : Nat := mag r * 2 ^ ex r

theorem read_pos {r : Nat} (h : r < 9218868437227405312) : double.read r = .number false (mag r) (-1074 + (ex r : Int)) := by
  unfold Format.read
  rw [binade_eq, infRung_eq, sign_eq, least_eq]
  have h1 : r / 9223372036854775808 % 2 = 0 := by omega
  have h2 : r % 9223372036854775808 = r := by omega
  dsimp only
  rw [h1, h2]
  unfold mag ex
  by_cases hb : r < 4503599627370496
  · rw [if_pos hb, if_pos hb]
    have : r / 4503599627370496 - 1 = 0 := by omega
    rw [this]; rfl
  · rw [if_neg hb, if_neg hb, if_pos h]; rfl

theorem read_neg {r : Nat} (h : r < 9218868437227405312) : double.read (9223372036854775808 + r) = .number true (mag r) (-1074 + (ex r : Int)) := by
  unfold Format.read
  rw [binade_eq, infRung_eq, sign_eq, least_eq]
  have h1 : (9223372036854775808 + r) / 9223372036854775808 % 2 = 1 := by omega
  have h2 : (9223372036854775808 + r) % 9223372036854775808 = r := by omega
  dsimp only
  rw [h1, h2]
  unfold mag ex
  by_cases hb : r < 4503599627370496
  · rw [if_pos hb, if_pos hb]
    have : r / 4503599627370496 - 1 = 0 := by omega
    rw [this]; rfl
  · rw [if_neg hb, if_neg hb, if_pos h]; rfl

/-- to the nearest whole number, halves to the even one -/
def RE (n d : Nat) : Nat := n / d + (if d < 2 * (n % d) ∨ (d = 2 * (n % d) ∧ n / d % 2 = 1) then 1 else 0)

theorem shl (n k : Nat) : n <<< k = n * 2 ^ k := Nat.shiftLeft_eq n k

theorem log_lt (n : Nat) : n < 2 ^ (n.log2 + 1) := Nat.lt_log2_self
theorem two_pos (k : Nat) : 0 < 2 ^ k := Nat.two_pow_pos k

theorem cut_even (s : Bool) (n d : Nat) : Toward.even.cut s n d = RE n (2 ^ d) := by
  unfold Toward.cut RE
  by_cases h : d ≤ n.log2 + 2
  · rw [Nat.min_eq_left h, shl, Nat.one_mul]
    dsimp only
    congr 1
    by_cases h1 : 2 ^ d < 2 * (n % 2 ^ d)
    · simp [h1]
    · by_cases h2 : 2 ^ d = 2 * (n % 2 ^ d)
      · by_cases h3 : n / 2 ^ d % 2 = 1
        · simp [h3, ← h2]
        · have : n / 2 ^ d % 2 = 0 := by omega
          simp [h1, this]
      · simp [h1, h2]
  · rw [Nat.min_eq_right (by omega), shl, Nat.one_mul]
    have hl := log_lt n
    have h2 : 2 ^ (n.log2 + 2) = 2 * 2 ^ (n.log2 + 1) := by rw [Nat.pow_succ, Nat.mul_comm]
    have h3 : 2 ^ (n.log2 + 2) ≤ 2 ^ d := Nat.pow_le_pow_right (by omega) (by omega)
    have hp := two_pos (n.log2 + 1)
    have e1 : n / 2 ^ d = 0 := Nat.div_eq_of_lt (by omega)
    have e2 : n % 2 ^ d = n := Nat.mod_eq_of_lt (by omega)
    have e3 : n / 2 ^ (n.log2 + 2) = 0 := Nat.div_eq_of_lt (by omega)
    have e4 : n % 2 ^ (n.log2 + 2) = n := Nat.mod_eq_of_lt (by omega)
    dsimp only
    rw [e1, e2, e3, e4]
    have a : ¬ 2 ^ d < 2 * n := by omega
    have b : ¬ 2 ^ d = 2 * n := by omega
    have c : ¬ 2 ^ (n.log2 + 2) < 2 * n := by omega
    have e : ¬ 2 ^ (n.log2 + 2) = 2 * n := by omega
    simp [a, b, c]

theorem RE_scale (n d k : Nat) (hk : 0 < k) : RE (n * k) (d * k) = RE n d := by
  unfold RE
  rw [Nat.mul_div_mul_right _ _ hk, Nat.mul_mod_mul_right]
  have a : (d * k < 2 * (n % d * k)) ↔ (d < 2 * (n % d)) := by
    rw [← Nat.mul_assoc]; exact Nat.mul_lt_mul_right hk
  have b : (d * k = 2 * (n % d * k)) ↔ (d = 2 * (n % d)) := by
    rw [← Nat.mul_assoc]; exact ⟨fun h => Nat.eq_of_mul_eq_mul_right hk h, fun h => congrArg (· * k) h⟩
  simp only [a, b]

theorem RE_one (n : Nat) : RE n 1 = n := by unfold RE; simp [Nat.mod_one]

theorem RE_mono {n m : Nat} (d : Nat) (h : n ≤ m) : RE n d ≤ RE m d := by
  unfold RE
  have h1 : n / d ≤ m / d := Nat.div_le_div_right h
  rcases Nat.lt_or_ge (n / d) (m / d) with h2 | h2
  · split <;> split <;> omega
  · have e : n / d = m / d := by omega
    have en := Nat.div_add_mod n d
    have em := Nat.div_add_mod m d
    rw [e] at en
    have : n % d ≤ m % d := by omega
    rw [e]
    split <;> split <;> omega

/-- the place of the last digit that is kept, and the rung that 'mag * 2 ^ place' is rounded to, were there no greatest one -/
def last (m : Nat) (p : Int) : Int := max (p + m.log2 - 52) (-1074)
def rg (m : Nat) (p : Int) : Nat :=
  if m = 0 then 0 else (last m p + 1074).toNat * 4503599627370496 + RE (m * 2 ^ (p - last m p).toNat) (2 ^ (last m p - p).toNat)

theorem nearest_eq (s : Bool) (m : Nat) (p : Int) : double.nearest s m p = double.word s (min (rg m p) 9218868437227405312) := by
  unfold Format.nearest rg
  by_cases h : m = 0
  · rw [if_pos h, if_pos h]; rfl
  · rw [if_neg h, if_neg h]
    simp only [binade_eq, infRung_eq, least_eq, frac_eq, cut_even, shl, last]
    congr 3

theorem word_false (r : Nat) : double.word false r = r := rfl
theorem word_true (r : Nat) : double.word true r = 9223372036854775808 + r := rfl

theorem log2_mul_pow (m k : Nat) (h : m ≠ 0) : (m * 2 ^ k).log2 = m.log2 + k := by
  have hp := two_pos k
  have h0 : m * 2 ^ k ≠ 0 := Nat.mul_ne_zero h (by omega)
  refine (Nat.log2_eq_iff h0).2 ⟨?_, ?_⟩
  · rw [Nat.pow_add]; exact Nat.mul_le_mul_right _ (Nat.log2_self_le h)
  · rw [show m.log2 + k + 1 = (m.log2 + 1) + k by omega, Nat.pow_add]; exact Nat.mul_lt_mul_of_pos_right (log_lt m) hp

theorem rg_scale (m k : Nat) (p : Int) : rg (m * 2 ^ k) p = rg m (p + k) := by
  by_cases h : m = 0
  · subst h; simp [rg]
  · have hp := two_pos k
    have h0 : m * 2 ^ k ≠ 0 := Nat.mul_ne_zero h (by omega)
    have hl : last (m * 2 ^ k) p = last m (p + k) := by unfold last; rw [log2_mul_pow m k h]; omega
    unfold rg
    rw [if_neg h, if_neg h0, hl]
    congr 1
    generalize last m (p + k) = L
    by_cases hL : L ≤ p
    · have e1 : (L - p).toNat = 0 := by omega
      have e2 : (L - (p + k)).toNat = 0 := by omega
      have e3 : (p + k - L).toNat = k + (p - L).toNat := by omega
      rw [e1, e2, e3, Nat.pow_add, Nat.mul_assoc]
    · by_cases hM : L ≤ p + k
      · have e1 : (p - L).toNat = 0 := by omega
        have e2 : (L - (p + k)).toNat = 0 := by omega
        have e3 : k = (p + k - L).toNat + (L - p).toNat := by omega
        rw [e1, e2, Nat.pow_zero, Nat.mul_one, RE_one]
        conv => lhs; rw [e3, Nat.pow_add, ← Nat.mul_assoc]
        have := RE_scale (m * 2 ^ (p + k - L).toNat) 1 (2 ^ (L - p).toNat) (two_pos _)
        rw [Nat.one_mul] at this
        rw [this, RE_one]
      · have e1 : (p - L).toNat = 0 := by omega
        have e2 : (p + k - L).toNat = 0 := by omega
        have e3 : (L - p).toNat = (L - (p + k)).toNat + k := by omega
        rw [e1, e2, e3, Nat.pow_zero, Nat.mul_one, Nat.mul_one, Nat.pow_add, RE_scale _ _ _ (two_pos _)]

theorem log2_mono {m n : Nat} (h : m ≤ n) (hm : m ≠ 0) : m.log2 ≤ n.log2 := by
  have hn : n ≠ 0 := by omega
  exact (Nat.le_log2 hn).2 (Nat.le_trans (Nat.log2_self_le hm) h)

theorem RE_le (n d K : Nat) (hd : 0 < d) (h : n ≤ K * d) : RE n d ≤ K := by
  have := RE_mono d h
  have e := RE_scale K 1 d hd
  rw [Nat.one_mul, RE_one] at e
  omega
theorem le_RE (n d K : Nat) (hd : 0 < d) (h : K * d ≤ n) : K ≤ RE n d := by
  have := RE_mono d h
  have e := RE_scale K 1 d hd
  rw [Nat.one_mul, RE_one] at e
  omega

theorem kept_le (m : Nat) (p L : Int) (h : p + m.log2 - 52 ≤ L) : RE (m * 2 ^ (p - L).toNat) (2 ^ (L - p).toNat) ≤ 9007199254740992 := by
  refine RE_le _ _ _ (two_pos _) ?_
  have hl := log_lt m
  have : (m.log2 + 1) + (p - L).toNat ≤ 53 + (L - p).toNat := by omega
  calc m * 2 ^ (p - L).toNat ≤ 2 ^ (m.log2 + 1) * 2 ^ (p - L).toNat := Nat.mul_le_mul_right _ (by omega)
    _ = 2 ^ ((m.log2 + 1) + (p - L).toNat) := (Nat.pow_add _ _ _).symm
    _ ≤ 2 ^ (53 + (L - p).toNat) := Nat.pow_le_pow_right (by omega) this
    _ = 9007199254740992 * 2 ^ (L - p).toNat := by rw [Nat.pow_add]

theorem le_kept (m : Nat) (p L : Int) (hm : m ≠ 0) (h : L ≤ p + m.log2 - 52) : 4503599627370496 ≤ RE (m * 2 ^ (p - L).toNat) (2 ^ (L - p).toNat) := by
  refine le_RE _ _ _ (two_pos _) ?_
  have hl := Nat.log2_self_le hm
  have : 52 + (L - p).toNat ≤ m.log2 + (p - L).toNat := by omega
  calc 4503599627370496 * 2 ^ (L - p).toNat = 2 ^ (52 + (L - p).toNat) := by rw [Nat.pow_add]
    _ ≤ 2 ^ (m.log2 + (p - L).toNat) := Nat.pow_le_pow_right (by omega) this
    _ = 2 ^ m.log2 * 2 ^ (p - L).toNat := by rw [Nat.pow_add]
    _ ≤ m * 2 ^ (p - L).toNat := Nat.mul_le_mul_right _ hl

theorem rg_mono {m n : Nat} (p : Int) (h : m ≤ n) : rg m p ≤ rg n p := by
  by_cases hm : m = 0
  · subst hm; simp [rg]
  · have hn : n ≠ 0 := by omega
    have hlog := log2_mono h hm
    unfold rg
    rw [if_neg hm, if_neg hn]
    have hL : last m p ≤ last n p := by unfold last; omega
    rcases (by omega : last m p < last n p ∨ last m p = last n p) with hlt | e
    · have k1 := kept_le m p (last m p) (by unfold last; omega)
      have k2 := le_kept n p (last n p) hn (by unfold last at *; omega)
      have hge : -1074 ≤ last m p := by unfold last; omega
      have h3 : (last m p + 1074).toNat + 1 ≤ (last n p + 1074).toNat := by omega
      have h4 := Nat.mul_le_mul_right 4503599627370496 h3
      omega
    · rw [e]
      exact Nat.add_le_add_left (RE_mono _ (Nat.mul_le_mul_right _ h)) _

theorem mag_log {r : Nat} (h : 4503599627370496 ≤ r) : (mag r).log2 = 52 := by
  unfold mag
  rw [if_neg (by omega)]
  have h2 := Nat.mod_lt r (show 4503599627370496 > 0 by omega)
  exact (Nat.log2_eq_iff (by omega)).2 ⟨by omega, by omega⟩

theorem rg_V (r : Nat) : rg (V r) (-1074) = r := by
  unfold V
  rw [rg_scale]
  by_cases hb : r < 4503599627370496
  · have e0 : ex r = 0 := by unfold ex; omega
    have e1 : mag r = r := by unfold mag; rw [if_pos hb]
    rw [e0, e1]
    by_cases h0 : r = 0
    · subst h0; simp [rg]
    · have hl : r.log2 < 52 := (Nat.log2_lt h0).2 hb
      unfold rg
      rw [if_neg h0]
      have eL : last r (-1074 + ((0 : Nat) : Int)) = -1074 := by unfold last; omega
      rw [eL]
      simp [RE_one]
  · have hl := mag_log (show 4503599627370496 ≤ r by omega)
    have hm : mag r ≠ 0 := by unfold mag; rw [if_neg hb]; omega
    unfold rg
    rw [if_neg hm]
    have eL : last (mag r) (-1074 + (ex r : Int)) = -1074 + (ex r : Int) := by unfold last; rw [hl]; omega
    rw [eL]
    have e2 : (-1074 + (ex r : Int) - (-1074 + (ex r : Int))).toNat = 0 := by omega
    have e3 : (-1074 + (ex r : Int) + 1074).toNat = ex r := by omega
    rw [e2, e3, Nat.pow_zero, Nat.mul_one, RE_one]
    unfold mag ex
    rw [if_neg hb]
    have := Nat.div_add_mod r 4503599627370496
    have h3 : 1 ≤ r / 4503599627370496 := by omega
    omega

theorem V_lt {r s : Nat} (h : r < s) : V r < V s := by
  rcases Nat.lt_or_ge (V r) (V s) with h1 | h1
  · exact h1
  · have := rg_mono (-1074) h1
    rw [rg_V, rg_V] at this
    omega
theorem V_le {r s : Nat} (h : r ≤ s) : V r ≤ V s := by
  rcases Nat.lt_or_ge r s with h1 | h1
  · exact Nat.le_of_lt (V_lt h1)
  · have : r = s := by omega
    rw [this]; exact Nat.le_refl _
theorem V_inj {r s : Nat} (h : V r = V s) : r = s := by
  have := rg_V r
  rw [h, rg_V] at this; exact this.symm
theorem V_zero : V 0 = 0 := rfl
end Go.Proofs.Ytomcdnkafgmleaa.F
