/- Plain facts on 64-bit floats that are not below 0: products, sums, whole numbers, what is cut and what is rounded up; all of it monotone. -/
import Derived.Test.YtomcdnkafgmleaaF1
namespace Go.Proofs.Ytomcdnkafgmleaa.F
open Ieee

/-- the word of a rung, or of the zero below 0 -/
def R (x r : Nat) : Prop := x = r ∨ (r = 0 ∧ x = 9223372036854775808)
theorem R.self (r : Nat) : R r r := .inl rfl

theorem R.read {x r : Nat} (h : R x r) (hr : r < 9218868437227405312) : ∃ s, double.read x = .number s (mag r) (-1074 + (ex r : Int)) ∧ (s = true → mag r = 0) := by
  rcases h with rfl | ⟨rfl, rfl⟩
  · exact ⟨false, read_pos hr, fun h => by cases h⟩
  · exact ⟨true, read_neg (r := 0) (by omega), fun _ => rfl⟩

def mulr (a b : Nat) : Nat := min (rg (V a * V b) (-2148)) 9218868437227405312
def addr (a b : Nat) : Nat := min (rg (V a + V b) (-1074)) 9218868437227405312

theorem word_R (s : Bool) (r : Nat) (h : s = true → r = 0) : R (double.word s r) r := by
  cases s
  · exact .inl rfl
  · have := h rfl; subst this; exact .inr ⟨rfl, rfl⟩

theorem rg_zero (p : Int) : rg 0 p = 0 := by simp [rg]

theorem mul_R {x y a b : Nat} (hx : R x a) (hy : R y b) (ha : a < 9218868437227405312) (hb : b < 9218868437227405312) : ∃ z, double.mul x y = some z ∧ R z (mulr a b) := by
  obtain ⟨s, h1, s1⟩ := hx.read ha
  obtain ⟨t, h2, t1⟩ := hy.read hb
  unfold Format.mul
  rw [h1, h2]
  refine ⟨_, rfl, ?_⟩
  show R (double.nearest (s ^^ t) (mag a * mag b) (-1074 + (ex a : Int) + (-1074 + (ex b : Int)))) _
  rw [nearest_eq]
  have e : rg (mag a * mag b) (-1074 + (ex a : Int) + (-1074 + (ex b : Int))) = rg (V a * V b) (-2148) := by
    have : V a * V b = mag a * mag b * 2 ^ (ex a + ex b) := by
      rw [V_mul, V_mul, Nat.pow_add]; exact Nat.mul_mul_mul_comm _ _ _ _
    rw [this, rg_scale]; congr 1; omega
  rw [e]
  refine word_R _ _ fun h => ?_
  have : mag a * mag b = 0 := by
    cases s
    · cases t
      · cases h
      · rw [t1 rfl, Nat.mul_zero]
    · rw [s1 rfl, Nat.zero_mul]
  have v : V a * V b = 0 := by
    rw [V_mul, V_mul, Nat.mul_mul_mul_comm, this, Nat.zero_mul]
  rw [v, rg_zero]; rfl

theorem signed_R (s : Bool) (m u : Nat) (h : s = true → m = 0) : signed s m u = ((m * 2 ^ u : Nat) : Int) := by
  cases s
  · exact signed_false m u
  · rw [h rfl, signed_true]; simp

theorem scaled (r k : Nat) (h : k ≤ ex r) : mag r * 2 ^ (ex r - k) * 2 ^ k = V r := by
  rw [V_mul, Nat.mul_assoc, ← Nat.pow_add, show ex r - k + k = ex r by omega]

theorem add_R {x y a b : Nat} (hx : R x a) (hy : R y b) (ha : a < 9218868437227405312) (hb : b < 9218868437227405312) : ∃ z, double.add x y = some z ∧ R z (addr a b) := by
  obtain ⟨s, h1, s1⟩ := hx.read ha
  obtain ⟨t, h2, t1⟩ := hy.read hb
  unfold Format.add
  rw [h1, h2]
  simp only [Datum.sum]
  refine ⟨_, rfl, ?_⟩
  have e1 : (-1074 + (ex a : Int) - min (-1074 + (ex a : Int)) (-1074 + (ex b : Int))).toNat = ex a - min (ex a) (ex b) := by omega
  have e2 : (-1074 + (ex b : Int) - min (-1074 + (ex a : Int)) (-1074 + (ex b : Int))).toNat = ex b - min (ex a) (ex b) := by omega
  have e3 : min (-1074 + (ex a : Int)) (-1074 + (ex b : Int)) = -1074 + ((min (ex a) (ex b) : Nat) : Int) := by omega
  rw [e1, e2, e3, signed_R s _ _ s1, signed_R t _ _ t1]
  have v1 := scaled a (min (ex a) (ex b)) (by omega)
  have v2 := scaled b (min (ex a) (ex b)) (by omega)
  have hs : (mag a * 2 ^ (ex a - min (ex a) (ex b)) + mag b * 2 ^ (ex b - min (ex a) (ex b))) * 2 ^ min (ex a) (ex b) = V a + V b := by rw [Nat.add_mul, v1, v2]
  have hz : s = true → mag a * 2 ^ (ex a - min (ex a) (ex b)) = 0 := fun h => by rw [s1 h, Nat.zero_mul]
  have hz2 : t = true → mag b * 2 ^ (ex b - min (ex a) (ex b)) = 0 := fun h => by rw [t1 h, Nat.zero_mul]
  generalize mag a * 2 ^ (ex a - min (ex a) (ex b)) = A at hs hz ⊢
  generalize mag b * 2 ^ (ex b - min (ex a) (ex b)) = B at hs hz2 ⊢
  have hn : ((A : Int) + (B : Int)).natAbs = A + B := by omega
  rw [hn]
  simp only [Format.write]
  rw [nearest_eq]
  have hr : rg (A + B) (-1074 + ((min (ex a) (ex b) : Nat) : Int)) = rg (V a + V b) (-1074) := by rw [← rg_scale, hs]
  rw [hr]
  refine word_R _ _ fun h => ?_
  have h0 : A + B = 0 := by
    split at h
    · omega
    · have := of_decide_eq_true h; omega
  rw [← hs, h0, Nat.zero_mul, rg_zero]; rfl

/-- one, in units of the least place -/
def e74 : Nat := 1074
theorem e74_eq : e74 = 1074 := rfl
def one : Nat := 2 ^ e74
theorem one_pos : 0 < one := two_pos e74
theorem V_one (m : Nat) (hm : m < 9007199254740992) : V (rg m 0) = m * one ∧ rg m 0 < 9218868437227405312 := by
  by_cases h0 : m = 0
  · subst h0; rw [rg_zero]; exact ⟨by rw [V_zero, Nat.zero_mul], by omega⟩
  have hl : m.log2 < 53 := (Nat.log2_lt h0).2 hm
  have h1 := Nat.log2_self_le h0
  have h2 := log_lt m
  -- the rung
  have hm52 : 2 ^ m.log2 * 2 ^ (52 - m.log2) = 4503599627370496 := by
    rw [← Nat.pow_add, show m.log2 + (52 - m.log2) = 52 by omega]
  have hm53 : 2 ^ (m.log2 + 1) * 2 ^ (52 - m.log2) = 9007199254740992 := by
    rw [← Nat.pow_add, show m.log2 + 1 + (52 - m.log2) = 53 by omega]
  have a1 : 4503599627370496 ≤ m * 2 ^ (52 - m.log2) := by rw [← hm52]; exact Nat.mul_le_mul_right _ h1
  have a2 : m * 2 ^ (52 - m.log2) < 9007199254740992 := by rw [← hm53]; exact Nat.mul_lt_mul_of_pos_right h2 (two_pos _)
  have hV : V ((1022 + m.log2) * 4503599627370496 + m * 2 ^ (52 - m.log2)) = m * one := by
    generalize hk : m * 2 ^ (52 - m.log2) = K at a1 a2
    have e1 : ex ((1022 + m.log2) * 4503599627370496 + K) = 1022 + m.log2 := by unfold ex; omega
    have e2 : mag ((1022 + m.log2) * 4503599627370496 + K) = K := by unfold mag; rw [if_neg (by omega)]; omega
    rw [V_mul, e1, e2, ← hk, Nat.mul_assoc, ← Nat.pow_add, show 52 - m.log2 + (1022 + m.log2) = e74 by rw [e74_eq]; omega]
    rfl
  have hr : rg m 0 = (1022 + m.log2) * 4503599627370496 + m * 2 ^ (52 - m.log2) := by
    have : rg (m * 2 ^ e74) (-1074) = rg m 0 := by rw [rg_scale]; rfl
    rw [← this, show m * 2 ^ e74 = m * one from rfl, ← hV, rg_V]
  rw [hr]
  exact ⟨hV, by omega⟩

theorem rg_one (m : Nat) : rg (m * one) (-1074) = rg m 0 := by unfold one; rw [rg_scale]; rfl

theorem mulr_int {m n : Nat} (hm : m < 9007199254740992) (hn : n < 9007199254740992) (h : m * n < 9007199254740992) : mulr (rg m 0) (rg n 0) = rg (m * n) 0 := by
  unfold mulr
  rw [(V_one m hm).1, (V_one n hn).1]
  have : m * one * (n * one) = m * n * 2 ^ (e74 + e74) := by
    unfold one
    rw [Nat.mul_mul_mul_comm, ← Nat.pow_add]
  rw [this, rg_scale, show (-2148 + ((e74 + e74 : Nat) : Int)) = 0 from rfl]
  have h2 := (V_one (m * n) h).2
  omega
theorem addr_int {m n : Nat} (hm : m < 9007199254740992) (hn : n < 9007199254740992) (h : m + n < 9007199254740992) : addr (rg m 0) (rg n 0) = rg (m + n) 0 := by
  unfold addr
  rw [(V_one m hm).1, (V_one n hn).1, ← Nat.add_mul, rg_one]
  have h2 := (V_one (m + n) h).2
  omega
theorem addr_zero {a : Nat} (h : a < 9218868437227405312) : addr a 0 = a := by unfold addr; rw [V_zero, Nat.add_zero, rg_V]; omega
theorem zero_addr {a : Nat} (h : a < 9218868437227405312) : addr 0 a = a := by unfold addr; rw [V_zero, Nat.zero_add, rg_V]; omega
theorem mulr_zero (a : Nat) : mulr 0 a = 0 := by unfold mulr; rw [V_zero, Nat.zero_mul, rg_zero]; rfl
theorem mulr_zero' (a : Nat) : mulr a 0 = 0 := by unfold mulr; rw [V_zero, Nat.mul_zero, rg_zero]; rfl

theorem mulr_mono {a b c d : Nat} (h : a ≤ c) (k : b ≤ d) : mulr a b ≤ mulr c d := by
  unfold mulr
  have := rg_mono (-2148) (Nat.mul_le_mul (V_le h) (V_le k))
  omega
theorem addr_mono {a b c d : Nat} (h : a ≤ c) (k : b ≤ d) : addr a b ≤ addr c d := by
  unfold addr
  have := rg_mono (-1074) (Nat.add_le_add (V_le h) (V_le k))
  omega
theorem rg_int_mono {m n : Nat} (h : m ≤ n) : rg m 0 ≤ rg n 0 := rg_mono 0 h

/-- what is left below, and what above -/
def floorv (r : Nat) : Nat := V r / one
def ceilv (r : Nat) : Nat := V r / one + (if V r % one = 0 then 0 else 1)
theorem floorv_int {n : Nat} (h : n < 9007199254740992) : floorv (rg n 0) = n := by
  unfold floorv; rw [(V_one n h).1, Nat.mul_div_cancel _ one_pos]
theorem ceilv_int {n : Nat} (h : n < 9007199254740992) : ceilv (rg n 0) = n := by
  unfold ceilv; rw [(V_one n h).1, Nat.mul_div_cancel _ one_pos, Nat.mul_mod_left, if_pos rfl]; rfl
theorem ceilv_mono {a b : Nat} (h : a ≤ b) : ceilv a ≤ ceilv b := by
  unfold ceilv
  have hv := V_le h
  have h1 : V a / one ≤ V b / one := Nat.div_le_div_right hv
  rcases Nat.lt_or_ge (V a / one) (V b / one) with h2 | h2
  · split <;> split <;> omega
  · have e : V a / one = V b / one := by omega
    have ea := Nat.div_add_mod (V a) one
    have eb := Nat.div_add_mod (V b) one
    rw [e] at ea
    rw [e]
    split <;> split <;> omega
theorem floorv_mono {a b : Nat} (h : a ≤ b) : floorv a ≤ floorv b := Nat.div_le_div_right (V_le h)
theorem floor_le_ceil (r : Nat) : floorv r ≤ ceilv r := by unfold floorv ceilv; omega
/-- at most n, if the rung is at most n's -/
theorem ceilv_le {r n : Nat} (hn : n < 9007199254740992) (h : r ≤ rg n 0) : ceilv r ≤ n := by
  have := ceilv_mono h; rw [ceilv_int hn] at this; exact this

theorem cut_zero (s : Bool) (n d : Nat) : Toward.zero.cut s n d = n / 2 ^ d := by
  unfold Toward.cut
  simp only [Bool.toNat_false, Nat.add_zero, shl, Nat.one_mul]
  by_cases h : d ≤ n.log2 + 2
  · rw [Nat.min_eq_left h]
  · rw [Nat.min_eq_right (by omega)]
    have hl := log_lt n
    have h2 : 2 ^ (n.log2 + 1) ≤ 2 ^ (n.log2 + 2) := Nat.pow_le_pow_right (by omega) (by omega)
    have h3 : 2 ^ (n.log2 + 2) ≤ 2 ^ d := Nat.pow_le_pow_right (by omega) (by omega)
    rw [Nat.div_eq_of_lt (by omega), Nat.div_eq_of_lt (by omega)]

theorem cut_up (n d : Nat) : Toward.up.cut false n d = n / 2 ^ d + (if n % 2 ^ d = 0 then 0 else 1) := by
  unfold Toward.cut
  simp only [shl, Nat.one_mul, Bool.not_false, Bool.true_and]
  have hb : ∀ k : Nat, (k != 0).toNat = if k = 0 then 0 else 1 := by intro k; by_cases h : k = 0 <;> simp [h]
  rw [hb]
  by_cases h : d ≤ n.log2 + 2
  · rw [Nat.min_eq_left h]
  · rw [Nat.min_eq_right (by omega)]
    have hl := log_lt n
    have h2 : 2 ^ (n.log2 + 1) ≤ 2 ^ (n.log2 + 2) := Nat.pow_le_pow_right (by omega) (by omega)
    have h3 : 2 ^ (n.log2 + 2) ≤ 2 ^ d := Nat.pow_le_pow_right (by omega) (by omega)
    rw [Nat.div_eq_of_lt (by omega), Nat.div_eq_of_lt (by omega), Nat.mod_eq_of_lt (by omega), Nat.mod_eq_of_lt (by omega)]
theorem cut_up_zero (s : Bool) (d : Nat) : Toward.up.cut s 0 d = 0 := by
  unfold Toward.cut; simp

/-- the place of one -/
theorem at_one (r : Nat) : (mag r) <<< (-1074 + (ex r : Int)).toNat / 2 ^ (-(-1074 + (ex r : Int))).toNat = V r / one ∧
    ((mag r) <<< (-1074 + (ex r : Int)).toNat % 2 ^ (-(-1074 + (ex r : Int))).toNat = 0 ↔ V r % one = 0) := by
  rw [shl]
  by_cases h : 1074 ≤ ex r
  · have e1 : (-1074 + (ex r : Int)).toNat = ex r - 1074 := by omega
    have e2 : (-(-1074 + (ex r : Int))).toNat = 0 := by omega
    have v := scaled r e74 h
    rw [show ex r - e74 = ex r - 1074 from rfl] at v
    rw [e1, e2, Nat.pow_zero, Nat.div_one, Nat.mod_one, ← v]
    show _ = _ * one / one ∧ (_ ↔ _ * one % one = 0)
    rw [Nat.mul_div_cancel _ one_pos, Nat.mul_mod_left]
    exact ⟨rfl, by simp⟩
  · have e1 : (-1074 + (ex r : Int)).toNat = 0 := by omega
    have e2 : (-(-1074 + (ex r : Int))).toNat = 1074 - ex r := by omega
    rw [e1, e2, Nat.pow_zero, Nat.mul_one]
    have ho : one = 2 ^ (1074 - ex r) * 2 ^ ex r := by unfold one; rw [← Nat.pow_add]; congr 1; rw [e74_eq]; omega
    rw [V_mul, ho, Nat.mul_div_mul_right _ _ (two_pos _), Nat.mul_mod_mul_right]
    refine ⟨rfl, fun h => by rw [h, Nat.zero_mul], fun h => ?_⟩
    rcases Nat.mul_eq_zero.1 h with h | h
    · exact h
    · have := two_pos (ex r); omega

/-- 'int(x)' -/
theorem toInt_R {x r : Nat} (h : R x r) (hr : r < 9218868437227405312) : (double.read x).toInt .zero = some ((floorv r : Nat) : Int) := by
  obtain ⟨s, h1, s1⟩ := h.read hr
  rw [h1]
  simp only [Datum.toInt, Datum.integral]
  rw [cut_zero, (at_one r).1, signed_R]
  · simp [floorv]
  · intro hs
    rw [V_mul, s1 hs, Nat.zero_mul, Nat.zero_div]

/-- 'math.Ceil(x)' -/
theorem ceil_R {x r : Nat} (h : R x r) (hr : r < 9218868437227405312) (hc : ceilv r < 9007199254740992) : R (double.write ((double.read x).integral .up)) (rg (ceilv r) 0) := by
  obtain ⟨s, h1, s1⟩ := h.read hr
  rw [h1]
  simp only [Datum.integral, Format.write]
  rw [nearest_eq]
  have e : Toward.up.cut s (mag r <<< (-1074 + (ex r : Int)).toNat) (-(-1074 + (ex r : Int))).toNat = ceilv r := by
    cases s
    · rw [cut_up, (at_one r).1]
      unfold ceilv
      congr 1
      simp only [(at_one r).2]
    · have hm := s1 rfl
      rw [hm, Nat.zero_shiftLeft, cut_up_zero]
      unfold ceilv; rw [V_mul, hm, Nat.zero_mul, Nat.zero_div, Nat.zero_mod]; rfl
  rw [e]
  have h2 := (V_one _ hc).2
  rw [show min (rg (ceilv r) 0) 9218868437227405312 = rg (ceilv r) 0 by omega]
  refine word_R _ _ fun hs => ?_
  have : ceilv r = 0 := by unfold ceilv; rw [V_mul, s1 hs, Nat.zero_mul, Nat.zero_div, Nat.zero_mod]; rfl
  rw [this, rg_zero]

/-- 'float64(n)' -/
theorem ofInt_R (n : Nat) (hn : n < 9007199254740992) : floatOfInt .f64 (n : Int) = rg n 0 := by
  show double.nearest (decide ((n : Int) < 0)) (n : Int).natAbs 0 = _
  have : decide ((n : Int) < 0) = false := by simp
  rw [this, nearest_pos, Int.natAbs_natCast]
  have := (V_one n hn).2
  omega

/-- the word of one more whole number is above, unless it was whole -/
theorem order_R {x r y t : Nat} (hx : R x r) (hr : r < 9218868437227405312) (hy : R y t) (ht : t < 9218868437227405312) : double.order x y = some (compare r t) := by
  obtain ⟨s, h1, s1⟩ := hx.read hr
  obtain ⟨u, h2, u1⟩ := hy.read ht
  have h0 := order_pos hr ht
  unfold Format.order at h0 ⊢
  rw [read_pos hr, read_pos ht] at h0
  rw [h1, h2]
  simp only [Datum.order] at h0 ⊢
  rw [← h0, signed_R s _ _ s1, signed_R u _ _ u1, signed_false, signed_false]

/-- not below 0 and not above a number: a word of a rung -/
theorem good_R {x M : Nat} (hx : x < 18446744073709551616) (hM : M < 9218868437227405312) (h0 : double.order x 0 = some .gt ∨ double.order x 0 = some .eq) (h1 : double.order x M = some .lt ∨ double.order x M = some .eq) :
    ∃ r, R x r ∧ r ≤ M := by
  rcases read_cases x hx with ⟨s, r, hr, e, hread⟩ | ⟨s, e, hread⟩ | ⟨s, u, _, hread⟩
  · cases s
    · rw [word_false] at e
      subst e
      refine ⟨x, .inl rfl, ?_⟩
      rw [order_pos hr hM] at h1
      rcases h1 with h1 | h1
      · have := Nat.compare_eq_lt.1 (Option.some.inj h1); omega
      · have := Nat.compare_eq_eq.1 (Option.some.inj h1); omega
    · by_cases hz : r = 0
      · subst hz
        exact ⟨0, .inr ⟨rfl, e⟩, Nat.zero_le _⟩
      · exfalso
        have hm : 0 < mag r := by unfold mag; split <;> omega
        have : double.order x 0 = some .lt := by
          unfold Format.order
          rw [hread, show double.read 0 = .number false 0 (-1074) from rfl]
          simp only [Datum.order, signed_true, signed_false, Nat.zero_mul]
          have hp : 0 < mag r * 2 ^ (-1074 + (ex r : Int) - min (-1074 + (ex r : Int)) (-1074)).toNat := Nat.mul_pos hm (two_pos _)
          generalize mag r * 2 ^ (-1074 + (ex r : Int) - min (-1074 + (ex r : Int)) (-1074)).toNat = A at hp
          have hlt : -((A : Nat) : Int) < ((0 : Nat) : Int) := by omega
          simp only [compare, compareOfLessAndEq, hlt, if_true]
        rw [this] at h0
        rcases h0 with h | h <;> cases h
  · exfalso
    cases s
    · have : double.order x M = some .gt := by unfold Format.order; rw [hread, read_pos hM]; rfl
      rw [this] at h1
      rcases h1 with h | h <;> cases h
    · have : double.order x 0 = some .lt := by unfold Format.order; rw [hread]; rfl
      rw [this] at h0
      rcases h0 with h | h <;> cases h
  · exfalso
    rw [order_nan hread] at h0
    rcases h0 with h | h <;> cases h
end Go.Proofs.Ytomcdnkafgmleaa.F
