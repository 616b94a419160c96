/- Plain facts on 64-bit floats: what the operations give on words that are finite, infinite, no number. -/
import Derived.Test.YtomcdnkafgmleaaF0
import Derived.Laws.BitsAllLaws
namespace Go.Proofs.Ytomcdnkafgmleaa.F
open Ieee

/-- the four kinds of a word -/
theorem read_inf (s : Bool) : double.read (double.word s 9218868437227405312) = .infinity s := by cases s <;> decide
theorem read_cases (x : Nat) (h : x < 18446744073709551616) :
    (∃ s r, r < 9218868437227405312 ∧ x = double.word s r ∧ double.read x = .number s (mag r) (-1074 + (ex r : Int))) ∨
    (∃ s, x = double.word s 9218868437227405312 ∧ double.read x = .infinity s) ∨
    (∃ s t, 9218868437227405312 < x % 9223372036854775808 ∧ double.read x = .nan s t) := by
  by_cases h1 : x % 9223372036854775808 < 9218868437227405312
  · left
    by_cases hs : x < 9223372036854775808
    · refine ⟨false, x, by omega, rfl, read_pos (by omega)⟩
    · refine ⟨true, x - 9223372036854775808, by omega, ?_, ?_⟩
      · rw [word_true]; omega
      · have e : x = 9223372036854775808 + (x - 9223372036854775808) := by omega
        have := read_neg (r := x - 9223372036854775808) (by omega)
        rw [← e] at this; exact this
  · by_cases h2 : x % 9223372036854775808 = 9218868437227405312
    · right; left
      by_cases hs : x < 9223372036854775808
      · have : x = 9218868437227405312 := by omega
        subst this; exact ⟨false, rfl, read_inf false⟩
      · have : x = 18442240474082181120 := by omega
        subst this; exact ⟨true, rfl, read_inf true⟩
    · right; right
      refine ⟨x / 9223372036854775808 % 2 == 1, x % 9223372036854775808 - 9218868437227405312, by omega, ?_⟩
      unfold Format.read
      dsimp only
      rw [binade_eq, infRung_eq, sign_eq, if_neg (by omega), if_neg h1, if_neg h2]

theorem order_nan {x y : Nat} {s t} (h : double.read x = .nan s t) : double.order x y = none := by
  unfold Format.order; rw [h]; rfl
theorem order_nan' {x y : Nat} {s t} (h : double.read y = .nan s t) : double.order x y = none := by
  unfold Format.order; rw [h]; cases double.read x <;> rfl

theorem compare_self (a : Int) : compare a a = Ordering.eq := by simp [compare, compareOfLessAndEq]
theorem ncompare_self (a : Nat) : compare a a = Ordering.eq := by simp [compare, compareOfLessAndEq]

theorem order_self {x : Nat} (h : ∀ s t, double.read x ≠ .nan s t) : double.order x x = some .eq := by
  unfold Format.order
  cases hx : double.read x with
  | nan s t => exact absurd hx (h s t)
  | infinity s => simp [Datum.order]
  | number s m i => simp only [Datum.order]; rw [compare_self]

/-- a word that is a number or an infinity, at most one of them: the positive ones -/
theorem read_le {r : Nat} (h : r ≤ 9218868437227405312) : (∃ m i, double.read r = .number false m i ∧ r < 9218868437227405312) ∨ (double.read r = .infinity false ∧ r = 9218868437227405312) := by
  by_cases h1 : r < 9218868437227405312
  · exact .inl ⟨_, _, read_pos h1, h1⟩
  · have : r = 9218868437227405312 := by omega
    subst this; exact .inr ⟨read_inf false, rfl⟩
theorem le_not_nan {r : Nat} (h : r ≤ 9218868437227405312) : ∀ s t, double.read r ≠ .nan s t := by
  intro s t e
  rcases read_le h with ⟨m, i, h1, _⟩ | ⟨h1, _⟩ <;> rw [h1] at e <;> cases e
theorem order_le {r : Nat} (h : r ≤ 9218868437227405312) : double.order r r = some .eq := order_self (le_not_nan h)

theorem nearest_pos (m : Nat) (p : Int) : double.nearest false m p = min (rg m p) 9218868437227405312 := nearest_eq false m p
theorem nearest_le (m : Nat) (p : Int) : double.nearest false m p ≤ 9218868437227405312 := by rw [nearest_pos]; omega

/-- a square of a number: never below 0, never no number -/
theorem mul_self {x : Nat} {s : Bool} {m : Nat} {i : Int} (h : double.read x = .number s m i) : ∃ r, double.mul x x = some r ∧ r ≤ 9218868437227405312 := by
  refine ⟨double.nearest false (m * m) (i + i), ?_, nearest_le _ _⟩
  unfold Format.mul
  rw [h]
  simp [Datum.product, Format.write]

theorem signed_false (m u : Nat) : signed false m u = ((m * 2 ^ u : Nat) : Int) := by simp [signed, shl]
theorem signed_true (m u : Nat) : signed true m u = -((m * 2 ^ u : Nat) : Int) := by simp [signed, shl]

theorem add_pos {x y : Nat} (hx : x ≤ 9218868437227405312) (hy : y ≤ 9218868437227405312) : ∃ r, double.add x y = some r ∧ r ≤ 9218868437227405312 := by
  unfold Format.add
  rcases read_le hx with ⟨m, i, h1, _⟩ | ⟨h1, _⟩ <;> rcases read_le hy with ⟨n, j, h2, _⟩ | ⟨h2, _⟩ <;> rw [h1, h2] <;> simp only [Datum.sum]
  · refine ⟨_, rfl, ?_⟩
    simp only [signed_false, Format.write]
    generalize m * 2 ^ (i - min i j).toNat = a
    generalize n * 2 ^ (j - min i j).toNat = b
    have : (if ((a : Nat) : Int) + ((b : Nat) : Int) = 0 then false && false else decide (((a : Nat) : Int) + ((b : Nat) : Int) < 0)) = false := by
      split
      · rfl
      · simp; omega
    rw [this]
    exact nearest_le _ _
  · exact ⟨_, rfl, Nat.le_refl _⟩
  · exact ⟨_, rfl, Nat.le_refl _⟩
  · exact ⟨_, rfl, Nat.le_refl _⟩

theorem sub_self_num {x : Nat} {s : Bool} {m : Nat} {i : Int} (h : double.read x = .number s m i) : double.sub x x = some 0 := by
  unfold Format.sub
  rw [h]
  simp only [Datum.opposite, Datum.sum]
  have : signed s m (i - min i i).toNat + signed (!s) m (i - min i i).toNat = 0 := by cases s <;> simp [signed] <;> omega
  rw [this]
  cases s <;> rfl
theorem sub_self_inf {x : Nat} {s : Bool} (h : double.read x = .infinity s) : double.sub x x = none := by
  unfold Format.sub; rw [h]; cases s <;> rfl
theorem sub_self_nan {x : Nat} {s : Bool} {t : Nat} (h : double.read x = .nan s t) : double.sub x x = none := by
  unfold Format.sub; rw [h]; rfl

/-- what is drawn in the place of no number is none -/
theorem cut_nan (x y t : Nat) : double.order (Question.cut (.nanBits .f64 x y) t) 0 = none := by
  have : Question.cut (.nanBits .f64 x y) t = (t % 2) * 9223372036854775808 + 9218868437227405312 + 1 + (t / 2) % 4503599627370495 := rfl
  rw [this]
  generalize hz : (t % 2) * 9223372036854775808 + 9218868437227405312 + 1 + (t / 2) % 4503599627370495 = z
  rcases read_cases z (by omega) with ⟨s, r, hr, e, _⟩ | ⟨s, e, _⟩ | ⟨s, u, _, h⟩
  · cases s
    · rw [word_false] at e; omega
    · rw [word_true] at e; omega
  · cases s
    · rw [word_false] at e; omega
    · rw [word_true] at e; omega
  · exact order_nan h

/-- the size of two words that are not below 0, compared -/
theorem V_mul (r : Nat) : V r = mag r * 2 ^ ex r := rfl
theorem order_pos {x y : Nat} (hx : x < 9218868437227405312) (hy : y < 9218868437227405312) : double.order x y = some (compare x y) := by
  unfold Format.order
  rw [read_pos hx, read_pos hy]
  simp only [Datum.order, signed_false]
  have e1 : (-1074 + (ex x : Int) - min (-1074 + (ex x : Int)) (-1074 + (ex y : Int))).toNat = ex x - min (ex x) (ex y) := by omega
  have e2 : (-1074 + (ex y : Int) - min (-1074 + (ex x : Int)) (-1074 + (ex y : Int))).toNat = ex y - min (ex x) (ex y) := by omega
  rw [e1, e2]
  have v1 : mag x * 2 ^ (ex x - min (ex x) (ex y)) * 2 ^ min (ex x) (ex y) = V x := by
    rw [V_mul, Nat.mul_assoc, ← Nat.pow_add, show ex x - min (ex x) (ex y) + min (ex x) (ex y) = ex x by omega]
  have v2 : mag y * 2 ^ (ex y - min (ex x) (ex y)) * 2 ^ min (ex x) (ex y) = V y := by
    rw [V_mul, Nat.mul_assoc, ← Nat.pow_add, show ex y - min (ex x) (ex y) + min (ex x) (ex y) = ex y by omega]
  have h4 : ∀ a b c : Nat, 0 < c → compare ((a : Nat) : Int) ((b : Nat) : Int) = compare (a * c) (b * c) := by
    intro a b c hc
    have h1 : ((a : Int) < (b : Int)) ↔ a * c < b * c := by rw [Int.ofNat_lt]; exact (Nat.mul_lt_mul_right hc).symm
    have h2 : ((a : Int) = (b : Int)) ↔ a * c = b * c := by
      rw [Int.ofNat_inj]; exact ⟨fun h => congrArg (· * c) h, fun h => Nat.eq_of_mul_eq_mul_right hc h⟩
    simp only [compare, compareOfLessAndEq, h1, h2]
  rw [h4 _ _ _ (two_pos (min (ex x) (ex y))), v1, v2]
  congr 1
  have a1 : (V x < V y) ↔ x < y := ⟨fun h => by
    rcases Nat.lt_or_ge x y with h1 | h1
    · exact h1
    · have := V_le h1; omega, V_lt⟩
  have a2 : (V x = V y) ↔ x = y := ⟨V_inj, fun h => by rw [h]⟩
  simp only [compare, compareOfLessAndEq, a1, a2]

/-- the word without its sign -/
def clear (x : Nat) : Nat := (Go.bits .andNot .u64 (x : Int) 9223372036854775808).toNat
theorem clear_eq (x : Nat) (h : x < 18446744073709551616) : clear x = x % 9223372036854775808 := by
  unfold clear
  have := u64_andNot_nat x 9223372036854775808 h (by omega)
  rw [show ((9223372036854775808 : Int)) = (((9223372036854775808 : Nat) : Nat) : Int) from rfl, this, Int.toNat_natCast]
  exact Nat.and_two_pow_sub_one_eq_mod x 63

theorem clear_gt {x : Nat} (h : x < 18446744073709551616) :
    double.order (clear x) 9218868437227405311 = if x % 9223372036854775808 < 9218868437227405312 then some (compare (x % 9223372036854775808) 9218868437227405311) else if x % 9223372036854775808 = 9218868437227405312 then some .gt else none := by
  rw [clear_eq x h]
  split
  · rename_i h1; exact order_pos h1 (by omega)
  · split
    · rename_i h2; rw [h2]; decide
    · rcases read_cases (x % 9223372036854775808) (by omega) with ⟨s, r, hr, e, _⟩ | ⟨s, e, _⟩ | ⟨s, u, _, h⟩
      · cases s
        · rw [word_false] at e; omega
        · rw [word_true] at e; omega
      · cases s
        · rw [word_false] at e; omega
        · rw [word_true] at e; omega
      · exact order_nan h
end Go.Proofs.Ytomcdnkafgmleaa.F
