/- The sum of bytes, bit by bit and by halves of a byte (plain). -/
namespace Go.Proofs.YtboekjaagbbjdaaDoor
/-- a register one bit on -/
def step1 (r : Nat) : Nat := if r % 2 = 1 then (r / 2) ^^^ 2197175160 else r / 2
def tab16 : List Nat := [0, 274646895, 549293790, 820201905, 1098587580, 1361435347, 1640403810, 1905808397, 2197175160, 2460548119, 2722870694, 2987750089, 3280807620, 3553878443, 3811616794, 4084100981]
theorem xor_even_mod (a b : Nat) : ((2 * a) ^^^ b) % 2 = b % 2 := by
  have h : ((2 * a) ^^^ b).testBit 0 = b.testBit 0 := by
    rw [Nat.testBit_xor]; simp [Nat.testBit_zero]
  rw [Nat.testBit_zero, Nat.testBit_zero] at h
  have := decide_eq_decide.1 h
  omega
theorem xor_even_div (a b : Nat) : ((2 * a) ^^^ b) / 2 = a ^^^ (b / 2) := by
  have h : (2 * a ^^^ b) / 2 ^ 1 = 2 * a / 2 ^ 1 ^^^ b / 2 ^ 1 := Nat.xor_div_two_pow
  rw [Nat.pow_one] at h
  rw [h, Nat.mul_div_cancel_left _ (by decide : 0 < 2)]
theorem step1_xor (a b : Nat) : step1 ((2 * a) ^^^ b) = a ^^^ step1 b := by
  unfold step1
  rw [xor_even_mod, xor_even_div]
  by_cases h : b % 2 = 1
  · rw [if_pos h, if_pos h, Nat.xor_assoc]
  · rw [if_neg h, if_neg h]
def stepN : Nat → Nat → Nat
  | 0, r => r
  | k + 1, r => step1 (stepN k r)
theorem step4_low : ∀ l, l < 16 → stepN 4 l = tab16.getD l 0 := by decide +kernel
theorem add_xor (q l : Nat) (h : l < 16) : 16 * q + l = (16 * q) ^^^ l := by
  apply Nat.eq_of_testBit_eq
  intro j
  have h1 := Nat.testBit_two_pow_mul_add q (i := 4) (b := l) (by omega) j
  have h2 := Nat.testBit_two_pow_mul_add q (i := 4) (b := 0) (by omega) j
  rw [show (2 : Nat) ^ 4 = 16 by decide] at h1 h2
  rw [Nat.add_zero] at h2
  rw [Nat.testBit_xor, h1, h2]
  by_cases c : j < 4
  · simp [c]
  · rw [if_neg c, if_neg c]
    have : l.testBit j = false := Nat.testBit_lt_two_pow (Nat.lt_of_lt_of_le h (by
      have : 2 ^ 4 ≤ 2 ^ j := Nat.pow_le_pow_right (by omega) (by omega)
      omega))
    rw [this]; simp
theorem step4 (r : Nat) : stepN 4 r = tab16.getD (r % 16) 0 ^^^ (r / 16) := by
  have hl : r % 16 < 16 := Nat.mod_lt _ (by omega)
  have e : r = (2 * (2 * (2 * (2 * (r / 16))))) ^^^ (r % 16) := by
    have := add_xor (r / 16) (r % 16) hl
    rw [show 2 * (2 * (2 * (2 * (r / 16)))) = 16 * (r / 16) by omega, ← this]; omega
  rw [← step4_low _ hl]
  conv => lhs; rw [e]
  show step1 (step1 (step1 (step1 (2 * (2 * (2 * (2 * (r / 16)))) ^^^ r % 16)))) = step1 (step1 (step1 (step1 (r % 16)))) ^^^ _
  rw [step1_xor, step1_xor, step1_xor, step1_xor, Nat.xor_comm]
def moved (r : Nat) : Nat := let q := tab16.getD (r % 16) 0 ^^^ (r / 16); tab16.getD (q % 16) 0 ^^^ (q / 16)
theorem stepN_add (a b r : Nat) : stepN (a + b) r = stepN a (stepN b r) := by
  induction a with
  | zero => rw [Nat.zero_add]; rfl
  | succ a ih => rw [Nat.succ_add]; show step1 _ = step1 _; rw [ih]
theorem moved_step (r : Nat) : moved r = stepN 8 r := by
  rw [show 8 = 4 + 4 by rfl, stepN_add, step4, step4]; rfl
theorem step1_lt {r : Nat} (h : r < 4294967296) : step1 r < 4294967296 := by
  unfold step1
  split
  · exact Nat.xor_lt_two_pow (n := 32) (by omega) (by omega)
  · omega
theorem stepN_lt {r : Nat} (h : r < 4294967296) : ∀ k, stepN k r < 4294967296
  | 0 => h
  | k + 1 => step1_lt (stepN_lt h k)
/-- the sum behind some bytes -/
def crcTo (r : Nat) : List UInt8 → Nat
  | [] => r
  | x :: l => crcTo (stepN 8 (r ^^^ x.toNat)) l
theorem crcTo_snoc (l : List UInt8) (x : UInt8) : ∀ r, crcTo r (l ++ [x]) = stepN 8 (crcTo r l ^^^ x.toNat) := by
  induction l with
  | nil => intro r; rfl
  | cons y l ih => intro r; exact ih _
theorem crcTo_lt (l : List UInt8) : ∀ r, r < 4294967296 → crcTo r l < 4294967296 := by
  induction l with
  | nil => intro r h; exact h
  | cons y l ih =>
    intro r h
    refine ih _ (stepN_lt (Nat.xor_lt_two_pow (n := 32) (by omega) ?_) _)
    have := y.toNat_lt
    omega
def crc (l : List UInt8) : Nat := 4294967295 - crcTo 4294967295 l
def stripe (l : List UInt8) (n : Nat) : Nat := crc l % n
end Go.Proofs.YtboekjaagbbjdaaDoor
