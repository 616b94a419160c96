/- The tour, step by step (plain). -/
import Derived.Test.YtomcdnkafgmleaaT8
namespace Go.Proofs.Ytomcdnkafgmleaa

structure TourInv (far : Nat → Nat → Int) (n : Nat) (don : List Int) (S a f : Nat) : Prop where
  lt : S < 2 ^ n
  odd : S % 2 = 1
  an : a < n
  bit : S / 2 ^ a % 2 = 1
  fuel : 2 ^ n - S ≤ f
  len : don.length ≤ S
  all : 0 :: tour far n (2 ^ n) 1 0 = don ++ tour far n f S a

theorem TourInv.start (far : Nat → Nat → Int) {n : Nat} (hn : 2 ≤ n) : TourInv far n [0] 1 0 (2 ^ n) := by
  have h : 2 ^ 2 ≤ 2 ^ n := Nat.pow_le_pow_right (by omega) hn
  exact ⟨by omega, rfl, by omega, rfl, by omega, Nat.le_refl _, rfl⟩
theorem TourInv.done {far : Nat → Nat → Int} {n : Nat} {don : List Int} {S a f : Nat} (h : TourInv far n don S a f) (hS : S = 2 ^ n - 1) : don = 0 :: tour far n (2 ^ n) 1 0 := by
  rw [h.all]
  have hp := Nat.two_pow_pos n
  have hf := h.fuel
  obtain ⟨g, rfl⟩ : ∃ g, f = g + 1 := ⟨f - 1, by omega⟩
  unfold tour
  rw [if_pos hS, List.append_nil]
theorem TourInv.next {far : Nat → Nat → Int} (hfar : ∀ i j, 0 ≤ far i j ∧ far i j ≤ 1000000000) {n : Nat} {don : List Int} {S a f : Nat} (h : TourInv far n don S a f) (hS : S ≠ 2 ^ n - 1) :
    ∃ j : Nat, (T far n S a).2 = (j : Int) ∧ 0 < j ∧ j < n ∧ S / 2 ^ j % 2 = 0 ∧ S + 2 ^ j < 2 ^ n ∧ TourInv far n (don ++ [(j : Int)]) (S + 2 ^ j) j (f - 1) := by
  have hlt := h.lt
  have hodd := h.odd
  have hn0 : n ≠ 0 := by have := h.an; omega
  have hpar : 2 ^ n % 2 = 0 := by
    obtain ⟨m, rfl⟩ : ∃ m, n = m + 1 := ⟨n - 1, by omega⟩
    rw [Nat.pow_succ]; omega
  have hs2 : 2 ^ n - 1 - (2 ^ n - 1 - S) = S := by omega
  obtain ⟨_, hf⟩ := T_R hfar (n := n) (2 ^ n - 1 - S) (2 ^ n - 1 - S) a (Nat.le_refl _) (by omega) (by omega)
  obtain ⟨_, _, j, e1, j0, jn, hb, _⟩ := hf (by omega)
  rw [hs2] at e1
  have hb2 : S / 2 ^ j % 2 = 0 := by
    have := left_bit hlt jn
    omega
  have hadd := add_bit hlt jn hb2
  have hp := Nat.two_pow_pos j
  refine ⟨j, e1, j0, jn, hb2, hadd, hadd, ?_, jn, ?_, by have := h.fuel; omega, by have := h.len; simp; omega, ?_⟩
  · obtain ⟨m, rfl⟩ : ∃ m, j = m + 1 := ⟨j - 1, by omega⟩
    rw [Nat.pow_succ]; omega
  · rw [Nat.add_div_right _ hp]; omega
  · rw [h.all]
    have hf := h.fuel
    obtain ⟨g, rfl⟩ : ∃ g, f = g + 1 := ⟨f - 1, by omega⟩
    have e2 : tour far n (g + 1) S a = (T far n S a).2 :: tour far n g (S + 2 ^ (T far n S a).2.toNat) (T far n S a).2.toNat := by
      conv => lhs; unfold tour
      rw [if_neg hS]
    rw [e2, e1, Int.toNat_natCast, Nat.add_sub_cancel, List.append_assoc]; rfl
end Go.Proofs.Ytomcdnkafgmleaa
