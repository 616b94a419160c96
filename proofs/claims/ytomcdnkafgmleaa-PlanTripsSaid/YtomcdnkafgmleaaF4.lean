/- Plain facts on 64-bit floats: operations that give a number or an infinity, never none: quotient, difference, square, root. -/
import Derived.Test.YtomcdnkafgmleaaF3
namespace Go.Proofs.Ytomcdnkafgmleaa.F
open Ieee

def NN (x : Nat) : Prop := ∀ s t, double.read x ≠ .nan s t
theorem le_NN {r : Nat} (h : r ≤ 9218868437227405312) : NN r := le_not_nan h
theorem word_NN (s : Bool) {r : Nat} (h : r ≤ 9218868437227405312) : NN (double.word s r) := by
  cases s
  · exact le_NN h
  · intro a b e
    by_cases h1 : r < 9218868437227405312
    · rw [word_true, read_neg h1] at e; cases e
    · have : r = 9218868437227405312 := by omega
      subst this
      rw [read_inf true] at e; cases e
theorem nearest_NN (s : Bool) (m : Nat) (p : Int) : NN (double.nearest s m p) := by rw [nearest_eq]; exact word_NN s (by omega)
theorem order_NN {x : Nat} (h : NN x) : double.order x x = some .eq := order_self h

theorem mag_ne {y : Nat} (h : y ≠ 0) : mag y ≠ 0 := by unfold mag; split <;> omega

theorem div_pos {x y : Nat} (hx : x ≤ 9218868437227405312) (hy : y < 9218868437227405312) (h0 : y ≠ 0) : ∃ r, double.div x y = some r ∧ r ≤ 9218868437227405312 := by
  unfold Format.div
  rw [read_pos hy]
  rcases read_le hx with ⟨m, i, h1, _⟩ | ⟨h1, _⟩ <;> rw [h1] <;> simp only [Datum.quotient]
  · rw [if_neg (mag_ne h0)]
    exact ⟨_, rfl, nearest_le _ _⟩
  · exact ⟨_, rfl, Nat.le_refl _⟩

theorem sub_num {x m : Nat} (hx : x < 9218868437227405312) (hm : m ≤ 9218868437227405312) : ∃ r, double.sub x m = some r ∧ NN r := by
  unfold Format.sub
  rw [read_pos hx]
  rcases read_le hm with ⟨n, j, h1, _⟩ | ⟨h1, _⟩ <;> rw [h1] <;> simp only [Datum.opposite, Datum.sum]
  · exact ⟨_, rfl, nearest_NN _ _ _⟩
  · exact ⟨_, rfl, word_NN true (Nat.le_refl _)⟩

theorem mul_self_NN {x : Nat} (h : NN x) : ∃ r, double.mul x x = some r ∧ r ≤ 9218868437227405312 := by
  unfold Format.mul
  cases hx : double.read x with
  | nan s t => exact absurd hx (h s t)
  | infinity s => simp only [Datum.product]; refine ⟨_, rfl, ?_⟩; cases s <;> exact Nat.le_refl _
  | number s m i => simp only [Datum.product]; refine ⟨_, rfl, ?_⟩; cases s <;> exact nearest_le _ _

theorem sqrt_pos {x : Nat} (hx : x ≤ 9218868437227405312) : ∃ r, double.sqrt x = some r ∧ r ≤ 9218868437227405312 := by
  unfold Format.sqrt
  rcases read_le hx with ⟨m, i, h1, _⟩ | ⟨h1, _⟩ <;> rw [h1] <;> simp only [Datum.root]
  · by_cases h : m = 0
    · rw [if_pos h]; exact ⟨_, rfl, nearest_le _ _⟩
    · rw [if_neg h]; exact ⟨_, rfl, nearest_le _ _⟩
  · exact ⟨_, rfl, Nat.le_refl _⟩
end Go.Proofs.Ytomcdnkafgmleaa.F
