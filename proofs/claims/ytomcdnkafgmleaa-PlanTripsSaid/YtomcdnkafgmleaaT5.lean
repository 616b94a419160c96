/- The table of the shortest ways on (plain). -/
import Derived.Test.YtomcdnkafgmleaaT2
namespace Go.Proofs.Ytomcdnkafgmleaa

/-- the ways on from a stop: through each that was not seen -/
def ways (far : Nat → Nat → Int) (T : Nat → Nat → Int × Int) (n s a : Nat) : List (Int × Int) :=
  ((List.range n).filter fun j => s / 2 ^ j % 2 == 0).map fun j => (far a j + (T (s + 2 ^ j) j).1, (j : Int))
def tab (far : Nat → Nat → Int) (n A : Nat) : Nat → Nat → Nat → Int × Int
  | 0, _, _ => (0, 0)
  | f + 1, s, a => if s = A then (far a 0, -1) else leastTo (ways far (tab far n A f) n s a) (ways far (tab far n A f) n s a).length
def T (far : Nat → Nat → Int) (n s a : Nat) : Int × Int := tab far n (2 ^ n - 1) (2 ^ n - s) s a

/-- a stop that was not seen, seen too -/
theorem add_bit {n s j : Nat} (hs : s < 2 ^ n) (hj : j < n) (hb : s / 2 ^ j % 2 = 0) : s + 2 ^ j < 2 ^ n := by
  have h1 : s = 2 ^ j * (s / 2 ^ j) + s % 2 ^ j := (Nat.div_add_mod s (2 ^ j)).symm
  have h2 : s % 2 ^ j < 2 ^ j := Nat.mod_lt _ (Nat.two_pow_pos j)
  have h3 : 2 ^ n = 2 ^ j * 2 ^ (n - j) := by rw [← Nat.pow_add, show j + (n - j) = n by omega]
  have h4 : 2 ^ (n - j) = 2 * 2 ^ (n - j - 1) := by
    obtain ⟨m, hm⟩ : ∃ m, n - j = m + 1 := ⟨n - j - 1, by omega⟩
    rw [hm, Nat.pow_succ, Nat.add_sub_cancel]; omega
  have h5 : s / 2 ^ j < 2 ^ (n - j) := by
    rw [Nat.div_lt_iff_lt_mul (Nat.two_pow_pos j), Nat.mul_comm, ← h3]; exact hs
  have h6 : s / 2 ^ j + 1 < 2 ^ (n - j) := by omega
  have h7 : s / 2 ^ j + 2 ≤ 2 ^ (n - j) := by omega
  have h8 : 2 ^ j * (s / 2 ^ j + 2) ≤ 2 ^ n := by rw [h3]; exact Nat.mul_le_mul_left _ h7
  have h9 : 2 ^ j * (s / 2 ^ j + 2) = 2 ^ j * (s / 2 ^ j) + 2 ^ j + 2 ^ j := by rw [Nat.mul_add]; omega
  omega

theorem ways_congr {far : Nat → Nat → Int} {n s a : Nat} {T1 T2 : Nat → Nat → Int × Int} (h : ∀ j, j < n → s / 2 ^ j % 2 = 0 → T1 (s + 2 ^ j) j = T2 (s + 2 ^ j) j) : ways far T1 n s a = ways far T2 n s a := by
  unfold ways
  apply List.map_congr_left
  intro j hj
  simp only [List.mem_filter, List.mem_range, beq_iff_eq] at hj
  rw [h j hj.1 hj.2]

theorem tab_two (far : Nat → Nat → Int) (n : Nat) : ∀ f g s a, s < 2 ^ n → 2 ^ n - s ≤ f → 2 ^ n - s ≤ g → tab far n (2 ^ n - 1) f s a = tab far n (2 ^ n - 1) g s a
  | 0, g, s, a, hs, hf, _ => by omega
  | f + 1, 0, s, a, hs, _, hg => by omega
  | f + 1, g + 1, s, a, hs, hf, hg => by
    simp only [tab]
    by_cases hA : s = 2 ^ n - 1
    · rw [if_pos hA, if_pos hA]
    · rw [if_neg hA, if_neg hA]
      have e : ways far (tab far n (2 ^ n - 1) f) n s a = ways far (tab far n (2 ^ n - 1) g) n s a := by
        apply ways_congr
        intro j hj hb
        have h1 := add_bit hs hj hb
        have h2 : 0 < 2 ^ j := Nat.two_pow_pos j
        exact tab_two far n f g (s + 2 ^ j) j h1 (by omega) (by omega)
      rw [e]
theorem T_last (far : Nat → Nat → Int) (n a : Nat) : T far n (2 ^ n - 1) a = (far a 0, -1) := by
  have h2 : 0 < 2 ^ n := Nat.two_pow_pos n
  unfold T
  rw [show 2 ^ n - (2 ^ n - 1) = 0 + 1 by omega]
  simp only [tab]
  rw [if_pos trivial]
theorem T_least (far : Nat → Nat → Int) (n s a : Nat) (hs : s < 2 ^ n - 1) : T far n s a = leastTo (ways far (T far n) n s a) (ways far (T far n) n s a).length := by
  have e : ways far (tab far n (2 ^ n - 1) (2 ^ n - s - 1)) n s a = ways far (T far n) n s a := by
    apply ways_congr
    intro j hj hb
    have h1 := add_bit (by omega) hj hb
    have h2 : 0 < 2 ^ j := Nat.two_pow_pos j
    exact tab_two far n _ _ (s + 2 ^ j) j h1 (by omega) (by omega)
  rw [← e]
  show tab far n (2 ^ n - 1) (2 ^ n - s) s a = _
  rw [show 2 ^ n - s = (2 ^ n - s - 1) + 1 by omega]
  simp only [tab]
  rw [if_neg (by omega), show 2 ^ n - s - 1 + 1 - 1 = 2 ^ n - s - 1 by omega]

/-- the least is one of them -/
theorem least_mem (ls : List (Int × Int)) : ∀ k, 0 < k → k ≤ ls.length → leastTo ls k ∈ ls
  | 0, h, _ => by omega
  | k + 1, _, h => by
    have hm : ls.getD k (0, 0) ∈ ls := by rw [List.getD_eq_getElem?_getD, List.getElem?_eq_getElem (by omega)]; exact List.getElem_mem _
    unfold leastTo
    by_cases h0 : k = 0 ∨ cmpL (ls.getD k (0, 0)) (leastTo ls k) < 0
    · rw [if_pos h0]; exact hm
    · rw [if_neg h0]; exact least_mem ls k (by omega) (by omega)

/-- where not all were seen there is a way on -/
theorem ways_some {far : Nat → Nat → Int} {T : Nat → Nat → Int × Int} {n s a : Nat} (hs : s < 2 ^ n - 1) : 0 < (ways far T n s a).length := by
  rcases Nat.eq_zero_or_pos (ways far T n s a).length with h | h
  · exfalso
    have he : ways far T n s a = [] := List.eq_nil_of_length_eq_zero h
    have all : ∀ j, j < n → s / 2 ^ j % 2 = 1 := by
      intro j hj
      rcases (by omega : s / 2 ^ j % 2 = 0 ∨ s / 2 ^ j % 2 = 1) with g | g
      · exfalso
        have hm : (far a j + (T (s + 2 ^ j) j).1, (j : Int)) ∈ ways far T n s a := by
          unfold ways
          exact List.mem_map.2 ⟨j, List.mem_filter.2 ⟨List.mem_range.2 hj, by simp [g]⟩, rfl⟩
        rw [he] at hm; exact absurd hm (by simp)
      · exact g
    have full : ∀ m, m ≤ n → s % 2 ^ m = 2 ^ m - 1 := by
      intro m hm
      induction m with
      | zero => simp [Nat.mod_one]
      | succ m ih =>
        have h1 := ih (by omega)
        have h2 := all m (by omega)
        have h3 : s % 2 ^ (m + 1) = s % 2 ^ m + 2 ^ m * (s / 2 ^ m % 2) := by rw [Nat.pow_succ, Nat.mod_mul]
        rw [h3, h1, h2, Nat.pow_succ]
        have := Nat.two_pow_pos m
        omega
    have h1 := full n (Nat.le_refl _)
    rw [Nat.mod_eq_of_lt (by omega)] at h1
    omega
  · exact h

/-- how long they may be -/
theorem tab_bound {far : Nat → Nat → Int} {n : Nat} (hfar : ∀ i j, 0 ≤ far i j ∧ far i j ≤ 1000000000) : ∀ f s a, s < 2 ^ n → 2 ^ n - s ≤ f → 0 ≤ (tab far n (2 ^ n - 1) f s a).1 ∧ (tab far n (2 ^ n - 1) f s a).1 ≤ 1000000000 * (f : Int)
  | 0, s, a, _, _ => by simp [tab]
  | f + 1, s, a, hs, hf => by
    simp only [tab]
    by_cases hA : s = 2 ^ n - 1
    · rw [if_pos hA]
      have := hfar a 0
      simp only; omega
    · rw [if_neg hA]
      have hm := least_mem (ways far (tab far n (2 ^ n - 1) f) n s a) _ (ways_some (by omega)) (Nat.le_refl _)
      obtain ⟨j, hj, e⟩ := List.mem_map.1 hm
      simp only [List.mem_filter, List.mem_range, beq_iff_eq] at hj
      have h1 := add_bit hs hj.1 hj.2
      have h2 : 0 < 2 ^ j := Nat.two_pow_pos j
      have ih := tab_bound (n := n) hfar f (s + 2 ^ j) j h1 (by omega)
      have h3 := hfar a j
      rw [← e]
      simp only
      omega
theorem T_bound {far : Nat → Nat → Int} {n : Nat} (hfar : ∀ i j, 0 ≤ far i j ∧ far i j ≤ 1000000000) (s a : Nat) (hs : s < 2 ^ n) : 0 ≤ (T far n s a).1 ∧ (T far n s a).1 ≤ 1000000000 * (2 ^ n : Nat) := by
  have := tab_bound hfar (2 ^ n - s) s a hs (Nat.le_refl _)
  have h2 : (2 ^ n - s : Nat) ≤ 2 ^ n := Nat.sub_le _ _
  unfold T
  generalize (2 ^ n : Nat) = N at *
  omega
end Go.Proofs.Ytomcdnkafgmleaa
