/- Sorted lists, and what is left of them where neighbours are equal (plain). -/
import Derived.Test.YtboekjaagbbjdaaDoorL3
import Derived.Test.YtboekjaagbbjdaaDoorShelf
import Derived.Sort.OwnSortedInts
import Derived.Lib.RowBridge
namespace Go.Proofs.YtboekjaagbbjdaaDoor
open Go.Lib

theorem upTo_mem (d : Array Int) : ∀ m, m ≤ d.size → ∀ i, i < m → d[i]! ∈ compactUpTo d m
  | 0, _, i, h => by omega
  | m + 1, hm, i, h => by
    rw [compactUpTo_succ]
    by_cases e : i = m
    · subst e
      by_cases k : keeps d i = true
      · rw [if_pos k]; simp
      · have hk : ¬ (i = 0 ∨ d[i]! ≠ d[i - 1]!) := by simpa [keeps] using k
        have h0 : i ≠ 0 := fun c => hk (.inl c)
        have h1 : d[i]! = d[i - 1]! := Classical.byContradiction fun c => hk (.inr c)
        rw [h1]
        exact List.mem_append_left _ (upTo_mem d i (by omega) (i - 1) (by omega))
    · exact List.mem_append_left _ (upTo_mem d m (by omega) i (by omega))
theorem upTo_sub (d : Array Int) (m : Nat) (x : Int) (h : x ∈ compactUpTo d m) : ∃ i, i < m ∧ d[i]! = x := by
  unfold compactUpTo at h
  obtain ⟨i, hi, e⟩ := List.mem_map.1 h
  exact ⟨i, List.mem_range.1 (List.mem_filter.1 hi).1, e⟩
theorem mem_compact (zs : List Int) (x : Int) : x ∈ compact zs ↔ x ∈ zs := by
  constructor
  · intro h
    obtain ⟨i, hi, e⟩ := upTo_sub _ _ _ h
    rw [← e]
    have hi' : i < zs.toArray.size := by simpa using hi
    rw [getElem!_pos _ i hi']
    simp
  · intro h
    obtain ⟨i, hi, e⟩ := List.mem_iff_getElem.1 h
    have := upTo_mem zs.toArray zs.length (by simp) i hi
    rw [getElem!_pos _ i (by simpa using hi)] at this
    have e2 : zs.toArray[i] = x := by simpa using e
    rw [e2] at this
    exact this
theorem upTo_sorted (d : Array Int) (hs : ∀ i j, i ≤ j → j < d.size → d[i]! ≤ d[j]!) : ∀ m, m ≤ d.size → (compactUpTo d m).Pairwise (· < ·)
  | 0, _ => by simp [compactUpTo]
  | m + 1, hm => by
    rw [compactUpTo_succ]
    have ih := upTo_sorted d hs m (by omega)
    by_cases k : keeps d m = true
    · rw [if_pos k, List.pairwise_append]
      refine ⟨ih, by simp, ?_⟩
      intro a ha b hb
      have hb' : b = d[m]! := by simpa using hb
      subst hb'
      obtain ⟨i, hi, rfl⟩ := upTo_sub _ _ _ ha
      have hk : m = 0 ∨ d[m]! ≠ d[m - 1]! := by simpa [keeps] using k
      have h1 := hs i (m - 1) (by omega) (by omega)
      have h2 := hs (m - 1) m (by omega) (by omega)
      rcases hk with h | h
      · omega
      · omega
    · rw [if_neg k, List.append_nil]; exact ih
/-- the stripes of keys, rising, none twice -/
def setOf (zs : List Int) : List Int := compact (zs.mergeSort fun x y => decide (x ≤ y))
theorem setOf_mem (zs : List Int) (x : Int) : x ∈ setOf zs ↔ x ∈ zs := by
  unfold setOf
  rw [mem_compact]
  exact (List.mergeSort_perm zs _).mem_iff
theorem setOf_sorted (zs : List Int) : (setOf zs).Pairwise (· < ·) := by
  unfold setOf compact
  refine upTo_sorted _ ?_ _ (by simp)
  intro i j hij hj
  have hp : (zs.mergeSort fun x y => decide (x ≤ y)).Pairwise (fun x y => decide (x ≤ y) = true) := List.pairwise_mergeSort (fun a b c h1 h2 => by simp at *; omega) (fun a b => by simp; omega) zs
  by_cases e : i = j
  · subst e; exact Int.le_refl _
  · have := List.pairwise_iff_getElem.1 hp i j (by simp at hj ⊢; omega) (by simpa using hj) (by omega)
    rw [getElem!_pos _ i (by omega), getElem!_pos _ j hj]
    simpa using this
theorem setOf_len (zs : List Int) : (setOf zs).length ≤ zs.length := by
  unfold setOf
  have h1 := compact_length_le (zs.mergeSort fun x y => decide (x ≤ y))
  have h2 := List.length_mergeSort (le := fun x y : Int => decide (x ≤ y)) zs
  omega
/-- two rising lists of the same numbers are the same -/
theorem rising_eq : ∀ {a b : List Int}, a.Pairwise (· < ·) → b.Pairwise (· < ·) → (∀ x, x ∈ a ↔ x ∈ b) → a = b
  | [], [], _, _, _ => rfl
  | [], y :: b, _, _, h => by have := (h y).2 (by simp); simp at this
  | x :: a, [], _, _, h => by have := (h x).1 (by simp); simp at this
  | x :: a, y :: b, h1, h2, h => by
    have h1' := List.pairwise_cons.1 h1
    have h2' := List.pairwise_cons.1 h2
    have e : x = y := by
      rcases List.mem_cons.1 ((h x).1 (by simp)) with e | e
      · exact e
      · rcases List.mem_cons.1 ((h y).2 (by simp)) with e2 | e2
        · exact e2.symm
        · have := h1'.1 y e2
          have := h2'.1 x e
          omega
    subst e
    rw [rising_eq h1'.2 h2'.2]
    intro z
    have hz := h z
    simp only [List.mem_cons] at hz
    constructor
    · intro hm
      rcases hz.1 (.inr hm) with e | e
      · subst e; have := h1'.1 z hm; omega
      · exact e
    · intro hm
      rcases hz.2 (.inr hm) with e | e
      · subst e; have := h2'.1 z hm; omega
      · exact e
end Go.Proofs.YtboekjaagbbjdaaDoor
