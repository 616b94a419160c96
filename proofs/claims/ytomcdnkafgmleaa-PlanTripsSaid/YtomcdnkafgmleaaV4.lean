/- Trip answers as the document's, whatever ways come in. -/
import Derived.Test.YtomcdnkafgmleaaV3
namespace Go.Proofs.Ytomcdnkafgmleaa
open Go.RowKit
open Classical in
/-- what both answer -/
noncomputable def TA (n : Nat) (M : Nat → List Int) : List Int × Int × Int :=
  if 12 < n then ([], 0, 1) else if ∀ i, i < n → okRow n (M i) then (if n = 0 then ([], 0, 0) else if n = 1 then ([0], 0, 0) else (0 :: tour (fun i j => (M i).getD j 0) n (2 ^ n) 1 0, (T (fun i j => (M i).getD j 0) n 1 0).1, 0)) else ([], 0, 173)

theorem first_bad_row {n : Nat} {M : Nat → List Int} (h : ¬ ∀ i, i < n → okRow n (M i)) : ∃ m, m < n ∧ ¬ okRow n (M m) ∧ ∀ i, i < m → okRow n (M i) := by
  have : ∀ k, k ≤ n → (∀ i, i < k → okRow n (M i)) ∨ ∃ m, m < k ∧ ¬ okRow n (M m) ∧ ∀ i, i < m → okRow n (M i) := by
    intro k
    induction k with
    | zero => intro _; exact .inl fun i hi => by omega
    | succ k ih =>
      intro hk
      rcases ih (by omega) with h1 | ⟨m, h1, h2, h3⟩
      · by_cases hr : okRow n (M k)
        · exact .inl fun i hi => by
            by_cases e : i = k
            · subst e; exact hr
            · exact h1 i (by omega)
        · exact .inr ⟨k, by omega, hr, h1⟩
      · exact .inr ⟨m, by omega, h2, h3⟩
  rcases this n (Nat.le_refl _) with h1 | h1
  · exact absurd h1 h
  · exact h1
theorem own_ints {w : World} {base : Nat} {v : Value} {xs : List Int} (h : w.ownsRow base 3 1 v xs.length (xs.map (Value.int .i64))) : Ints w v xs := by
  rcases h.2 with ⟨rfl, hn⟩ | ⟨g, cap, cur, rfl, hb, hg, hnc, hcm, hcs, ht⟩
  · exact .inl ⟨none, 0, rfl, List.eq_nil_of_length_eq_zero hn⟩
  · by_cases h0 : xs.length = 0
    · exact .inl ⟨_, _, by rw [h0], List.eq_nil_of_length_eq_zero h0⟩
    · unfold maxLen at hcm
      refine .inr ⟨g, 0, cap, by omega, by omega, rfl, fun i hi => ?_⟩
      have hc := h.cells (g := g) rfl i (.int .i64 (xs.getD i 0)) (by simp [List.getD_eq_getElem?_getD, List.getElem?_eq_getElem hi])
      rw [← hc, addr_add]
theorem one_ints (w : World) : Ints (w.alloc (.cells #[.int .i64 0] 3)) (.slice (some ⟨w.heap.size, 0, none⟩) 1 1) [0] :=
  .inr ⟨w.heap.size, 0, 1, by simp, by simp, rfl, fun i hi => by
    obtain rfl : i = 0 := by simpa using hi
    simp⟩

theorem trip_all (v : Value) (n : Nat) (M : Nat → List Int) (w : World) (hv : Rows2 w v n M) (hM : ∀ i, n ≤ i → M i = []) :
    Calls Try.prog 15 #[v] w fun e w' => ∃ l, e = .returned (.tuple #[l, .int .i64 (TA n M).2.1, .int .i64 (TA n M).2.2]) ∧ Ints w' l (TA n M).1 ∧ Below w.heap.size w w' := by
  by_cases h1 : 12 < n
  · have e : TA n M = ([], 0, 1) := if_pos h1
    rw [e]
    refine (trip_long v n M w hv h1).mono ?_
    rintro e w' ⟨rfl, rfl⟩
    exact ⟨_, rfl, .inl ⟨_, _, rfl, rfl⟩, Below.refl _ _⟩
  · by_cases h2 : ∀ i, i < n → okRow n (M i)
    · by_cases h3 : n = 0
      · have e : TA n M = ([], 0, 0) := by unfold TA; rw [if_neg h1, if_pos h2, if_pos h3]
        rw [e]
        subst h3
        refine (trip_zero v M w hv).mono ?_
        rintro e w' ⟨rfl, rfl⟩
        exact ⟨_, rfl, .inl ⟨_, _, rfl, rfl⟩, Below.refl _ _⟩
      · by_cases h4 : n = 1
        · have e : TA n M = ([0], 0, 0) := by unfold TA; rw [if_neg h1, if_pos h2, if_neg h3, if_pos h4]
          rw [e]
          subst h4
          refine (trip_one v M w hv (h2 0 (by omega))).mono ?_
          rintro e w' ⟨rfl, rfl⟩
          exact ⟨_, rfl, one_ints w, (Below.refl _ _).alloc (Nat.le_refl _) _⟩
        · have e : TA n M = (0 :: tour (fun i j => (M i).getD j 0) n (2 ^ n) 1 0, (T (fun i j => (M i).getD j 0) n 1 0).1, 0) := by unfold TA; rw [if_neg h1, if_pos h2, if_neg h3, if_neg h4]
          rw [e]
          refine (trip_ok v n M _ (fun _ _ => rfl) w hv (by omega) (by omega) h2 hM).mono ?_
          rintro e w' ⟨l, rfl, own, bel⟩
          exact ⟨l, rfl, own_ints own, bel⟩
    · have e : TA n M = ([], 0, 173) := by unfold TA; rw [if_neg h1, if_neg h2]
      rw [e]
      obtain ⟨m, hm1, hm2, hm3⟩ := first_bad_row h2
      refine (trip_bad v n M w hv (by omega) m hm1 hm3 hm2).mono ?_
      rintro e w' ⟨rfl, rfl⟩
      exact ⟨_, rfl, .inl ⟨_, _, rfl, rfl⟩, Below.refl _ _⟩
theorem reftrip_all (v : Value) (n : Nat) (M : Nat → List Int) (w : World) (hv : Rows2 w v n M) (hM : ∀ i, n ≤ i → M i = []) :
    Calls Try.prog 16 #[v] w fun e w' => ∃ l, e = .returned (.tuple #[l, .int .i64 (TA n M).2.1, .int .i64 (TA n M).2.2]) ∧ Ints w' l (TA n M).1 ∧ Below w.heap.size w w' := by
  by_cases h1 : 12 < n
  · have e : TA n M = ([], 0, 1) := if_pos h1
    rw [e]
    refine (reftrip_long v n M w hv h1).mono ?_
    rintro e w' ⟨rfl, rfl⟩
    exact ⟨_, rfl, .inl ⟨_, _, rfl, rfl⟩, Below.refl _ _⟩
  · by_cases h2 : ∀ i, i < n → okRow n (M i)
    · by_cases h3 : n = 0
      · have e : TA n M = ([], 0, 0) := by unfold TA; rw [if_neg h1, if_pos h2, if_pos h3]
        rw [e]
        subst h3
        refine (reftrip_zero v M w hv).mono ?_
        rintro e w' ⟨rfl, rfl⟩
        exact ⟨_, rfl, .inl ⟨_, _, rfl, rfl⟩, Below.refl _ _⟩
      · by_cases h4 : n = 1
        · have e : TA n M = ([0], 0, 0) := by unfold TA; rw [if_neg h1, if_pos h2, if_neg h3, if_pos h4]
          rw [e]
          subst h4
          refine (reftrip_one v M w hv (h2 0 (by omega))).mono ?_
          rintro e w' ⟨rfl, rfl⟩
          exact ⟨_, rfl, one_ints w, (Below.refl _ _).alloc (Nat.le_refl _) _⟩
        · have e : TA n M = (0 :: tour (fun i j => (M i).getD j 0) n (2 ^ n) 1 0, (T (fun i j => (M i).getD j 0) n 1 0).1, 0) := by unfold TA; rw [if_neg h1, if_pos h2, if_neg h3, if_neg h4]
          rw [e]
          refine (reftrip_ok v n M _ (fun _ _ => rfl) w hv (by omega) (by omega) h2 hM).mono ?_
          rintro e w' ⟨l, rfl, own, bel⟩
          exact ⟨l, rfl, own_ints own, bel⟩
    · have e : TA n M = ([], 0, 173) := by unfold TA; rw [if_neg h1, if_neg h2]
      rw [e]
      obtain ⟨m, hm1, hm2, hm3⟩ := first_bad_row h2
      refine (reftrip_bad v n M w hv (by omega) m hm1 hm3 hm2).mono ?_
      rintro e w' ⟨rfl, rfl⟩
      exact ⟨_, rfl, .inl ⟨_, _, rfl, rfl⟩, Below.refl _ _⟩
end Go.Proofs.Ytomcdnkafgmleaa
