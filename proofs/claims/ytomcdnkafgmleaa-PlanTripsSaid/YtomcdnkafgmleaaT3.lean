/- Ways as rows of numbers, and how they are read. -/
import Derived.Test.YtomcdnkafgmleaaT2
import Derived.Test.YtomcdnkafgmleaaW2
namespace Go.Proofs.Ytomcdnkafgmleaa
open Go.RowKit

/-- a slice of slices reads as rows of numbers -/
def Rows2 (w : World) (v : Value) (n : Nat) (M : Nat → List Int) : Prop :=
  (n = 0 ∧ ∃ a cap, v = .slice a 0 cap) ∨
  ∃ b off cap, 0 < n ∧ n ≤ 9223372036854775807 ∧ v = .slice (some ⟨b, off, none⟩) n cap ∧ b < w.heap.size ∧ ∀ i, i < n → ∃ r, w.cell? ⟨b, off + i, none⟩ = some r ∧ Ints w r (M i)
theorem Rows2.below {w w' : World} {v : Value} {n : Nat} {M : Nat → List Int} (h : Rows2 w v n M) (hb : Below w.heap.size w w') : Rows2 w' v n M := by
  rcases h with h | ⟨b, off, cap, h0, hm, rfl, hbl, hc⟩
  · exact .inl h
  · refine .inr ⟨b, off, cap, h0, hm, rfl, Nat.lt_of_lt_of_le hbl hb.size, fun i hi => ?_⟩
    obtain ⟨r, h1, h2⟩ := hc i hi
    exact ⟨r, by rw [hb.cell (p := ⟨b, off + i, none⟩) hbl]; exact h1, h2.below hb⟩
theorem Rows2.form {w : World} {v : Value} {n : Nat} {M : Nat → List Int} (h : Rows2 w v n M) : ∃ a cap, v = .slice a n cap ∧ n ≤ 9223372036854775807 := by
  rcases h with ⟨rfl, a, cap, rfl⟩ | ⟨b, off, cap, _, hm, rfl, _⟩
  · exact ⟨_, _, rfl, by omega⟩
  · exact ⟨_, _, rfl, hm⟩
theorem ints_form {w : World} {v : Value} {h : List Int} (hv : Ints w v h) : ∃ a cap, v = .slice a h.length cap ∧ h.length ≤ 9223372036854775807 := by
  rcases hv with ⟨a, cap, rfl, rfl⟩ | ⟨b, off, cap, _, hm, rfl, _⟩
  · exact ⟨_, _, rfl, by simp⟩
  · exact ⟨_, _, rfl, hm⟩
/-- one row, in its form -/
theorem Rows2.row {w : World} {a : Option Addr} {n cap : Nat} {M : Nat → List Int} (h : Rows2 w (.slice a n cap) n M) {i : Nat} (hi : i < n) :
    ∃ b off a2 cap2, a = some ⟨b, off, none⟩ ∧ w.cell? ⟨b, off + i, none⟩ = some (.slice a2 (M i).length cap2) ∧ (M i).length ≤ 9223372036854775807 ∧ Ints w (.slice a2 (M i).length cap2) (M i) := by
  rcases h with ⟨h0, _⟩ | ⟨b, off, cap', h0, hm, e, hbl, hc⟩
  · omega
  · simp only [Value.slice.injEq] at e
    obtain ⟨r, h1, h2⟩ := hc i hi
    obtain ⟨a2, cap2, rfl, hl⟩ := ints_form h2
    exact ⟨b, off, a2, cap2, e.1, h1, hl, h2⟩
/-- one number of it -/
theorem Rows2.num {w : World} {a : Option Addr} {n cap : Nat} {M : Nat → List Int} (h : Rows2 w (.slice a n cap) n M) {i j : Nat} (hi : i < n) (hj : j < (M i).length) :
    ∃ b off b2 off2 cap2, a = some ⟨b, off, none⟩ ∧ w.cell? ⟨b, off + i, none⟩ = some (.slice (some ⟨b2, off2, none⟩) (M i).length cap2) ∧ w.cell? ⟨b2, off2 + j, none⟩ = some (.int .i64 ((M i).getD j 0)) := by
  obtain ⟨b, off, a2, cap2, rfl, h1, hl, h2⟩ := h.row hi
  rcases h2 with ⟨a', cap', e, hx⟩ | ⟨b2, off2, cap', h0, hm, e, hc⟩
  · rw [hx] at hj; simp at hj
  · simp only [Value.slice.injEq] at e
    rw [e.1] at h1
    exact ⟨b, off, b2, off2, cap2, rfl, h1, hc j hj⟩

/-- rows that are none -/
def okRow (n : Nat) (r : List Int) : Prop := r.length = n ∧ r.all okF = true

set_option maxRecDepth 100000 in
theorem trip_long (v : Value) (n : Nat) (M : Nat → List Int) (w : World) (hv : Rows2 w v n M) (hn : 12 < n) : Calls Try.prog 15 #[v] w fun e w' => e = .returned (.tuple #[.slice none 0 0, .int .i64 0, .int .i64 1]) ∧ w = w' := by
  obtain ⟨a, cap, rfl, hm⟩ := hv.form
  clear hv
  go_enter Try.func15, Try.ntmps15
  go_wp2_with fail
  exact bodyPost_ret (v := .tuple #[.slice none 0 0, .int .i64 0, .int .i64 1]) (by simp [results, Try.results15, go_sem]) rfl ⟨rfl, rfl⟩

set_option maxRecDepth 100000 in
theorem trip_bad (v : Value) (n : Nat) (M : Nat → List Int) (w : World) (hv : Rows2 w v n M) (hn : n ≤ 12) (m : Nat) (hmn : m < n) (hgood : ∀ i, i < m → okRow n (M i)) (hbad : ¬ okRow n (M m)) :
    Calls Try.prog 15 #[v] w fun e w' => e = .returned (.tuple #[.slice none 0 0, .int .i64 0, .int .i64 173]) ∧ w = w' := by
  obtain ⟨a, cap, rfl, hm⟩ := hv.form
  have HV := Lib.hid hv
  have HG := Lib.hid hgood
  have HB := Lib.hid hbad
  clear hv hgood hbad
  go_enter Try.func15, Try.ntmps15
  go_wp2_with fail
  go_loop [23] (fun i => ∃ k : Nat, k ≤ m ∧ i = .int .i64 k) (fun i => m - (intOf i).toNat)
  case atStart => exact ⟨0, Nat.zero_le _, rfl⟩
  obtain ⟨k, hk, rfl⟩ := hrel
  obtain ⟨b, off, a2, cap2, rfl, c, hl, hi⟩ := HV.out.row (i := k) (by omega)
  have HI := Lib.hid hi
  by_cases hlt : k < m
  · obtain ⟨g1, g2⟩ := HG.out k hlt
    rw [g1] at c HI
    clear hi
    go_wp2_with fail
    refine (contains42 _ _ _ HI.out).mono ?_
    rintro e w' ⟨rfl, rfl⟩
    rw [g2]
    go_wp2_with fail
    go_round
    case rel => exact ⟨k + 1, by omega, by go_num⟩
    case measure => simp [intOf]; omega
  · obtain rfl : k = m := by omega
    clear hi
    by_cases hlen : (M k).length = n
    · have hall : (M k).all okF = false := by
        rw [← Bool.not_eq_true]; exact fun h => HB.out ⟨hlen, h⟩
      rw [hlen] at c HI
      go_wp2_with fail
      refine (contains42 _ _ _ HI.out).mono ?_
      rintro e w' ⟨rfl, rfl⟩
      rw [hall]
      go_wp2_with fail
      exact bodyPost_ret (v := .tuple #[.slice none 0 0, .int .i64 0, .int .i64 173]) (by simp [results, Try.results15, go_sem]) rfl ⟨rfl, rfl⟩
    · obtain ⟨L, hL⟩ : ∃ L, (M k).length = L := ⟨_, rfl⟩
      rw [hL] at c hlen hl
      clear hL HI
      have hne : ¬ ((L : Int) = (n : Int)) := by omega
      go_wp2_with fail
      exact bodyPost_ret (v := .tuple #[.slice none 0 0, .int .i64 0, .int .i64 173]) (by simp [results, Try.results15, go_sem]) rfl ⟨rfl, rfl⟩
end Go.Proofs.Ytomcdnkafgmleaa
