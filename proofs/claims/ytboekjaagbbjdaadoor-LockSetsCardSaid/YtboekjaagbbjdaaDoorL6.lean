/- The law of the spread: refusals, no keys. -/
import Derived.Test.YtboekjaagbbjdaaDoorL5
import Derived.Deep.RegionWith
import Derived.Deep.QuietTactic
import Derived.BigQuiet
namespace Go.Proofs.YtboekjaagbbjdaaDoor
open Go.RowKit Go.Lib Go.Sort

theorem set5_bad (v : Value) (n : Int) (w : World) (h : n < 1 ∨ 64 < n) : Calls Tryd.prog 5 #[v, .int .i64 n] w fun e w' => e = .returned (.slice none 0 0) ∧ w = w' := by
  rcases h with h | h
  · go_enter Tryd.func5, Tryd.ntmps5
    go_wp2_with fail
    go_ret
    exact ⟨rfl, rfl⟩
  · have h' : ¬ n < 1 := by omega
    go_enter Tryd.func5, Tryd.ntmps5
    go_wp2_with fail
    go_ret
    exact ⟨rfl, rfl⟩
set_option maxHeartbeats 1000000 in
theorem set5_none (a : Option Addr) (cap : Nat) (n : Int) (w : World) (h1 : 1 ≤ n) (h2 : n ≤ 64) : Calls Tryd.prog 5 #[.slice a 0 cap, .int .i64 n] w fun e w' => e = .returned (.slice none 0 0) ∧ w = w' := by
  go_enter Tryd.func5, Tryd.ntmps5
  go_wp2_with fail
  refine wp_loop_rounds 1 ?_
  rw [rounds_succ]
  go_wp2_with fail
  refine (Tryd.slices_Sort_int_none _ _ _).mono ?_
  rintro e w1 ⟨rfl, hw⟩
  obtain rfl := hw.symm
  go_wp2_with fail
  refine (Tryd.slices_Compact_int_empty _ _ _).mono ?_
  rintro e w1 ⟨rfl, hw⟩
  obtain rfl := hw.symm
  go_wp2_with fail
  go_ret
  exact ⟨rfl, rfl⟩

/-- a slice that reads as numbers -/
def Ints (w : World) (v : Value) (xs : List Int) : Prop :=
  (∃ a cap, v = .slice a 0 cap ∧ xs = []) ∨
  ∃ b off cap, 0 < xs.length ∧ xs.length ≤ 9223372036854775807 ∧ v = .slice (some ⟨b, off, none⟩) xs.length cap ∧ b < w.heap.size ∧ ∀ i, i < xs.length → w.cell? ⟨b, off + i, none⟩ = some (.int .i64 (xs.getD i 0))
theorem ints_own {w : World} {base : Nat} {e : TypeId} {v : Value} {xs : List Int} (h : w.ownsRow base e 1 v xs.length (xs.map (Value.int .i64))) (hl : xs.length ≤ 9223372036854775807) : Ints w v xs := by
  rcases h.2 with ⟨rfl, hn⟩ | ⟨g, cap, cur, rfl, hb, hg, hnc, hcm, hcs, ht⟩
  · exact .inl ⟨none, 0, rfl, List.eq_nil_of_length_eq_zero hn⟩
  · by_cases h0 : xs.length = 0
    · exact .inl ⟨_, _, by rw [h0], List.eq_nil_of_length_eq_zero h0⟩
    · refine .inr ⟨g, 0, cap, by omega, hl, rfl, (h.lt g rfl).2, fun i hi => ?_⟩
      have hc := h.cells (g := g) rfl i (.int .i64 (xs.getD i 0)) (by simp [List.getD_eq_getElem?_getD, List.getElem?_eq_getElem hi])
      rw [← hc, addr_add]

theorem strI_range (n : Nat) (h : 0 < n) (k : ByteArray) : 0 ≤ strI n k ∧ strI n k < n := by
  unfold strI stripe
  have := Nat.mod_lt (crc k.data.toList) h
  omega
theorem strI_one (k : ByteArray) : strI 1 k = 0 := by have := strI_range 1 (by omega) k; omega
theorem setOf_ab (a b : ByteArray) : setOf ([a, b].map (strI 1)) = [0] := by
  apply rising_eq (setOf_sorted _) (by simp)
  intro x
  rw [setOf_mem]
  simp [strI_one]

theorem own_form {w : World} {base : Nat} {e : TypeId} {v : Value} {n : Nat} {xs : List Value} (h : w.ownsRow base e 1 v n xs) : ∃ a cap, v = .slice a n cap := by
  rcases h.2 with ⟨rfl, rfl⟩ | ⟨g, cap, cur, rfl, _⟩
  · exact ⟨_, _, rfl⟩
  · exact ⟨_, _, rfl⟩
theorem set5_ab (w : World) (ht : Tab w) (h0 : 0 < w.heap.size) : Calls Tryd.prog 5 #[.slice (some ⟨w.heap.size, 0, none⟩) 2 2, .int .i64 1] (w.alloc (.cells #[.string ⟨#[97]⟩, .string ⟨#[98]⟩] 9)) fun e w' => ∃ a cap, e = .returned (.slice a 1 cap) ∧ Below w.heap.size w w' := by
  have h := set5_row w.heap.size 0 2 [⟨#[97]⟩, ⟨#[98]⟩] 1 (w.alloc (.cells #[.string ⟨#[97]⟩, .string ⟨#[98]⟩] 9)) (ht.below h0 ((Below.refl _ _).alloc (Nat.le_refl _) _)) (by simp) (by simp) (by simp) (by decide) (by decide) (fun i hi => by
    match i, hi with
    | 0, _ => exact ⟨by simp, by decide⟩
    | 1, _ => exact ⟨by simp, by decide⟩
    | i + 2, hi => simp at hi; omega)
  refine h.mono ?_
  rintro e w' ⟨v', rfl, own, bel⟩
  obtain ⟨a, cap, rfl⟩ := own_form own
  have e1 : setOf (([⟨#[97]⟩, ⟨#[98]⟩] : List ByteArray).map (strI (1 : Int).toNat)) = [0] := setOf_ab _ _
  exact ⟨a, cap, by rw [e1]; rfl, ((Below.refl _ _).alloc (Nat.le_refl _) _).trans (bel.mono (by simp))⟩

set_option maxRecDepth 100000 in
set_option maxHeartbeats 4000000 in
theorem spread4_bad (v : Value) (n : Int) (w : World) (ht : Tab w) (h0 : 0 < w.heap.size) (h : n < 1 ∨ 64 < n) : Calls Tryd.prog 4 #[v, .int .i64 n] w fun e w' => e = .returned (.bool true) ∧ Below w.heap.size w w' := by
  have Ht := Lib.hid ht
  have Hn := Lib.hid h
  have f1 : (([65, 98].map (fun _ => (0 : Int))).length) = 2 := rfl
  clear ht f1
  have hb : (decide (n < 1) || decide (64 < n)) = true := by simp; omega
  have e0 : ((-1 : Int) == -1) = true := by decide
  rcases h with h | h
  case' inr => have h' : ¬ n < 1 := by omega
  all_goals
    go_enter Tryd.func4, Tryd.ntmps4
    go_wp2_with fail
    refine (stripe8_bad _ n _ Hn.out).mono ?_
    rintro e w1 ⟨rfl, hw⟩
    obtain rfl := hw
    go_wp2_with fail
    refine (set5_bad _ n _ Hn.out).mono ?_
    rintro e w1 ⟨rfl, hw⟩
    obtain rfl := hw
    go_wp2_with fail
    refine (stripe8 _ 1 _ Ht.out h0 (by decide) (by decide) (by decide)).mono ?_
    rintro e w1 ⟨rfl, bel1⟩
    have e1 : ((stripe (⟨#[97]⟩ : ByteArray).data.toList (1 : Int).toNat : Nat) : Int) = 0 := strI_one _
    rw [e1]
    have Bel1 := Lib.hid bel1
    have Ht1 := Lib.hid (Ht.out.below h0 bel1)
    clear bel1 e1
    go_wp2_with fail
    refine (set5_ab _ Ht1.out (by have := Bel1.out.size; omega)).mono ?_
    rintro e w2 ⟨a, cap, rfl, bel2⟩
    have Bel2 := Lib.hid (Bel1.out.trans (bel2.mono Bel1.out.size))
    clear bel2
    go_wp2_with fail
    go_ret
    exact ⟨rfl, Bel2.out⟩

set_option maxRecDepth 100000 in
set_option maxHeartbeats 4000000 in
theorem spread4_none (a : Option Addr) (cap : Nat) (n : Int) (w : World) (ht : Tab w) (h0 : 0 < w.heap.size) (h1 : 1 ≤ n) (h2 : n ≤ 64) : Calls Tryd.prog 4 #[.slice a 0 cap, .int .i64 n] w fun e w' => e = .returned (.bool true) ∧ Below w.heap.size w w' := by
  have Ht := Lib.hid ht
  clear ht
  have hb : (decide (n < 1) || decide (64 < n)) = false := by simp; omega
  go_enter Tryd.func4, Tryd.ntmps4
  go_wp2_with fail
  refine (set5_none _ _ _ _ h1 h2).mono ?_
  rintro e w1 ⟨rfl, hw⟩
  obtain rfl := hw
  go_wp2_with fail
  refine wp_loop_rounds 1 ?_
  rw [rounds_succ]
  go_wp2_with fail
  refine wp_loop_rounds 1 ?_
  rw [rounds_succ]
  go_wp2_with fail
  refine (stripe8 _ 1 _ Ht.out h0 (by decide) (by decide) (by decide)).mono ?_
  rintro e w1 ⟨rfl, bel1⟩
  have e1 : ((stripe (⟨#[97]⟩ : ByteArray).data.toList (1 : Int).toNat : Nat) : Int) = 0 := strI_one _
  rw [e1]
  have Bel1 := Lib.hid bel1
  clear bel1 e1
  go_wp2_with fail
  go_ret
  exact ⟨rfl, Bel1.out⟩
end Go.Proofs.YtboekjaagbbjdaaDoor
