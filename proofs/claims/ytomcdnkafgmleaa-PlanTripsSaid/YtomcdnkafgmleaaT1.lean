/- Small contracts that Trip asks: ranges, comparisons. -/
import Derived.Test.YtomcdnkafgmleaaQ8
namespace Go.Proofs.Ytomcdnkafgmleaa
open Go.RowKit

theorem within44 (x lo hi : Int) (w : World) : Calls Try.prog 44 #[.int .i64 x, .int .i64 lo, .int .i64 hi] w fun e w' => e = .returned (.bool (decide (lo ≤ x) && decide (x ≤ hi))) ∧ w = w' := by
  go_enter Try.func44, Try.ntmps44
  by_cases h : lo ≤ x
  · by_cases h2 : x ≤ hi
    · go_wp2_with fail
      go_ret
      exact ⟨by simp; try omega, rfl⟩
    · go_wp2_with fail
      go_ret
      exact ⟨by simp; try omega, rfl⟩
  · go_wp2_with fail
    go_ret
    exact ⟨by simp; try omega, rfl⟩

/-- may a way be so long -/
def okF (n : Int) : Bool := decide (0 ≤ n) && decide (n ≤ 1000000000)
theorem bad43 (x : Int) (w : World) : Calls Try.prog 43 #[.int .i64 x] w fun e w' => e = .returned (.bool (!okF x)) ∧ w = w' := by
  go_enter Try.func43, Try.ntmps43
  go_wp2_with fail
  refine (within44 _ _ _ _).mono ?_
  rintro e w' ⟨rfl, rfl⟩
  go_wp2_with fail
  go_ret
  exact ⟨by simp [okF], rfl⟩

theorem isNaN63 (x : Int) (w : World) : Calls Try.prog 63 #[.int .i64 x] w fun e w' => e = .returned (.bool false) ∧ w = w' := by
  go_enter Try.func63, Try.ntmps63
  go_wp2_with fail
  go_ret
  exact ⟨by simp, rfl⟩

def cmpI (x y : Int) : Int := if x < y then -1 else if y < x then 1 else 0
theorem compare47 (x y : Int) (w : World) : Calls Try.prog 47 #[.int .i64 x, .int .i64 y] w fun e w' => e = .returned (.int .i64 (cmpI x y)) ∧ w = w' := by
  go_enter Try.func47, Try.ntmps47
  go_wp2_with fail
  refine (isNaN63 _ _).mono ?_
  rintro e w' ⟨rfl, rfl⟩
  go_wp2_with fail
  refine (isNaN63 _ _).mono ?_
  rintro e w' ⟨rfl, rfl⟩
  by_cases h : x < y
  · go_wp2_with fail
    go_ret
    exact ⟨by rw [show cmpI x y = -1 by unfold cmpI; rw [if_pos h]]; rfl, rfl⟩
  · by_cases h2 : y < x
    · go_wp2_with fail
      go_ret
      exact ⟨by rw [show cmpI x y = 1 by unfold cmpI; rw [if_neg (by omega), if_pos h2]]; rfl, rfl⟩
    · go_wp2_with fail
      go_ret
      exact ⟨by rw [show cmpI x y = 0 by unfold cmpI; rw [if_neg (by omega), if_neg (by omega)]]; rfl, rfl⟩

/-- legs: how long, and where next -/
def cmpL (a b : Int × Int) : Int := if a.1 ≠ b.1 then cmpI a.1 b.1 else cmpI a.2 b.2
theorem legs46 (a b : Int × Int) (w : World) : Calls Try.prog 46 #[.agg #[.int .i64 a.1, .int .i64 a.2], .agg #[.int .i64 b.1, .int .i64 b.2]] w fun e w' => e = .returned (.int .i64 (cmpL a b)) ∧ Below w.heap.size w w' := by
  obtain ⟨a1, a2⟩ := a
  obtain ⟨b1, b2⟩ := b
  go_enter Try.func46, Try.ntmps46
  by_cases h : a1 = b1
  · subst h
    go_wp2_with fail
    refine (compare47 _ _ _).mono ?_
    rintro e w' ⟨rfl, rfl⟩
    go_wp2_with fail
    go_ret
    exact ⟨by simp [cmpL], bel2 _ _ _⟩
  · go_wp2_with fail
    refine (compare47 _ _ _).mono ?_
    rintro e w' ⟨rfl, rfl⟩
    go_wp2_with fail
    go_ret
    exact ⟨by simp [cmpL, h], bel2 _ _ _⟩

/-- is one of them no way -/
theorem index62_empty (a : Option Addr) (cap : Nat) (w : World) : Calls Try.prog 62 #[.slice a 0 cap, .func (.func 43) #[] #[]] w fun e w' => e = .returned (.int .i64 (-1)) ∧ w = w' := by
  go_enter Try.func62, Try.ntmps62
  go_wp2_with fail
  refine wp_loop_rounds 1 ?_
  rw [rounds_succ]
  go_wp2_with fail
  go_ret
  exact ⟨rfl, rfl⟩

set_option maxRecDepth 100000 in
theorem index62_row (b off cap : Nat) (h : List Int) (w : World) (hm : h.length ≤ 9223372036854775807) (hc : ∀ i, i < h.length → w.cell? ⟨b, off + i, none⟩ = some (.int .i64 (h.getD i 0))) :
    Calls Try.prog 62 #[.slice (some ⟨b, off, none⟩) h.length cap, .func (.func 43) #[] #[]] w fun e w' => (∃ m : Int, e = .returned (.int .i64 m) ∧ (decide (m ≥ 0)) = !(h.all okF)) ∧ w = w' := by
  have Hc := Lib.hid hc
  clear hc
  generalize hn : h.length = n at *
  have Hn := Lib.hid hn
  clear hn
  go_enter Try.func62, Try.ntmps62
  go_wp2_with fail
  go_loop [8] (fun i => ∃ k : Nat, k ≤ n ∧ i = .int .i64 k ∧ ∀ j, j < k → okF (h.getD j 0) = true) (fun i => n - (intOf i).toNat)
  case atStart => exact ⟨0, Nat.zero_le _, rfl, fun j hj => by omega⟩
  obtain ⟨k, hk, rfl, hall⟩ := hrel
  have Hall := Lib.hid hall
  clear hall
  by_cases hlt : k < n
  case pos =>
    have cb := Hc.out k hlt
    obtain ⟨x, hx⟩ : ∃ x, h.getD k 0 = x := ⟨_, rfl⟩
    have Hx := Lib.hid hx
    rw [hx] at cb
    clear hx
    by_cases hb : okF x = true
    · go_wp2_with fail
      refine (bad43 _ _).mono ?_
      rintro e w' ⟨rfl, rfl⟩
      rw [hb]
      go_wp2_with fail
      go_round
      case rel => exact ⟨k + 1, by omega, by go_num, fun j hj => by
        by_cases e : j = k
        · subst e; rw [Hx.out]; exact hb
        · exact Hall.out j (by omega)⟩
      case measure => simp [intOf]; omega
    · go_wp2_with fail
      refine (bad43 _ _).mono ?_
      rintro e w' ⟨rfl, rfl⟩
      rw [Bool.not_eq_true] at hb
      rw [hb]
      go_wp2_with fail
      go_ret
      refine ⟨⟨_, rfl, ?_⟩, rfl⟩
      have h1 : h.all okF = false := by
        rw [List.all_eq_false]
        refine ⟨h.getD k 0, ?_, by rw [Hx.out, hb]; simp⟩
        have := Hn.out
        rw [List.getD_eq_getElem?_getD, List.getElem?_eq_getElem (by omega)]; exact List.getElem_mem _
      rw [h1]; simp
  obtain rfl : n = k := by omega
  go_wp2_with fail
  go_ret
  refine ⟨⟨_, rfl, ?_⟩, rfl⟩
  have h1 : h.all okF = true := by
    rw [List.all_eq_true]
    intro x hx
    obtain ⟨j, hj, rfl⟩ := List.mem_iff_getElem.1 hx
    have := Hall.out j (by have := Hn.out; omega)
    rwa [List.getD_eq_getElem?_getD, List.getElem?_eq_getElem hj] at this
  rw [h1]; simp

theorem contains42 (v : Value) (h : List Int) (w : World) (hv : Ints w v h) : Calls Try.prog 42 #[v, .func (.func 43) #[] #[]] w fun e w' => e = .returned (.bool (!(h.all okF))) ∧ w = w' := by
  rcases hv with ⟨a, cap, rfl, rfl⟩ | ⟨b, off, cap, h1, hm, rfl, hcell⟩
  · go_enter Try.func42, Try.ntmps42
    go_wp2_with fail
    refine (index62_empty _ _ _).mono ?_
    rintro e w' ⟨rfl, rfl⟩
    go_wp2_with fail
    go_ret
    exact ⟨rfl, rfl⟩
  · go_enter Try.func42, Try.ntmps42
    go_wp2_with fail
    refine (index62_row _ _ _ _ _ hm hcell).mono ?_
    rintro e w' ⟨⟨m, rfl, hm2⟩, rfl⟩
    go_wp2_with fail
    go_ret
    exact ⟨by rw [← hm2]; rfl, rfl⟩
end Go.Proofs.Ytomcdnkafgmleaa
