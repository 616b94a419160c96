/- The document's Trip: what it refuses; no stop, one stop. -/
import Derived.Test.YtomcdnkafgmleaaV1
namespace Go.Proofs.Ytomcdnkafgmleaa
open Go.RowKit

theorem first_badF : ∀ (r : List Int), r.all okF = false → ∃ j, j < r.length ∧ okF (r.getD j 0) = false ∧ ∀ i, i < j → okF (r.getD i 0) = true
  | [], h => by simp at h
  | x :: r, h => by
    cases hx : okF x
    · exact ⟨0, by simp, hx, fun i hi => by omega⟩
    · have h2 : r.all okF = false := by simpa [hx] using h
      obtain ⟨j, h1, h3, h4⟩ := first_badF r h2
      refine ⟨j + 1, by simp; omega, h3, fun i hi => ?_⟩
      match i, hi with
      | 0, _ => exact hx
      | i + 1, hi => exact h4 i (by omega)
theorem ok_bounds {x : Int} (h : okF x = true) : 0 ≤ x ∧ x ≤ 1000000000 := by simpa [okF] using h
theorem ok_get {n : Nat} {r : List Int} (h : okRow n r) {j : Nat} (hj : j < n) : okF (r.getD j 0) = true := by
  have hj' : j < r.length := by rw [h.1]; exact hj
  rw [List.getD_eq_getElem?_getD, List.getElem?_eq_getElem hj']
  exact List.all_eq_true.1 h.2 _ (List.getElem_mem hj')

set_option maxRecDepth 100000 in
theorem reftrip_long (v : Value) (n : Nat) (M : Nat → List Int) (w : World) (hv : Rows2 w v n M) (hn : 12 < n) : Calls Try.prog 16 #[v] w fun e w' => e = .returned (.tuple #[.slice none 0 0, .int .i64 0, .int .i64 1]) ∧ w = w' := by
  obtain ⟨a, cap, rfl, hm⟩ := hv.form
  clear hv
  go_enter Try.func16, Try.ntmps16
  go_wp2_with fail
  exact bodyPost_ret (v := .tuple #[.slice none 0 0, .int .i64 0, .int .i64 1]) (by simp [results, Try.results16, go_sem]) rfl ⟨rfl, rfl⟩
set_option maxRecDepth 100000 in
theorem reftrip_zero (v : Value) (M : Nat → List Int) (w : World) (hv : Rows2 w v 0 M) : Calls Try.prog 16 #[v] w fun e w' => e = .returned (.tuple #[.slice none 0 0, .int .i64 0, .int .i64 0]) ∧ w = w' := by
  obtain ⟨a, cap, rfl, hm⟩ := hv.form
  clear hv
  go_enter Try.func16, Try.ntmps16
  go_wp2_with fail
  refine wp_loop_rounds 1 ?_
  rw [rounds_succ]
  go_wp2_with fail
  exact bodyPost_ret (v := .tuple #[.slice none 0 0, .int .i64 0, .int .i64 0]) (by simp [results, Try.results16, go_sem]) rfl ⟨rfl, rfl⟩

set_option maxRecDepth 100000 in
set_option maxHeartbeats 4000000 in
theorem reftrip_bad (v : Value) (n : Nat) (M : Nat → List Int) (w : World) (hv : Rows2 w v n M) (hn : n ≤ 12) (m : Nat) (hmn : m < n) (hgood : ∀ i, i < m → okRow n (M i)) (hbad : ¬ okRow n (M m)) :
    Calls Try.prog 16 #[v] w fun e w' => e = .returned (.tuple #[.slice none 0 0, .int .i64 0, .int .i64 173]) ∧ w = w' := by
  obtain ⟨a, cap, rfl, hm⟩ := hv.form
  have HV := Lib.hid hv
  have HG := Lib.hid hgood
  have HB := Lib.hid hbad
  clear hv hgood hbad
  go_enter Try.func16, Try.ntmps16
  go_wp2_with fail
  go_loop [6] (fun i => ∃ k : Nat, k ≤ m ∧ i = .int .i64 k) (fun i => m - (intOf i).toNat)
  case atStart => exact ⟨0, Nat.zero_le _, rfl⟩
  obtain ⟨k, hk, rfl⟩ := hrel
  have z1 : (k : Int) < (n : Int) := by omega
  have z2 : (0 : Int) ≤ (k : Int) := by omega
  by_cases hlt : k < m
  · have Gk := Lib.hid (HG.out k hlt)
    obtain ⟨b, off, a2, cap2, rfl, c, hl, _⟩ := HV.out.row (i := k) (by omega)
    rw [Gk.out.1] at c
    go_wp2_with fail
    go_loop [7] (fun i => ∃ j : Nat, j ≤ n ∧ i = .int .i64 j) (fun i => n - (intOf i).toNat)
    case atStart => exact ⟨0, Nat.zero_le _, rfl⟩
    obtain ⟨j, hj, rfl⟩ := hrel
    by_cases hjn : j < n
    · obtain ⟨b', off', b2, off2, cap3, e', c1, c2⟩ := HV.out.num (i := k) (j := j) (by omega) (by rw [Gk.out.1]; exact hjn)
      simp only [Option.some.injEq, Addr.mk.injEq, and_true] at e'
      obtain ⟨rfl, rfl⟩ := e'
      rw [Gk.out.1] at c1
      have hx := ok_bounds (ok_get Gk.out hjn)
      obtain ⟨x, hxx⟩ : ∃ x, (M k).getD j 0 = x := ⟨_, rfl⟩
      rw [hxx] at c2 hx
      have g1 : decide (x < 0) = false := by simp; omega
      have g2 : decide (1000000000 < x) = false := by simp; omega
      clear hxx c
      go_wp2_with fail
      go_round
      case rel => exact ⟨j + 1, by omega, by go_num⟩
      case measure => simp [intOf]; omega
    obtain rfl : n = j := by omega
    go_wp2_with fail
    go_round
    case rel => exact ⟨k + 1, by omega, by go_num⟩
    case measure => simp [intOf]; omega
  obtain rfl : k = m := by omega
  obtain ⟨b, off, a2, cap2, rfl, c, hl, _⟩ := HV.out.row (i := k) (by omega)
  by_cases hlen : (M k).length = n
  · have hall : (M k).all okF = false := by
      rw [← Bool.not_eq_true]; exact fun h => HB.out ⟨hlen, h⟩
    obtain ⟨j0, h1, h2, h3⟩ := first_badF _ hall
    have H2 := Lib.hid h2
    have H3 := Lib.hid h3
    have Hl := Lib.hid hlen
    rw [hlen] at c h1
    clear hall h2 h3 hlen hl
    go_wp2_with fail
    go_loop [7] (fun i => ∃ j : Nat, j ≤ j0 ∧ i = .int .i64 j) (fun i => n - (intOf i).toNat)
    case atStart => exact ⟨0, Nat.zero_le _, rfl⟩
    obtain ⟨j, hj, rfl⟩ := hrel
    have hjn : j < n := by omega
    obtain ⟨b', off', b2, off2, cap3, e', c1, c2⟩ := HV.out.num (i := k) (j := j) (by omega) (by rw [Hl.out]; exact hjn)
    simp only [Option.some.injEq, Addr.mk.injEq, and_true] at e'
    obtain ⟨rfl, rfl⟩ := e'
    rw [Hl.out] at c1
    by_cases hjj : j < j0
    · have hx := ok_bounds (H3.out j hjj)
      obtain ⟨x, hxx⟩ : ∃ x, (M k).getD j 0 = x := ⟨_, rfl⟩
      rw [hxx] at c2 hx
      have g1 : decide (x < 0) = false := by simp; omega
      have g2 : decide (1000000000 < x) = false := by simp; omega
      clear hxx c
      go_wp2_with fail
      go_round
      case rel => exact ⟨j + 1, by omega, by go_num⟩
      case measure => simp [intOf]; omega
    · obtain rfl : j = j0 := by omega
      have hx := H2.out
      obtain ⟨x, hxx⟩ : ∃ x, (M k).getD j 0 = x := ⟨_, rfl⟩
      rw [hxx] at c2 hx
      clear hxx c
      by_cases hneg : x < 0
      · go_wp2_with fail
        exact bodyPost_ret (v := .tuple #[.slice none 0 0, .int .i64 0, .int .i64 173]) (by simp [results, Try.results16, go_sem]) rfl ⟨rfl, rfl⟩
      · have g2 : 1000000000 < x := by simp [okF] at hx; omega
        clear hx
        go_wp2_with fail
        exact bodyPost_ret (v := .tuple #[.slice none 0 0, .int .i64 0, .int .i64 173]) (by simp [results, Try.results16, go_sem]) rfl ⟨rfl, rfl⟩
  · obtain ⟨L, hL⟩ : ∃ L, (M k).length = L := ⟨_, rfl⟩
    rw [hL] at c hlen hl
    clear hL
    have hne : ¬ ((L : Int) = (n : Int)) := by omega
    go_wp2_with fail
    exact bodyPost_ret (v := .tuple #[.slice none 0 0, .int .i64 0, .int .i64 173]) (by simp [results, Try.results16, go_sem]) rfl ⟨rfl, rfl⟩

set_option maxRecDepth 100000 in
set_option maxHeartbeats 4000000 in
theorem reftrip_one (v : Value) (M : Nat → List Int) (w : World) (hv : Rows2 w v 1 M) (hg : okRow 1 (M 0)) : Calls Try.prog 16 #[v] w fun e w' => e = .returned (.tuple #[.slice (some ⟨w.heap.size, 0, none⟩) 1 1, .int .i64 0, .int .i64 0]) ∧ w' = w.alloc (.cells #[.int .i64 0] 3) := by
  obtain ⟨a, cap, rfl, hm⟩ := hv.form
  obtain ⟨b, off, b2, off2, cap2, rfl, c1, c2⟩ := hv.num (i := 0) (j := 0) (by omega) (by rw [hg.1]; omega)
  rw [hg.1, Nat.add_zero] at c1
  have hx := ok_bounds (ok_get hg (j := 0) (by omega))
  obtain ⟨x, hxx⟩ : ∃ x, (M 0).getD 0 0 = x := ⟨_, rfl⟩
  rw [hxx, Nat.add_zero] at c2
  rw [hxx] at hx
  have g1 : decide (x < 0) = false := by simp; omega
  have g2 : decide (1000000000 < x) = false := by simp; omega
  clear hv hg hxx
  go_enter Try.func16, Try.ntmps16
  go_wp2_with fail
  refine wp_loop_rounds 2 ?_
  rw [rounds_succ]
  go_wp2_with fail
  refine wp_loop_rounds 2 ?_
  rw [rounds_succ]
  go_wp2_with fail
  rw [rounds_succ]
  go_wp2_with fail
  rw [rounds_succ]
  go_wp2_with fail
  exact bodyPost_ret (v := .tuple #[.slice (some ⟨w.heap.size, 0, none⟩) 1 1, .int .i64 0, .int .i64 0]) (by simp [results, Try.results16, go_sem]) rfl ⟨rfl, rfl⟩
end Go.Proofs.Ytomcdnkafgmleaa
