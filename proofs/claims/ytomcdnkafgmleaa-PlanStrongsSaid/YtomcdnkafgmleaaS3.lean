/- What larderref17.Strong gives: the same. -/
import Derived.Test.YtomcdnkafgmleaaS2
namespace Go.Proofs.Ytomcdnkafgmleaa
open Go.RowKit

theorem belD (w : World) (o : Obj) (_n : Nat) : Below w.heap.size w (w.alloc o).drew := ((Below.refl _ _).alloc (Nat.le_refl _) _).drew
theorem belD2 (w : World) (o : Obj) (_n : Nat) : Below w.heap.size w (w.alloc o).drew.drew := (belD w o 0).drew

theorem bel3 (w : World) (o p q : Obj) : Below w.heap.size w (((w.alloc o).alloc p).alloc q) := (bel2 w o p).alloc (by simp; omega) _
theorem strength_any (a b : Nat) (w : World) (ha : Num a) (hb : Num b) :
    Calls Try.prog 41 #[.agg #[.float .f64 a, .float .f64 b]] w fun e w' => e = .returned (.float .f64 (str a b)) ∧ w.alloc (.cells #[.float .f64 a, .float .f64 b] 27) = w' := by
  go_enter Try.func41, Try.ntmps41
  go_wp2_with (simp only [run_sq ha, run_sq hb, run_str ha hb])
  go_ret
  exact ⟨rfl, rfl⟩


set_option maxRecDepth 100000 in
set_option maxHeartbeats 4000000 in
theorem strongref_any (a0 b0 a1 b1 a2 b2 a3 b3 : Nat) (w : World) :
    Calls Try.prog 13 #[.agg #[.float .f64 a0, .float .f64 b0, .float .f64 a1, .float .f64 b1, .float .f64 a2, .float .f64 b2, .float .f64 a3, .float .f64 b3]] w fun e w' => StrongOf [a0, b0, a1, b1, a2, b2, a3, b3] (str a1 b1) (str a2 b2) e ∧ Below w.heap.size w w' := by
  go_enter Try.func13, Try.ntmps13
  go_wp2_with fail
  refine wp_loop_rounds 5 ?_
  rw [rounds_succ]
  go_wp2_with fail
  by_cases na0 : Num a0
  case neg =>
    refine (finite_no _ _ na0).mono ?_
    rintro e w' ⟨rfl, rfl⟩
    go_wp2_with fail
    by_cases nb0 : Num b0
    · refine (finite_yes _ _ nb0).mono ?_
      rintro e w' ⟨rfl, rfl⟩
      go_wp2_with fail
      go_ret3
      refine ⟨.bad (x := a0) (by simp) na0 rfl, ?_⟩
      exact belD _ _ 0
    · refine (finite_no _ _ nb0).mono ?_
      rintro e w' ⟨rfl, rfl⟩
      go_wp2_with fail
      go_ret3
      refine ⟨.bad (x := a0) (by simp) na0 rfl, ?_⟩
      exact belD2 _ _ 0
  refine (finite_yes _ _ na0).mono ?_
  rintro e w' ⟨rfl, rfl⟩
  go_wp2_with fail
  by_cases nb0 : Num b0
  case neg =>
    refine (finite_no _ _ nb0).mono ?_
    rintro e w' ⟨rfl, rfl⟩
    go_wp2_with fail
    go_ret3
    refine ⟨.bad (x := b0) (by simp) nb0 rfl, ?_⟩
    exact belD _ _ 0
  refine (finite_yes _ _ nb0).mono ?_
  rintro e w' ⟨rfl, rfl⟩
  go_wp2_with fail
  rw [rounds_succ]
  go_wp2_with fail
  by_cases na1 : Num a1
  case neg =>
    refine (finite_no _ _ na1).mono ?_
    rintro e w' ⟨rfl, rfl⟩
    go_wp2_with fail
    by_cases nb1 : Num b1
    · refine (finite_yes _ _ nb1).mono ?_
      rintro e w' ⟨rfl, rfl⟩
      go_wp2_with fail
      go_ret3
      refine ⟨.bad (x := a1) (by simp) na1 rfl, ?_⟩
      exact belD _ _ 0
    · refine (finite_no _ _ nb1).mono ?_
      rintro e w' ⟨rfl, rfl⟩
      go_wp2_with fail
      go_ret3
      refine ⟨.bad (x := a1) (by simp) na1 rfl, ?_⟩
      exact belD2 _ _ 0
  refine (finite_yes _ _ na1).mono ?_
  rintro e w' ⟨rfl, rfl⟩
  go_wp2_with fail
  by_cases nb1 : Num b1
  case neg =>
    refine (finite_no _ _ nb1).mono ?_
    rintro e w' ⟨rfl, rfl⟩
    go_wp2_with fail
    go_ret3
    refine ⟨.bad (x := b1) (by simp) nb1 rfl, ?_⟩
    exact belD _ _ 0
  refine (finite_yes _ _ nb1).mono ?_
  rintro e w' ⟨rfl, rfl⟩
  go_wp2_with fail
  rw [rounds_succ]
  go_wp2_with fail
  by_cases na2 : Num a2
  case neg =>
    refine (finite_no _ _ na2).mono ?_
    rintro e w' ⟨rfl, rfl⟩
    go_wp2_with fail
    by_cases nb2 : Num b2
    · refine (finite_yes _ _ nb2).mono ?_
      rintro e w' ⟨rfl, rfl⟩
      go_wp2_with fail
      go_ret3
      refine ⟨.bad (x := a2) (by simp) na2 rfl, ?_⟩
      exact belD _ _ 0
    · refine (finite_no _ _ nb2).mono ?_
      rintro e w' ⟨rfl, rfl⟩
      go_wp2_with fail
      go_ret3
      refine ⟨.bad (x := a2) (by simp) na2 rfl, ?_⟩
      exact belD2 _ _ 0
  refine (finite_yes _ _ na2).mono ?_
  rintro e w' ⟨rfl, rfl⟩
  go_wp2_with fail
  by_cases nb2 : Num b2
  case neg =>
    refine (finite_no _ _ nb2).mono ?_
    rintro e w' ⟨rfl, rfl⟩
    go_wp2_with fail
    go_ret3
    refine ⟨.bad (x := b2) (by simp) nb2 rfl, ?_⟩
    exact belD _ _ 0
  refine (finite_yes _ _ nb2).mono ?_
  rintro e w' ⟨rfl, rfl⟩
  go_wp2_with fail
  rw [rounds_succ]
  go_wp2_with fail
  by_cases na3 : Num a3
  case neg =>
    refine (finite_no _ _ na3).mono ?_
    rintro e w' ⟨rfl, rfl⟩
    go_wp2_with fail
    by_cases nb3 : Num b3
    · refine (finite_yes _ _ nb3).mono ?_
      rintro e w' ⟨rfl, rfl⟩
      go_wp2_with fail
      go_ret3
      refine ⟨.bad (x := a3) (by simp) na3 rfl, ?_⟩
      exact belD _ _ 0
    · refine (finite_no _ _ nb3).mono ?_
      rintro e w' ⟨rfl, rfl⟩
      go_wp2_with fail
      go_ret3
      refine ⟨.bad (x := a3) (by simp) na3 rfl, ?_⟩
      exact belD2 _ _ 0
  refine (finite_yes _ _ na3).mono ?_
  rintro e w' ⟨rfl, rfl⟩
  go_wp2_with fail
  by_cases nb3 : Num b3
  case neg =>
    refine (finite_no _ _ nb3).mono ?_
    rintro e w' ⟨rfl, rfl⟩
    go_wp2_with fail
    go_ret3
    refine ⟨.bad (x := b3) (by simp) nb3 rfl, ?_⟩
    exact belD _ _ 0
  refine (finite_yes _ _ nb3).mono ?_
  rintro e w' ⟨rfl, rfl⟩
  go_wp2_with fail
  rw [rounds_succ]
  have hall : AllNum [a0, b0, a1, b1, a2, b2, a3, b3] := by
    intro x hx
    simp only [List.mem_cons, List.not_mem_nil, or_false] at hx
    rcases hx with rfl | rfl | rfl | rfl | rfl | rfl | rfl | rfl <;> assumption
  go_wp2_with fail
  refine (strength_any _ _ _ na1 nb1).mono ?_
  rintro e w' ⟨rfl, rfl⟩
  go_wp2_with fail
  refine (strength_any _ _ _ na2 nb2).mono ?_
  rintro e w' ⟨rfl, rfl⟩
  by_cases hg : strongGt (str a1 b1) (str a2 b2) = true
  · have hg' : (FloatKind.f64.format.order (str a2 b2) (str a1 b1) == some .gt) = true := hg
    have hfin : StrongOf [a0, b0, a1, b1, a2, b2, a3, b3] (str a1 b1) (str a2 b2) (.returned (.tuple #[.int .i64 2, .float .f64 (str a2 b2), .int .i64 0])) := .inl ⟨hall, by rw [if_pos hg, if_pos hg]⟩
    clear hg hall
    go_wp2_with fail
    go_ret3
    exact ⟨hfin, bel3 _ _ _ _⟩
  · have hg' : (FloatKind.f64.format.order (str a2 b2) (str a1 b1) == some .gt) = false := by simpa [strongGt] using hg
    have hfin : StrongOf [a0, b0, a1, b1, a2, b2, a3, b3] (str a1 b1) (str a2 b2) (.returned (.tuple #[.int .i64 1, .float .f64 (str a1 b1), .int .i64 0])) := .inl ⟨hall, by rw [if_neg hg, if_neg hg]⟩
    clear hg hall
    go_wp2_with fail
    go_ret3
    exact ⟨hfin, bel3 _ _ _ _⟩

end Go.Proofs.Ytomcdnkafgmleaa
