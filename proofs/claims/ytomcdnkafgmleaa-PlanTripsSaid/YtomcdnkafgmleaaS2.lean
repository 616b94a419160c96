/- What plan.Strong gives: an error where a part is no number or infinite, else the stronger quarter. -/
import Derived.Test.YtomcdnkafgmleaaS1
import Derived.Deep.QuietTactic
import Derived.BigQuiet
import Derived.RegionTactic
import Derived.OwnWalk
import Derived.ChangeAlike
import Derived.LoopN
namespace Go.Proofs.Ytomcdnkafgmleaa
open Go.RowKit

section
variable {P : Program} {w : World} {a : Addr} {m : Mode}
@[go_sem] theorem run_store_float (k : FloatKind) (n : Nat) : (store a (.float k n) m).run P w = stored P w a (.float k n) m := run_store P w a _ m rfl
@[go_sem] theorem run_store_complex (k : FloatKind) (x y : Nat) : (store a (.complex k x y) m).run P w = stored P w a (.complex k x y) m := run_store P w a _ m rfl
end
theorem at25 (x0 x1 x2 x3 : Value) (w : World) :
    (Instr.index 25 (.agg #[x0, x1, x2, x3]) (.int .i64 0)).run Try.prog w = .ok x0 w ∧ (Instr.index 25 (.agg #[x0, x1, x2, x3]) (.int .i64 1)).run Try.prog w = .ok x1 w ∧
    (Instr.index 25 (.agg #[x0, x1, x2, x3]) (.int .i64 2)).run Try.prog w = .ok x2 w ∧ (Instr.index 25 (.agg #[x0, x1, x2, x3]) (.int .i64 3)).run Try.prog w = .ok x3 w :=
  ⟨by kernel_rfl, by kernel_rfl, by kernel_rfl, by kernel_rfl⟩
theorem at94 (x0 x1 : Value) (w : World) :
    (Instr.index 94 (.agg #[x0, x1]) (.int .i64 0)).run Try.prog w = .ok x0 w ∧ (Instr.index 94 (.agg #[x0, x1]) (.int .i64 1)).run Try.prog w = .ok x1 w :=
  ⟨by kernel_rfl, by kernel_rfl⟩

/-- square, sum: where they give something -/
def sq (x : Nat) : Nat := (Ieee.double.mul x x).getD 0
def ad (x y : Nat) : Nat := (Ieee.double.add x y).getD 0
def str (a b : Nat) : Nat := ad (sq a) (sq b)
theorem sq_le {x : Nat} (h : Num x) : sq x ≤ 9218868437227405312 ∧ Ieee.double.mul x x = some (sq x) := by
  obtain ⟨s, m, i, h⟩ := h
  obtain ⟨r, h1, h2⟩ := F.mul_self h
  unfold sq; rw [h1]; exact ⟨h2, rfl⟩
theorem str_le {a b : Nat} (ha : Num a) (hb : Num b) : str a b ≤ 9218868437227405312 ∧ Ieee.double.add (sq a) (sq b) = some (str a b) := by
  obtain ⟨r, h1, h2⟩ := F.add_pos (sq_le ha).1 (sq_le hb).1
  unfold str ad; rw [h1]; exact ⟨h2, rfl⟩
theorem run_sq {x : Nat} (h : Num x) (t : TypeId) (w : World) : (binOp .mul t (.float .f64 x) (.float .f64 x)).run Try.prog w = .ok (.float .f64 (sq x)) w :=
  run_float_arith w .mul t .f64 x x _ (sq_le h).2
theorem run_str {a b : Nat} (ha : Num a) (hb : Num b) (t : TypeId) (w : World) : (binOp .add t (.float .f64 (sq a)) (.float .f64 (sq b))).run Try.prog w = .ok (.float .f64 (str a b)) w :=
  run_float_arith w .add t .f64 _ _ _ (str_le ha hb).2

/-- the answer -/
def AllNum (l : List Nat) : Prop := ∀ x ∈ l, Num x
def strongGt (s1 s2 : Nat) : Bool := FloatKind.f64.format.order s2 s1 == some .gt
def StrongOf (l : List Nat) (s1 s2 : Nat) (e : Ending) : Prop :=
  (AllNum l ∧ e = .returned (.tuple #[.int .i64 (if strongGt s1 s2 = true then 2 else 1), .float .f64 (if strongGt s1 s2 = true then s2 else s1), .int .i64 0])) ∨
  (¬ AllNum l ∧ e = .returned (.tuple #[.int .i64 0, .float .f64 0, .int .i64 172]))
theorem StrongOf.bad {l : List Nat} {s1 s2 x : Nat} {e : Ending} (hx : x ∈ l) (h : ¬ Num x) (he : e = .returned (.tuple #[.int .i64 0, .float .f64 0, .int .i64 172])) : StrongOf l s1 s2 e :=
  .inr ⟨fun a => h (a x hx), he⟩


theorem bel2 (w : World) (o p : Obj) : Below w.heap.size w ((w.alloc o).alloc p) := ((Below.refl _ _).alloc (Nat.le_refl _) _).alloc (by simp) _

set_option maxRecDepth 100000 in
set_option maxHeartbeats 4000000 in
theorem strong_any (a0 b0 a1 b1 a2 b2 a3 b3 : Nat) (w : World)
    (la0 : a0 < 18446744073709551616) (lb0 : b0 < 18446744073709551616) (la1 : a1 < 18446744073709551616) (lb1 : b1 < 18446744073709551616) (la2 : a2 < 18446744073709551616) (lb2 : b2 < 18446744073709551616) (la3 : a3 < 18446744073709551616) (lb3 : b3 < 18446744073709551616) :
    Calls Try.prog 12 #[.agg #[.complex .f64 a0 b0, .complex .f64 a1 b1, .complex .f64 a2 b2, .complex .f64 a3 b3]] w fun e w' => StrongOf [a0, b0, a1, b1, a2, b2, a3, b3] (str a1 b1) (str a2 b2) e ∧ Below w.heap.size w w' := by
  obtain ⟨i0, i1, i2, i3⟩ : (∀ w, (Instr.index 25 (.agg #[.complex .f64 a0 b0, .complex .f64 a1 b1, .complex .f64 a2 b2, .complex .f64 a3 b3]) (.int .i64 0)).run Try.prog w = .ok (.complex .f64 a0 b0) w) ∧ (∀ w, (Instr.index 25 (.agg #[.complex .f64 a0 b0, .complex .f64 a1 b1, .complex .f64 a2 b2, .complex .f64 a3 b3]) (.int .i64 1)).run Try.prog w = .ok (.complex .f64 a1 b1) w) ∧ (∀ w, (Instr.index 25 (.agg #[.complex .f64 a0 b0, .complex .f64 a1 b1, .complex .f64 a2 b2, .complex .f64 a3 b3]) (.int .i64 2)).run Try.prog w = .ok (.complex .f64 a2 b2) w) ∧ (∀ w, (Instr.index 25 (.agg #[.complex .f64 a0 b0, .complex .f64 a1 b1, .complex .f64 a2 b2, .complex .f64 a3 b3]) (.int .i64 3)).run Try.prog w = .ok (.complex .f64 a3 b3) w) :=
    ⟨fun w => (at25 _ _ _ _ w).1, fun w => (at25 _ _ _ _ w).2.1, fun w => (at25 _ _ _ _ w).2.2.1, fun w => (at25 _ _ _ _ w).2.2.2⟩
  have j0 : ∀ x y w, (Instr.index 94 (.agg #[.float .f64 x, .float .f64 y]) (.int .i64 0)).run Try.prog w = .ok (.float .f64 x) w := fun x y w => (at94 _ _ w).1
  have j1 : ∀ x y w, (Instr.index 94 (.agg #[.float .f64 x, .float .f64 y]) (.int .i64 1)).run Try.prog w = .ok (.float .f64 y) w := fun x y w => (at94 _ _ w).2
  go_enter Try.func12, Try.ntmps12
  go_wp2_with fail
  refine wp_loop_rounds 5 ?_
  rw [rounds_succ]
  go_wp2_with fail
  refine wp_loop_rounds 3 ?_
  rw [rounds_succ]
  go_wp2_with fail
  rcases kinds a0 with na0 | na0 | na0
  case inr.inr =>
    refine (isNaN_yes _ _ na0).mono ?_
    rintro e w' ⟨rfl, rfl⟩
    go_wp2_with fail
    go_ret3
    refine ⟨.bad (x := a0) (by simp) (nan_not_num na0) rfl, ?_⟩
    exact bel2 _ _ _
  case inr.inl =>
    refine (isNaN_no _ _ (fun h => inf_not_nan na0 _ _ h.choose_spec.choose_spec)).mono ?_
    rintro e w' ⟨rfl, rfl⟩
    go_wp2_with fail
    refine (isInf_yes _ _ la0 na0).mono ?_
    rintro e w' ⟨rfl, rfl⟩
    go_wp2_with fail
    go_ret3
    refine ⟨.bad (x := a0) (by simp) (inf_not_num na0) rfl, ?_⟩
    exact bel2 _ _ _
  refine (isNaN_no _ _ (fun h => num_not_nan na0 _ _ h.choose_spec.choose_spec)).mono ?_
  rintro e w' ⟨rfl, rfl⟩
  go_wp2_with fail
  refine (isInf_no _ _ la0 na0).mono ?_
  rintro e w' ⟨rfl, rfl⟩
  go_wp2_with fail
  rw [rounds_succ]
  go_wp2_with fail
  rcases kinds b0 with nb0 | nb0 | nb0
  case inr.inr =>
    refine (isNaN_yes _ _ nb0).mono ?_
    rintro e w' ⟨rfl, rfl⟩
    go_wp2_with fail
    go_ret3
    refine ⟨.bad (x := b0) (by simp) (nan_not_num nb0) rfl, ?_⟩
    exact bel2 _ _ _
  case inr.inl =>
    refine (isNaN_no _ _ (fun h => inf_not_nan nb0 _ _ h.choose_spec.choose_spec)).mono ?_
    rintro e w' ⟨rfl, rfl⟩
    go_wp2_with fail
    refine (isInf_yes _ _ lb0 nb0).mono ?_
    rintro e w' ⟨rfl, rfl⟩
    go_wp2_with fail
    go_ret3
    refine ⟨.bad (x := b0) (by simp) (inf_not_num nb0) rfl, ?_⟩
    exact bel2 _ _ _
  refine (isNaN_no _ _ (fun h => num_not_nan nb0 _ _ h.choose_spec.choose_spec)).mono ?_
  rintro e w' ⟨rfl, rfl⟩
  go_wp2_with fail
  refine (isInf_no _ _ lb0 nb0).mono ?_
  rintro e w' ⟨rfl, rfl⟩
  go_wp2_with fail
  rw [rounds_succ]
  go_wp2_with (simp only [run_sq na0, run_sq nb0, run_str na0 nb0])

  rw [rounds_succ]
  go_wp2_with fail
  refine wp_loop_rounds 3 ?_
  rw [rounds_succ]
  go_wp2_with fail
  rcases kinds a1 with na1 | na1 | na1
  case inr.inr =>
    refine (isNaN_yes _ _ na1).mono ?_
    rintro e w' ⟨rfl, rfl⟩
    go_wp2_with fail
    go_ret3
    refine ⟨.bad (x := a1) (by simp) (nan_not_num na1) rfl, ?_⟩
    exact bel2 _ _ _
  case inr.inl =>
    refine (isNaN_no _ _ (fun h => inf_not_nan na1 _ _ h.choose_spec.choose_spec)).mono ?_
    rintro e w' ⟨rfl, rfl⟩
    go_wp2_with fail
    refine (isInf_yes _ _ la1 na1).mono ?_
    rintro e w' ⟨rfl, rfl⟩
    go_wp2_with fail
    go_ret3
    refine ⟨.bad (x := a1) (by simp) (inf_not_num na1) rfl, ?_⟩
    exact bel2 _ _ _
  refine (isNaN_no _ _ (fun h => num_not_nan na1 _ _ h.choose_spec.choose_spec)).mono ?_
  rintro e w' ⟨rfl, rfl⟩
  go_wp2_with fail
  refine (isInf_no _ _ la1 na1).mono ?_
  rintro e w' ⟨rfl, rfl⟩
  go_wp2_with fail
  rw [rounds_succ]
  go_wp2_with fail
  rcases kinds b1 with nb1 | nb1 | nb1
  case inr.inr =>
    refine (isNaN_yes _ _ nb1).mono ?_
    rintro e w' ⟨rfl, rfl⟩
    go_wp2_with fail
    go_ret3
    refine ⟨.bad (x := b1) (by simp) (nan_not_num nb1) rfl, ?_⟩
    exact bel2 _ _ _
  case inr.inl =>
    refine (isNaN_no _ _ (fun h => inf_not_nan nb1 _ _ h.choose_spec.choose_spec)).mono ?_
    rintro e w' ⟨rfl, rfl⟩
    go_wp2_with fail
    refine (isInf_yes _ _ lb1 nb1).mono ?_
    rintro e w' ⟨rfl, rfl⟩
    go_wp2_with fail
    go_ret3
    refine ⟨.bad (x := b1) (by simp) (inf_not_num nb1) rfl, ?_⟩
    exact bel2 _ _ _
  refine (isNaN_no _ _ (fun h => num_not_nan nb1 _ _ h.choose_spec.choose_spec)).mono ?_
  rintro e w' ⟨rfl, rfl⟩
  go_wp2_with fail
  refine (isInf_no _ _ lb1 nb1).mono ?_
  rintro e w' ⟨rfl, rfl⟩
  go_wp2_with fail
  rw [rounds_succ]
  go_wp2_with (simp only [run_sq na1, run_sq nb1, run_str na1 nb1])

  rw [rounds_succ]
  go_wp2_with fail
  refine wp_loop_rounds 3 ?_
  rw [rounds_succ]
  go_wp2_with fail
  rcases kinds a2 with na2 | na2 | na2
  case inr.inr =>
    refine (isNaN_yes _ _ na2).mono ?_
    rintro e w' ⟨rfl, rfl⟩
    go_wp2_with fail
    go_ret3
    refine ⟨.bad (x := a2) (by simp) (nan_not_num na2) rfl, ?_⟩
    exact bel2 _ _ _
  case inr.inl =>
    refine (isNaN_no _ _ (fun h => inf_not_nan na2 _ _ h.choose_spec.choose_spec)).mono ?_
    rintro e w' ⟨rfl, rfl⟩
    go_wp2_with fail
    refine (isInf_yes _ _ la2 na2).mono ?_
    rintro e w' ⟨rfl, rfl⟩
    go_wp2_with fail
    go_ret3
    refine ⟨.bad (x := a2) (by simp) (inf_not_num na2) rfl, ?_⟩
    exact bel2 _ _ _
  refine (isNaN_no _ _ (fun h => num_not_nan na2 _ _ h.choose_spec.choose_spec)).mono ?_
  rintro e w' ⟨rfl, rfl⟩
  go_wp2_with fail
  refine (isInf_no _ _ la2 na2).mono ?_
  rintro e w' ⟨rfl, rfl⟩
  go_wp2_with fail
  rw [rounds_succ]
  go_wp2_with fail
  rcases kinds b2 with nb2 | nb2 | nb2
  case inr.inr =>
    refine (isNaN_yes _ _ nb2).mono ?_
    rintro e w' ⟨rfl, rfl⟩
    go_wp2_with fail
    go_ret3
    refine ⟨.bad (x := b2) (by simp) (nan_not_num nb2) rfl, ?_⟩
    exact bel2 _ _ _
  case inr.inl =>
    refine (isNaN_no _ _ (fun h => inf_not_nan nb2 _ _ h.choose_spec.choose_spec)).mono ?_
    rintro e w' ⟨rfl, rfl⟩
    go_wp2_with fail
    refine (isInf_yes _ _ lb2 nb2).mono ?_
    rintro e w' ⟨rfl, rfl⟩
    go_wp2_with fail
    go_ret3
    refine ⟨.bad (x := b2) (by simp) (inf_not_num nb2) rfl, ?_⟩
    exact bel2 _ _ _
  refine (isNaN_no _ _ (fun h => num_not_nan nb2 _ _ h.choose_spec.choose_spec)).mono ?_
  rintro e w' ⟨rfl, rfl⟩
  go_wp2_with fail
  refine (isInf_no _ _ lb2 nb2).mono ?_
  rintro e w' ⟨rfl, rfl⟩
  go_wp2_with fail
  rw [rounds_succ]
  go_wp2_with (simp only [run_sq na2, run_sq nb2, run_str na2 nb2])

  rw [rounds_succ]
  go_wp2_with fail
  refine wp_loop_rounds 3 ?_
  rw [rounds_succ]
  go_wp2_with fail
  rcases kinds a3 with na3 | na3 | na3
  case inr.inr =>
    refine (isNaN_yes _ _ na3).mono ?_
    rintro e w' ⟨rfl, rfl⟩
    go_wp2_with fail
    go_ret3
    refine ⟨.bad (x := a3) (by simp) (nan_not_num na3) rfl, ?_⟩
    exact bel2 _ _ _
  case inr.inl =>
    refine (isNaN_no _ _ (fun h => inf_not_nan na3 _ _ h.choose_spec.choose_spec)).mono ?_
    rintro e w' ⟨rfl, rfl⟩
    go_wp2_with fail
    refine (isInf_yes _ _ la3 na3).mono ?_
    rintro e w' ⟨rfl, rfl⟩
    go_wp2_with fail
    go_ret3
    refine ⟨.bad (x := a3) (by simp) (inf_not_num na3) rfl, ?_⟩
    exact bel2 _ _ _
  refine (isNaN_no _ _ (fun h => num_not_nan na3 _ _ h.choose_spec.choose_spec)).mono ?_
  rintro e w' ⟨rfl, rfl⟩
  go_wp2_with fail
  refine (isInf_no _ _ la3 na3).mono ?_
  rintro e w' ⟨rfl, rfl⟩
  go_wp2_with fail
  rw [rounds_succ]
  go_wp2_with fail
  rcases kinds b3 with nb3 | nb3 | nb3
  case inr.inr =>
    refine (isNaN_yes _ _ nb3).mono ?_
    rintro e w' ⟨rfl, rfl⟩
    go_wp2_with fail
    go_ret3
    refine ⟨.bad (x := b3) (by simp) (nan_not_num nb3) rfl, ?_⟩
    exact bel2 _ _ _
  case inr.inl =>
    refine (isNaN_no _ _ (fun h => inf_not_nan nb3 _ _ h.choose_spec.choose_spec)).mono ?_
    rintro e w' ⟨rfl, rfl⟩
    go_wp2_with fail
    refine (isInf_yes _ _ lb3 nb3).mono ?_
    rintro e w' ⟨rfl, rfl⟩
    go_wp2_with fail
    go_ret3
    refine ⟨.bad (x := b3) (by simp) (inf_not_num nb3) rfl, ?_⟩
    exact bel2 _ _ _
  refine (isNaN_no _ _ (fun h => num_not_nan nb3 _ _ h.choose_spec.choose_spec)).mono ?_
  rintro e w' ⟨rfl, rfl⟩
  go_wp2_with fail
  refine (isInf_no _ _ lb3 nb3).mono ?_
  rintro e w' ⟨rfl, rfl⟩
  go_wp2_with fail
  rw [rounds_succ]
  go_wp2_with (simp only [run_sq na3, run_sq nb3, run_str na3 nb3])

  rw [rounds_succ]
  have hall : AllNum [a0, b0, a1, b1, a2, b2, a3, b3] := by
    intro x hx
    simp only [List.mem_cons, List.not_mem_nil, or_false] at hx
    rcases hx with rfl | rfl | rfl | rfl | rfl | rfl | rfl | rfl <;> assumption
  by_cases hg : strongGt (str a1 b1) (str a2 b2) = true
  · have hg' : (FloatKind.f64.format.order (str a2 b2) (str a1 b1) == some .gt) = true := hg
    have hfin : StrongOf [a0, b0, a1, b1, a2, b2, a3, b3] (str a1 b1) (str a2 b2) (.returned (.tuple #[.int .i64 2, .float .f64 (str a2 b2), .int .i64 0])) := .inl ⟨hall, by rw [if_pos hg, if_pos hg]⟩
    clear hg hall
    go_wp2_with fail
    go_quiet (fail)
    go_wp2
    go_ret3
    exact ⟨hfin, below_drewN (bel2 _ _ _) _⟩
  · have hg' : (FloatKind.f64.format.order (str a2 b2) (str a1 b1) == some .gt) = false := by simpa [strongGt] using hg
    have hfin : StrongOf [a0, b0, a1, b1, a2, b2, a3, b3] (str a1 b1) (str a2 b2) (.returned (.tuple #[.int .i64 1, .float .f64 (str a1 b1), .int .i64 0])) := .inl ⟨hall, by rw [if_neg hg, if_neg hg]⟩
    clear hg hall
    go_wp2_with fail
    go_quiet (fail)
    go_wp2
    go_ret3
    exact ⟨hfin, below_drewN (bel2 _ _ _) _⟩
end Go.Proofs.Ytomcdnkafgmleaa
