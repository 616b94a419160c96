/- The walks of plan.Point and larderref17.Point. -/
import Derived.Test.YtomcdnkafgmleaaS1
import Derived.Test.YtomcdnkafgmleaaF2
import Derived.Test.YtomcdnkafgmleaaF3
import Derived.Deep.QuietTactic
import Derived.BigQuiet
import Derived.Lib.Hide
namespace Go.Proofs.Ytomcdnkafgmleaa
open Go.RowKit

theorem sqrt_run (x s : Nat) (w : World) (h : Ieee.double.sqrt x = some s) : (callFunc 64 #[.float .f64 x]).run Try.prog w = .ok (.value (.float .f64 s)) w := by
  rw [run_callFunc_extern Try.func64 (by kernel_rfl) (by kernel_rfl) (by kernel_rfl) (e := Extern.MathSqrt.sqrt) (by kernel_rfl)]
  change ((match Ieee.double.sqrt x with | some r => (pure (.float .f64 r) : Sem Value) | none => (do pure (.float .f64 (← choose (.nanBits .f64 x x))))).run Try.prog w).andThen _ = _
  rw [h]; rfl
theorem sqrt_c (x s : Nat) (w : World) (h : Ieee.double.sqrt x = some s) : Calls Try.prog 49 #[.float .f64 x] w fun e w' => e = .returned (.float .f64 s) ∧ w = w' := by
  have h1 := fun w => sqrt_run x s w h
  clear h
  go_enter Try.func49, Try.ntmps49
  go_wp2
  go_ret
  exact ⟨rfl, rfl⟩
theorem ceil_run (x : Nat) (w : World) (h : ∀ s t, Ieee.double.read x ≠ .nan s t) : (callFunc 65 #[.float .f64 x]).run Try.prog w = .ok (.value (.float .f64 (Ieee.double.write ((Ieee.double.read x).integral .up)))) w := by
  rw [run_callFunc_extern Try.func65 (by kernel_rfl) (by kernel_rfl) (by kernel_rfl) (e := Extern.MathFloor.toIntegral "math.archCeil" .up) (by kernel_rfl)]
  show (((match Ieee.double.read x with | .nan s t => _ | d => pure (.float .f64 (Ieee.double.write (d.integral .up))) : Sem Value)).run Try.prog w).andThen _ = _
  cases hx : Ieee.double.read x with
  | nan s t => exact absurd hx (h s t)
  | infinity s => rfl
  | number s m i => rfl
theorem ceil_c (x : Nat) (w : World) (h : ∀ s t, Ieee.double.read x ≠ .nan s t) : Calls Try.prog 53 #[.float .f64 x] w fun e w' => e = .returned (.float .f64 (Ieee.double.write ((Ieee.double.read x).integral .up))) ∧ w = w' := by
  have h1 := fun w => ceil_run x w h
  clear h
  generalize Ieee.double.write ((Ieee.double.read x).integral .up) = y at h1
  go_enter Try.func53, Try.ntmps53
  go_wp2
  go_ret
  exact ⟨rfl, rfl⟩

/-- from 0 to most -/
def ge0 (x : Nat) : Bool := FloatKind.f64.format.order x 0 == some .gt || FloatKind.f64.format.order x 0 == some .eq
def leM (x M : Nat) : Bool := FloatKind.f64.format.order x M == some .lt || FloatKind.f64.format.order x M == some .eq
theorem between_c (x M : Nat) (b : Bool) (w : World) (h : (ge0 x && leM x M) = b) : Calls Try.prog 52 #[.float .f64 x, .float .f64 M] w fun e w' => e = .returned (.bool b) ∧ w = w' := by
  subst h
  by_cases h0 : ge0 x = true
  · have h0' : (FloatKind.f64.format.order x 0 == some .gt || FloatKind.f64.format.order x 0 == some .eq) = true := h0
    rw [h0, Bool.true_and]
    clear h0
    go_enter Try.func52, Try.ntmps52
    go_wp2
    go_ret
    exact ⟨rfl, rfl⟩
  · have h0' : (FloatKind.f64.format.order x 0 == some .gt || FloatKind.f64.format.order x 0 == some .eq) = false := by simpa [ge0] using h0
    have h1 : ge0 x = false := by simpa using h0
    rw [h1, Bool.false_and]
    clear h0 h1
    go_enter Try.func52, Try.ntmps52
    go_wp2
    go_ret
    exact ⟨rfl, rfl⟩
theorem within_c (n lo hi : Int) (b : Bool) (w : World) (h : decide (lo ≤ n ∧ n ≤ hi) = b) : Calls Try.prog 44 #[.int .i64 n, .int .i64 lo, .int .i64 hi] w fun e w' => e = .returned (.bool b) ∧ w = w' := by
  subst h
  by_cases h0 : lo ≤ n
  · by_cases h1 : n ≤ hi
    · have e : decide (lo ≤ n ∧ n ≤ hi) = true := by simp [h0, h1]
      rw [e]; clear e
      go_enter Try.func44, Try.ntmps44
      go_wp2
      go_ret
      exact ⟨rfl, rfl⟩
    · have e : decide (lo ≤ n ∧ n ≤ hi) = false := by simp [h1]
      rw [e]; clear e
      go_enter Try.func44, Try.ntmps44
      go_wp2
      go_ret
      exact ⟨rfl, rfl⟩
  · have e : decide (lo ≤ n ∧ n ≤ hi) = false := by simp [h0]
    rw [e]; clear e
    go_enter Try.func44, Try.ntmps44
    go_wp2
    go_ret
    exact ⟨rfl, rfl⟩

set_option maxRecDepth 100000 in
set_option maxHeartbeats 1000000 in
theorem point_walk (mean dev z : Nat) (lead : Int) (s zd sp ml tot : Nat) (n : Int) (w : World)
    (hm : (ge0 mean && leM mean 4741671816366391296) = true) (hd : (ge0 dev && leM dev 4741671816366391296) = true) (hz : (ge0 z && leM z 4621819117588971520) = true) (h0 : 0 ≤ lead) (h1 : lead ≤ 1000)
    (e1 : Ieee.double.sqrt (floatOfInt .f64 lead) = some s) (e2 : Ieee.double.mul z dev = some zd) (e3 : Ieee.double.mul zd s = some sp) (e4 : Ieee.double.mul mean (floatOfInt .f64 lead) = some ml)
    (e5 : Ieee.double.add ml sp = some tot) (e6 : ∀ s t, Ieee.double.read tot ≠ .nan s t) (e7 : floatToIntVal .f64 (Ieee.double.write ((Ieee.double.read tot).integral .up)) .i64 = some n) :
    Calls Try.prog 30 #[.agg #[.float .f64 mean, .float .f64 dev, .float .f64 z, .int .i64 lead]] w fun e w' => e = .returned (.tuple #[.int .i64 n, .int .i64 0]) ∧ Below w.heap.size w w' := by
  have c1 := Lib.hid (fun w => between_c mean _ _ w hm)
  have c2 := Lib.hid (fun w => between_c dev _ _ w hd)
  have c3 := Lib.hid (fun w => between_c z _ _ w hz)
  have c4 := Lib.hid (fun w => within_c lead 0 1000 true w (by simp [h0, h1]))
  have o2 : ∀ t w, (binOp .mul t (.float .f64 z) (.float .f64 dev)).run Try.prog w = .ok (.float .f64 zd) w := fun t w => run_float_arith w .mul t .f64 z dev zd e2
  have o3 : ∀ t w, (binOp .mul t (.float .f64 zd) (.float .f64 s)).run Try.prog w = .ok (.float .f64 sp) w := fun t w => run_float_arith w .mul t .f64 _ _ _ e3
  have o4 : ∀ t w, (binOp .mul t (.float .f64 mean) (.float .f64 (floatOfInt .f64 lead))).run Try.prog w = .ok (.float .f64 ml) w := fun t w => run_float_arith w .mul t .f64 _ _ _ e4
  have o5 : ∀ t w, (binOp .add t (.float .f64 ml) (.float .f64 sp)).run Try.prog w = .ok (.float .f64 tot) w := fun t w => run_float_arith w .add t .f64 _ _ _ e5
  have c5 := Lib.hid (fun w => sqrt_c _ _ w e1)
  have c6 := Lib.hid (fun w => ceil_c tot w e6)
  have o6 : ∀ w, (convert 22 3 (.float .f64 (Ieee.double.write ((Ieee.double.read tot).integral .up)))).run Try.prog w = .ok (.int .i64 n) w := fun w => run_convert_float_int w 22 3 .f64 .i64 _ n (by rw [Try.underlying22]; rfl) Try.underlying3 e7
  clear hm hd hz e1 e2 e3 e4 e5 e6 e7
  go_enter Try.func30, Try.ntmps30
  go_wp2_with fail
  refine (c1.out _).mono ?_
  rintro e w' ⟨rfl, rfl⟩
  go_wp2_with fail
  refine (c2.out _).mono ?_
  rintro e w' ⟨rfl, rfl⟩
  go_wp2_with fail
  refine (c3.out _).mono ?_
  rintro e w' ⟨rfl, rfl⟩
  go_wp2_with fail
  refine (c4.out _).mono ?_
  rintro e w' ⟨rfl, rfl⟩
  go_wp2_with fail
  go_quiet ((go_at_call 49; exact Calls.quiet_of_same ((c5.out _).mono fun _ _ h => ⟨h.1, h.2.symm⟩)))
  go_wp2_with (simp only [o4, o5])
  refine (c6.out _).mono ?_
  rintro e w' ⟨rfl, rfl⟩
  go_wp2_with fail
  go_ret2
  exact ⟨rfl, below_drewN ((Below.refl _ _).alloc (Nat.le_refl _) _) _⟩

set_option maxRecDepth 100000 in
theorem point_bad0 (mean dev z : Nat) (lead : Int) (w : World) (h0 : (ge0 mean && leM mean 4741671816366391296) = false) :
    Calls Try.prog 30 #[.agg #[.float .f64 mean, .float .f64 dev, .float .f64 z, .int .i64 lead]] w fun e w' => e = .returned (.tuple #[.int .i64 0, .int .i64 172]) ∧ Below w.heap.size w w' := by
  have c0 := Lib.hid (fun w => between_c mean _ _ w h0)
  clear h0
  go_enter Try.func30, Try.ntmps30
  go_wp2_with fail
  refine (c0.out _).mono ?_
  rintro e w' ⟨rfl, rfl⟩
  go_wp2_with fail
  go_ret2
  exact ⟨rfl, (Below.refl _ _).alloc (Nat.le_refl _) _⟩

set_option maxRecDepth 100000 in
theorem point_bad1 (mean dev z : Nat) (lead : Int) (w : World) (h0 : (ge0 mean && leM mean 4741671816366391296) = true) (h1 : (ge0 dev && leM dev 4741671816366391296) = false) :
    Calls Try.prog 30 #[.agg #[.float .f64 mean, .float .f64 dev, .float .f64 z, .int .i64 lead]] w fun e w' => e = .returned (.tuple #[.int .i64 0, .int .i64 172]) ∧ Below w.heap.size w w' := by
  have c0 := Lib.hid (fun w => between_c mean _ _ w h0)
  have c1 := Lib.hid (fun w => between_c dev _ _ w h1)
  clear h0 h1
  go_enter Try.func30, Try.ntmps30
  go_wp2_with fail
  refine (c0.out _).mono ?_
  rintro e w' ⟨rfl, rfl⟩
  go_wp2_with fail
  refine (c1.out _).mono ?_
  rintro e w' ⟨rfl, rfl⟩
  go_wp2_with fail
  go_ret2
  exact ⟨rfl, (Below.refl _ _).alloc (Nat.le_refl _) _⟩

set_option maxRecDepth 100000 in
theorem point_bad2 (mean dev z : Nat) (lead : Int) (w : World) (h0 : (ge0 mean && leM mean 4741671816366391296) = true) (h1 : (ge0 dev && leM dev 4741671816366391296) = true) (h2 : (ge0 z && leM z 4621819117588971520) = false) :
    Calls Try.prog 30 #[.agg #[.float .f64 mean, .float .f64 dev, .float .f64 z, .int .i64 lead]] w fun e w' => e = .returned (.tuple #[.int .i64 0, .int .i64 172]) ∧ Below w.heap.size w w' := by
  have c0 := Lib.hid (fun w => between_c mean _ _ w h0)
  have c1 := Lib.hid (fun w => between_c dev _ _ w h1)
  have c2 := Lib.hid (fun w => between_c z _ _ w h2)
  clear h0 h1 h2
  go_enter Try.func30, Try.ntmps30
  go_wp2_with fail
  refine (c0.out _).mono ?_
  rintro e w' ⟨rfl, rfl⟩
  go_wp2_with fail
  refine (c1.out _).mono ?_
  rintro e w' ⟨rfl, rfl⟩
  go_wp2_with fail
  refine (c2.out _).mono ?_
  rintro e w' ⟨rfl, rfl⟩
  go_wp2_with fail
  go_ret2
  exact ⟨rfl, (Below.refl _ _).alloc (Nat.le_refl _) _⟩

set_option maxRecDepth 100000 in
theorem point_bad3 (mean dev z : Nat) (lead : Int) (w : World) (h0 : (ge0 mean && leM mean 4741671816366391296) = true) (h1 : (ge0 dev && leM dev 4741671816366391296) = true) (h2 : (ge0 z && leM z 4621819117588971520) = true) (h3 : ¬ (0 ≤ lead ∧ lead ≤ 1000)) :
    Calls Try.prog 30 #[.agg #[.float .f64 mean, .float .f64 dev, .float .f64 z, .int .i64 lead]] w fun e w' => e = .returned (.tuple #[.int .i64 0, .int .i64 172]) ∧ Below w.heap.size w w' := by
  have c0 := Lib.hid (fun w => between_c mean _ _ w h0)
  have c1 := Lib.hid (fun w => between_c dev _ _ w h1)
  have c2 := Lib.hid (fun w => between_c z _ _ w h2)
  have c3 := Lib.hid (fun w => within_c lead 0 1000 false w (by simpa using h3))
  clear h0 h1 h2 h3
  go_enter Try.func30, Try.ntmps30
  go_wp2_with fail
  refine (c0.out _).mono ?_
  rintro e w' ⟨rfl, rfl⟩
  go_wp2_with fail
  refine (c1.out _).mono ?_
  rintro e w' ⟨rfl, rfl⟩
  go_wp2_with fail
  refine (c2.out _).mono ?_
  rintro e w' ⟨rfl, rfl⟩
  go_wp2_with fail
  refine (c3.out _).mono ?_
  rintro e w' ⟨rfl, rfl⟩
  go_wp2_with fail
  go_ret2
  exact ⟨rfl, (Below.refl _ _).alloc (Nat.le_refl _) _⟩


theorem ge0_def (x : Nat) (b : Bool) (h : ge0 x = b) : (FloatKind.f64.format.order x 0 == some .gt || FloatKind.f64.format.order x 0 == some .eq) = b := h
theorem leM_def (x M : Nat) (b : Bool) (h : leM x M = b) : (FloatKind.f64.format.order x M == some .lt || FloatKind.f64.format.order x M == some .eq) = b := h

set_option maxRecDepth 100000 in
set_option maxHeartbeats 1000000 in
theorem pointref_walk (mean dev z : Nat) (lead : Int) (s zd sp ml tot : Nat) (k n : Int) (b : Bool) (w : World)
    (hm : (ge0 mean && leM mean 4741671816366391296) = true) (hd : (ge0 dev && leM dev 4741671816366391296) = true) (hz : (ge0 z && leM z 4621819117588971520) = true) (h0 : 0 ≤ lead) (h1 : lead ≤ 1000)
    (e1 : Ieee.double.sqrt (floatOfInt .f64 lead) = some s) (e2 : Ieee.double.mul z dev = some zd) (e3 : Ieee.double.mul zd s = some sp) (e4 : Ieee.double.mul mean (floatOfInt .f64 lead) = some ml)
    (e5 : Ieee.double.add ml sp = some tot) (e7 : floatToIntVal .f64 tot .i64 = some k) (hb : (Ieee.double.order (floatOfInt .f64 k) tot == some .lt) = b) (hk0 : 0 ≤ k) (hk1 : k ≤ 9007199254740992) (hn : n = if b = true then k + 1 else k) :
    Calls Try.prog 31 #[.agg #[.float .f64 mean, .float .f64 dev, .float .f64 z, .int .i64 lead]] w fun e w' => e = .returned (.tuple #[.int .i64 n, .int .i64 0]) ∧ Below w.heap.size w w' := by
  have g1 := ge0_def mean true (by simp at hm; exact hm.1)
  have l1 := leM_def mean _ true (by simp at hm; exact hm.2)
  have g2 := ge0_def dev true (by simp at hd; exact hd.1)
  have l2 := leM_def dev _ true (by simp at hd; exact hd.2)
  have g3 := ge0_def z true (by simp at hz; exact hz.1)
  have l3 := leM_def z _ true (by simp at hz; exact hz.2)
  have o2 : ∀ t w, (binOp .mul t (.float .f64 z) (.float .f64 dev)).run Try.prog w = .ok (.float .f64 zd) w := fun t w => run_float_arith w .mul t .f64 z dev zd e2
  have o3 : ∀ t w, (binOp .mul t (.float .f64 zd) (.float .f64 s)).run Try.prog w = .ok (.float .f64 sp) w := fun t w => run_float_arith w .mul t .f64 _ _ _ e3
  have o4 : ∀ t w, (binOp .mul t (.float .f64 mean) (.float .f64 (floatOfInt .f64 lead))).run Try.prog w = .ok (.float .f64 ml) w := fun t w => run_float_arith w .mul t .f64 _ _ _ e4
  have o5 : ∀ t w, (binOp .add t (.float .f64 ml) (.float .f64 sp)).run Try.prog w = .ok (.float .f64 tot) w := fun t w => run_float_arith w .add t .f64 _ _ _ e5
  have c5 := Lib.hid (fun w => sqrt_c _ _ w e1)
  have o6 : ∀ w, (convert 22 3 (.float .f64 tot)).run Try.prog w = .ok (.int .i64 k) w := fun w => run_convert_float_int w 22 3 .f64 .i64 _ k (by rw [Try.underlying22]; rfl) Try.underlying3 e7
  cases b
  · obtain rfl : n = k := by simpa using hn
    have hb' : (FloatKind.f64.format.order (floatOfInt .f64 n) tot == some .lt) = false := hb
    clear hm hd hz e1 e2 e3 e4 e5 e7 hb hn
    go_enter Try.func31, Try.ntmps31
    go_wp2_with fail
    refine (c5.out _).mono ?_
    rintro e w' ⟨rfl, rfl⟩
    go_wp2_with fail
    go_ret2
    exact ⟨rfl, (Below.refl _ _).alloc (Nat.le_refl _) _⟩
  · obtain rfl : n = k + 1 := by simpa using hn
    have hb' : (FloatKind.f64.format.order (floatOfInt .f64 k) tot == some .lt) = true := hb
    clear hm hd hz e1 e2 e3 e4 e5 e7 hb hn
    go_enter Try.func31, Try.ntmps31
    go_wp2_with fail
    refine (c5.out _).mono ?_
    rintro e w' ⟨rfl, rfl⟩
    go_wp2_with fail
    go_ret2
    exact ⟨rfl, (Below.refl _ _).alloc (Nat.le_refl _) _⟩

set_option maxRecDepth 100000 in
set_option maxHeartbeats 1000000 in
theorem pointref_bad0 (mean dev z : Nat) (lead : Int) (w : World) (h0 : (ge0 mean && leM mean 4741671816366391296) = false) :
    Calls Try.prog 31 #[.agg #[.float .f64 mean, .float .f64 dev, .float .f64 z, .int .i64 lead]] w fun e w' => e = .returned (.tuple #[.int .i64 0, .int .i64 172]) ∧ Below w.heap.size w w' := by

  have hk : ge0 mean = false ∨ (ge0 mean = true ∧ leM mean 4741671816366391296 = false) := by
    cases hg : ge0 mean <;> simp_all
  clear h0
  rcases hk with hg | ⟨hg, hl⟩
  · have G := ge0_def _ _ hg; clear hg
    rcases (by cases ge0 dev <;> simp : ge0 dev = false ∨ ge0 dev = true) with q1 | q1
    · have Q1 := ge0_def dev _ q1; clear q1
      rcases (by cases ge0 z <;> simp : ge0 z = false ∨ ge0 z = true) with q2 | q2
      · have Q2 := ge0_def z _ q2; clear q2
        go_enter Try.func31, Try.ntmps31
        go_wp2_with fail
        go_ret2
        exact ⟨rfl, (Below.refl _ _).alloc (Nat.le_refl _) _⟩
      · have Q2 := ge0_def z _ q2; clear q2
        go_enter Try.func31, Try.ntmps31
        go_wp2_with fail
        go_ret2
        exact ⟨rfl, (Below.refl _ _).alloc (Nat.le_refl _) _⟩
    · have Q1 := ge0_def dev _ q1; clear q1
      rcases (by cases ge0 z <;> simp : ge0 z = false ∨ ge0 z = true) with q2 | q2
      · have Q2 := ge0_def z _ q2; clear q2
        go_enter Try.func31, Try.ntmps31
        go_wp2_with fail
        go_ret2
        exact ⟨rfl, (Below.refl _ _).alloc (Nat.le_refl _) _⟩
      · have Q2 := ge0_def z _ q2; clear q2
        go_enter Try.func31, Try.ntmps31
        go_wp2_with fail
        go_ret2
        exact ⟨rfl, (Below.refl _ _).alloc (Nat.le_refl _) _⟩
  · have G := ge0_def _ _ hg; have L := leM_def _ _ _ hl; clear hg hl
    rcases (by cases ge0 dev <;> simp : ge0 dev = false ∨ ge0 dev = true) with q1 | q1
    · have Q1 := ge0_def dev _ q1; clear q1
      rcases (by cases ge0 z <;> simp : ge0 z = false ∨ ge0 z = true) with q2 | q2
      · have Q2 := ge0_def z _ q2; clear q2
        go_enter Try.func31, Try.ntmps31
        go_wp2_with fail
        go_ret2
        exact ⟨rfl, (Below.refl _ _).alloc (Nat.le_refl _) _⟩
      · have Q2 := ge0_def z _ q2; clear q2
        go_enter Try.func31, Try.ntmps31
        go_wp2_with fail
        go_ret2
        exact ⟨rfl, (Below.refl _ _).alloc (Nat.le_refl _) _⟩
    · have Q1 := ge0_def dev _ q1; clear q1
      rcases (by cases ge0 z <;> simp : ge0 z = false ∨ ge0 z = true) with q2 | q2
      · have Q2 := ge0_def z _ q2; clear q2
        go_enter Try.func31, Try.ntmps31
        go_wp2_with fail
        go_ret2
        exact ⟨rfl, (Below.refl _ _).alloc (Nat.le_refl _) _⟩
      · have Q2 := ge0_def z _ q2; clear q2
        go_enter Try.func31, Try.ntmps31
        go_wp2_with fail
        go_ret2
        exact ⟨rfl, (Below.refl _ _).alloc (Nat.le_refl _) _⟩

set_option maxRecDepth 100000 in
set_option maxHeartbeats 1000000 in
theorem pointref_bad1 (mean dev z : Nat) (lead : Int) (w : World) (h0 : (ge0 mean && leM mean 4741671816366391296) = true) (h1 : (ge0 dev && leM dev 4741671816366391296) = false) :
    Calls Try.prog 31 #[.agg #[.float .f64 mean, .float .f64 dev, .float .f64 z, .int .i64 lead]] w fun e w' => e = .returned (.tuple #[.int .i64 0, .int .i64 172]) ∧ Below w.heap.size w w' := by
  have g0 := ge0_def mean true (by simp at h0; exact h0.1)
  have l0 := leM_def mean _ true (by simp at h0; exact h0.2)
  have hk : ge0 dev = false ∨ (ge0 dev = true ∧ leM dev 4741671816366391296 = false) := by
    cases hg : ge0 dev <;> simp_all
  clear h0 h1
  rcases hk with hg | ⟨hg, hl⟩
  · have G := ge0_def _ _ hg; clear hg
    rcases (by cases ge0 z <;> simp : ge0 z = false ∨ ge0 z = true) with q2 | q2
    · have Q2 := ge0_def z _ q2; clear q2
      go_enter Try.func31, Try.ntmps31
      go_wp2_with fail
      go_ret2
      exact ⟨rfl, (Below.refl _ _).alloc (Nat.le_refl _) _⟩
    · have Q2 := ge0_def z _ q2; clear q2
      go_enter Try.func31, Try.ntmps31
      go_wp2_with fail
      go_ret2
      exact ⟨rfl, (Below.refl _ _).alloc (Nat.le_refl _) _⟩
  · have G := ge0_def _ _ hg; have L := leM_def _ _ _ hl; clear hg hl
    rcases (by cases ge0 z <;> simp : ge0 z = false ∨ ge0 z = true) with q2 | q2
    · have Q2 := ge0_def z _ q2; clear q2
      go_enter Try.func31, Try.ntmps31
      go_wp2_with fail
      go_ret2
      exact ⟨rfl, (Below.refl _ _).alloc (Nat.le_refl _) _⟩
    · have Q2 := ge0_def z _ q2; clear q2
      go_enter Try.func31, Try.ntmps31
      go_wp2_with fail
      go_ret2
      exact ⟨rfl, (Below.refl _ _).alloc (Nat.le_refl _) _⟩

set_option maxRecDepth 100000 in
set_option maxHeartbeats 1000000 in
theorem pointref_bad2 (mean dev z : Nat) (lead : Int) (w : World) (h0 : (ge0 mean && leM mean 4741671816366391296) = true) (h1 : (ge0 dev && leM dev 4741671816366391296) = true) (h2 : (ge0 z && leM z 4621819117588971520) = false) :
    Calls Try.prog 31 #[.agg #[.float .f64 mean, .float .f64 dev, .float .f64 z, .int .i64 lead]] w fun e w' => e = .returned (.tuple #[.int .i64 0, .int .i64 172]) ∧ Below w.heap.size w w' := by
  have g0 := ge0_def mean true (by simp at h0; exact h0.1)
  have l0 := leM_def mean _ true (by simp at h0; exact h0.2)
  have g1 := ge0_def dev true (by simp at h1; exact h1.1)
  have l1 := leM_def dev _ true (by simp at h1; exact h1.2)
  have hk : ge0 z = false ∨ (ge0 z = true ∧ leM z 4621819117588971520 = false) := by
    cases hg : ge0 z <;> simp_all
  clear h0 h1 h2
  rcases hk with hg | ⟨hg, hl⟩
  · have G := ge0_def _ _ hg; clear hg
    go_enter Try.func31, Try.ntmps31
    go_wp2_with fail
    go_ret2
    exact ⟨rfl, (Below.refl _ _).alloc (Nat.le_refl _) _⟩
  · have G := ge0_def _ _ hg; have L := leM_def _ _ _ hl; clear hg hl
    go_enter Try.func31, Try.ntmps31
    go_wp2_with fail
    go_ret2
    exact ⟨rfl, (Below.refl _ _).alloc (Nat.le_refl _) _⟩

set_option maxRecDepth 100000 in
set_option maxHeartbeats 1000000 in
theorem pointref_bad3 (mean dev z : Nat) (lead : Int) (w : World) (h0 : (ge0 mean && leM mean 4741671816366391296) = true) (h1 : (ge0 dev && leM dev 4741671816366391296) = true) (h2 : (ge0 z && leM z 4621819117588971520) = true) (h3 : ¬ (0 ≤ lead ∧ lead ≤ 1000)) :
    Calls Try.prog 31 #[.agg #[.float .f64 mean, .float .f64 dev, .float .f64 z, .int .i64 lead]] w fun e w' => e = .returned (.tuple #[.int .i64 0, .int .i64 172]) ∧ Below w.heap.size w w' := by
  have g0 := ge0_def mean true (by simp at h0; exact h0.1)
  have l0 := leM_def mean _ true (by simp at h0; exact h0.2)
  have g1 := ge0_def dev true (by simp at h1; exact h1.1)
  have l1 := leM_def dev _ true (by simp at h1; exact h1.2)
  have g2 := ge0_def z true (by simp at h2; exact h2.1)
  have l2 := leM_def z _ true (by simp at h2; exact h2.2)
  clear h0 h1 h2
  rcases (by omega : lead < 0 ∨ (0 ≤ lead ∧ 1000 < lead)) with hl | ⟨hl, hl2⟩
  · clear h3
    go_enter Try.func31, Try.ntmps31
    go_wp2_with fail
    go_ret2
    exact ⟨rfl, (Below.refl _ _).alloc (Nat.le_refl _) _⟩
  · clear h3
    go_enter Try.func31, Try.ntmps31
    go_wp2_with fail
    go_ret2
    exact ⟨rfl, (Below.refl _ _).alloc (Nat.le_refl _) _⟩
end Go.Proofs.Ytomcdnkafgmleaa
