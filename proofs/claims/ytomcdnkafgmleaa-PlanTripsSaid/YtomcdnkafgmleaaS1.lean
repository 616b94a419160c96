/- Contracts of the small float functions of PlanStrongs. -/
import Derived.Test.YtomcdnkafgmleaaProg
import Derived.Test.YtomcdnkafgmleaaF1
import Derived.WalkKit
import Derived.WalkSpells
import Derived.WalkLawsBesides
import Derived.Laws.FloatArith
import Derived.Laws.Externs
import Derived.Outline
import Derived.KernelRfl
namespace Go.Proofs.Ytomcdnkafgmleaa
open Go.RowKit

theorem bits_run (x : Nat) (w : World) : (callFunc 78 #[.float .f64 x]).run Try.prog w = .ok (.value (.int .u64 x)) w := by
  rw [run_callFunc_extern Try.func78 (by kernel_rfl) (by kernel_rfl) (by kernel_rfl) (e := Extern.MathFloatBits.float64bits) (by kernel_rfl)]
  rfl
theorem frombits_run (x : Int) (w : World) : (callFunc 77 #[.int .u64 x]).run Try.prog w = .ok (.value (.float .f64 x.toNat)) w := by
  rw [run_callFunc_extern Try.func77 (by kernel_rfl) (by kernel_rfl) (by kernel_rfl) (e := Extern.MathFloatBits.float64frombits) (by kernel_rfl)]
  rfl

/-- a number; no number; an infinity -/
def Num (x : Nat) : Prop := ∃ s m i, Ieee.double.read x = .number s m i
def Inf (x : Nat) : Prop := ∃ s, Ieee.double.read x = .infinity s
def NaN (x : Nat) : Prop := ∃ s t, Ieee.double.read x = .nan s t
theorem kinds (x : Nat) : Num x ∨ Inf x ∨ NaN x := by
  unfold Num Inf NaN
  cases h : Ieee.double.read x with
  | number s m i => exact .inl ⟨s, m, i, rfl⟩
  | infinity s => exact .inr (.inl ⟨s, rfl⟩)
  | nan s t => exact .inr (.inr ⟨s, t, rfl⟩)
theorem num_not_nan {x : Nat} (h : Num x) : ∀ s t, Ieee.double.read x ≠ .nan s t := by
  obtain ⟨s, m, i, h⟩ := h; intro s t e; rw [h] at e; cases e
theorem inf_not_nan {x : Nat} (h : Inf x) : ∀ s t, Ieee.double.read x ≠ .nan s t := by
  obtain ⟨s, h⟩ := h; intro s t e; rw [h] at e; cases e
theorem inf_not_num {x : Nat} (h : Inf x) : ¬ Num x := by
  obtain ⟨s, h⟩ := h; rintro ⟨_, _, _, e⟩; rw [h] at e; cases e
theorem nan_not_num {x : Nat} (h : NaN x) : ¬ Num x := by
  obtain ⟨s, t, h⟩ := h; rintro ⟨_, _, _, e⟩; rw [h] at e; cases e
theorem nan_order {x y : Nat} (h : NaN x) : Ieee.double.order x y = none := by
  obtain ⟨s, t, h⟩ := h; exact F.order_nan h

theorem isNaN_c (x : Nat) (b : Bool) (w : World) (h : (Ieee.double.order x x != some .eq) = b) :
    Calls Try.prog 38 #[.float .f64 x] w fun e w' => e = .returned (.bool b) ∧ w = w' := by
  subst h
  go_enter Try.func38, Try.ntmps38
  go_wp2
  go_ret
  exact ⟨rfl, rfl⟩

theorem isInf_c (x : Nat) (b : Bool) (w : World) (h : (Ieee.double.order (F.clear x) 9218868437227405311 == some .gt) = b) :
    Calls Try.prog 39 #[.float .f64 x, .int .i64 0] w fun e w' => e = .returned (.bool b) ∧ w = w' := by
  subst h
  have h1 := bits_run
  have h2 := frombits_run
  go_enter Try.func39, Try.ntmps39
  go_wp2
  go_ret
  exact ⟨rfl, rfl⟩

theorem isNaN_no (x : Nat) (w : World) (h : ¬ NaN x) : Calls Try.prog 38 #[.float .f64 x] w fun e w' => e = .returned (.bool false) ∧ w = w' :=
  isNaN_c x false w (by rw [F.order_self (fun s t e => h ⟨s, t, e⟩)]; rfl)
theorem isNaN_yes (x : Nat) (w : World) (h : NaN x) : Calls Try.prog 38 #[.float .f64 x] w fun e w' => e = .returned (.bool true) ∧ w = w' :=
  isNaN_c x true w (by rw [nan_order h]; rfl)
theorem num_low {x : Nat} (hx : x < 18446744073709551616) (h : Num x) : x % 9223372036854775808 < 9218868437227405312 := by
  rcases F.read_cases x hx with ⟨s, r, hr, e, _⟩ | ⟨s, _, e⟩ | ⟨s, u, _, e⟩
  · cases s
    · rw [F.word_false] at e; omega
    · rw [F.word_true] at e; omega
  · exact absurd h (inf_not_num ⟨s, e⟩)
  · exact absurd h (nan_not_num ⟨s, u, e⟩)
theorem inf_low {x : Nat} (hx : x < 18446744073709551616) (h : Inf x) : x % 9223372036854775808 = 9218868437227405312 := by
  obtain ⟨t, h⟩ := h
  rcases F.read_cases x hx with ⟨s, r, hr, _, e⟩ | ⟨s, e, _⟩ | ⟨s, u, _, e⟩
  · rw [h] at e; cases e
  · cases s
    · rw [F.word_false] at e; omega
    · rw [F.word_true] at e; omega
  · rw [h] at e; cases e
theorem isInf_no (x : Nat) (w : World) (hx : x < 18446744073709551616) (h : Num x) : Calls Try.prog 39 #[.float .f64 x, .int .i64 0] w fun e w' => e = .returned (.bool false) ∧ w = w' :=
  isInf_c x false w (by
    have hl := num_low hx h
    rw [F.clear_gt hx, if_pos hl]
    have : compare (x % 9223372036854775808) 9218868437227405311 ≠ .gt := by
      intro e; rw [Nat.compare_eq_gt] at e; omega
    simp [this])
theorem isInf_yes (x : Nat) (w : World) (hx : x < 18446744073709551616) (h : Inf x) : Calls Try.prog 39 #[.float .f64 x, .int .i64 0] w fun e w' => e = .returned (.bool true) ∧ w = w' :=
  isInf_c x true w (by
    have hl := inf_low hx h
    rw [F.clear_gt hx, if_neg (by omega), if_pos hl]; rfl)

/-- two floats are alike: equal, or both no number -/
theorem number_c (x y : Nat) (w : World) (h : Ieee.double.order x y = some .eq) :
    Calls Try.prog 14 #[.float .f64 x, .float .f64 y] w fun e w' => e = .returned (.bool true) ∧ w = w' := by
  have h0 : (FloatKind.f64.format.order x y == some .eq) = true := by
    show (Ieee.double.order x y == some .eq) = true
    rw [h]; rfl
  clear h
  go_enter Try.func14, Try.ntmps14
  go_wp2
  go_ret
  exact ⟨rfl, rfl⟩

theorem run_sub_nan (t : TypeId) (x : Nat) (w : World) (h : Ieee.double.sub x x = none) :
    (binOp .sub t (.float .f64 x) (.float .f64 x)).run Try.prog w = .ok (.float .f64 (Question.cut (.nanBits .f64 x x) (w.tape w.drawn (.nanBits .f64 x x)))) w.drew := by
  have h' : FloatKind.f64.format.sub x x = none := h
  simp [binOp, Op.floatArith, h', choose]
  rfl

theorem finite_yes (x : Nat) (w : World) (h : Num x) :
    Calls Try.prog 40 #[.float .f64 x] w fun e w' => e = .returned (.bool true) ∧ w = w' := by
  obtain ⟨s, m, i, h⟩ := h
  have hop : ∀ t w, (binOp .sub t (.float .f64 x) (.float .f64 x)).run Try.prog w = .ok (.float .f64 0) w := fun t w => run_float_arith w .sub t .f64 x x 0 (F.sub_self_num h)
  have h0 : (FloatKind.f64.format.order 0 0 == some .eq) = true := by decide
  clear h
  go_enter Try.func40, Try.ntmps40
  go_wp2_with (simp only [hop])
  go_ret
  exact ⟨rfl, rfl⟩

theorem finite_no (x : Nat) (w : World) (h : ¬ Num x) :
    Calls Try.prog 40 #[.float .f64 x] w fun e w' => e = .returned (.bool false) ∧ w.drew = w' := by
  have hs : Ieee.double.sub x x = none := by
    rcases kinds x with h1 | ⟨s, h1⟩ | ⟨s, t, h1⟩
    · exact absurd h1 h
    · exact F.sub_self_inf h1
    · exact F.sub_self_nan h1
  have hop : ∀ t w, (binOp .sub t (.float .f64 x) (.float .f64 x)).run Try.prog w = .ok (.float .f64 (Question.cut (.nanBits .f64 x x) (w.tape w.drawn (.nanBits .f64 x x)))) w.drew := fun t w => run_sub_nan t x w hs
  have h0 : ∀ t, (FloatKind.f64.format.order (Question.cut (.nanBits .f64 x x) t) 0 == some .eq) = false := fun t => by
    show (Ieee.double.order _ 0 == some .eq) = false
    rw [F.cut_nan]; rfl
  clear hs h
  go_enter Try.func40, Try.ntmps40
  go_wp2_with (simp only [hop])
  go_ret
  exact ⟨rfl, rfl⟩
end Go.Proofs.Ytomcdnkafgmleaa
