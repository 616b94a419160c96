/- Opening an array of four floats that came in by value. -/
import Derived.ProofKit
import Derived.Lib.SmallJoins
import Derived.Laws.Cover2
namespace Go.Proofs.Ytomcdnkafgmleaa
open Go.ChangeShapes Go.WideShapes Go.ChangeAt Go.RowKit

theorem cell_float {P : Program} {w : World} {r : Reach} {b : Nat} {t : TypeId} {v : Value} (ht : P.underlying t = some (.float .f64)) (h : Cell.okWide P w r b t v) : ∃ x, v = .float .f64 x ∧ x < 18446744073709551616 := by
  cases v <;> simp_all [Cell.okWide, Cell.ok, FloatKind.has]

theorem open_float4 {P : Program} {w : World} {r : Reach} {b : Nat} {t e : TypeId} {v : Value} (ht : P.underlying t = some (.array 4 e)) (he : P.underlying e = some (.float .f64))
    (hC : P.cellsOf t = 4) (hct : P.cellTypes P.depth t = some [e, e, e, e]) (h : Value.okWide P w r b t v) :
    ∃ a0 a1 a2 a3 : Nat, v = .agg #[.float .f64 a0, .float .f64 a1, .float .f64 a2, .float .f64 a3] ∧ a0 < 18446744073709551616 ∧ a1 < 18446744073709551616 ∧ a2 < 18446744073709551616 ∧ a3 < 18446744073709551616 := by
  simp only [Value.okWide, ht] at h
  obtain ⟨cs, rfl, hsz, ts, hts, _, hr⟩ := h
  rw [hct] at hts
  obtain ⟨c0, c1, c2, c3, rfl⟩ := Joins.array4 (hsz.trans hC)
  cases hts
  obtain ⟨u0, e0, k0⟩ := hr 0 c0 rfl
  obtain ⟨u1, e1, k1⟩ := hr 1 c1 rfl
  obtain ⟨u2, e2, k2⟩ := hr 2 c2 rfl
  obtain ⟨u3, e3, k3⟩ := hr 3 c3 rfl
  simp at e0 e1 e2 e3
  subst e0 e1 e2 e3
  obtain ⟨x0, rfl, l0⟩ := cell_float he k0
  obtain ⟨x1, rfl, l1⟩ := cell_float he k1
  obtain ⟨x2, rfl, l2⟩ := cell_float he k2
  obtain ⟨x3, rfl, l3⟩ := cell_float he k3
  exact ⟨x0, x1, x2, x3, rfl, l0, l1, l2, l3⟩
end Go.Proofs.Ytomcdnkafgmleaa
