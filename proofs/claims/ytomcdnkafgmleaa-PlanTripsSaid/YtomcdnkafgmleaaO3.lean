/- Opening a slice of ints that came in: a list of values, and how much it takes. -/
import Derived.Test.YtomcdnkafgmleaaO
import Derived.Test.YtomcdnkafgmleaaA1
import Derived.SizedLaws
import Derived.Carry
namespace Go.Proofs.Ytomcdnkafgmleaa
open Go.ChangeShapes Go.WideShapes Go.ChangeAt Go.RowKit

theorem open_src_ints {H : Type} {enc : TypeId × Value → H} {P : Program} {W : World} {r : Reach} {b : Nat} {t e : TypeId} {v : Value} {d : DataW H} {p : List MemPlace} {ts : List TypeId} {ds : List (DataW H)} {j : Nat}
    (ht : P.underlying t = some (.slice e)) (he : P.underlying e = some (.int .i64)) (hce : P.cellsOf e = 1) (hby : P.bytesOf e = 8) (hval : Value.okWide P W r b t v) (hd : DataW.Trod enc P W 0 (fun _ => true) true t v d p)
    (hsz : (DataW.weightsEach P ts ds).all (· ≤ reachBytes) = true) (hj : ts[j]? = some t) (hjd : ds[j]? = some d) :
    ∃ h : List Int, Src W v (h.map (Value.int .i64)) ∧ h.length * 8 ≤ 140737488351232 := by
  obtain ⟨a0, len, cap, rfl⟩ := okWide_slice ht hval
  obtain ⟨fuel, hf⟩ := hd
  rcases open_ints ht he hce hf with ⟨hcs, _⟩ | ⟨a, l, c, zs, hcs, _, hl, hm, hz, hx, hcell, hwz⟩
  · simp [Value.cells] at hcs
    obtain ⟨rfl, rfl, rfl⟩ := hcs
    exact ⟨[], .inl ⟨rfl, rfl⟩, by simp⟩
  · simp [Value.cells] at hcs
    obtain ⟨rfl, rfl, rfl⟩ := hcs
    simp only [Prod.mk.injEq] at hx
    obtain ⟨rfl, rfl⟩ := hx
    simp only [if_true] at hz
    have hreach : len * 8 ≤ 140737488351232 := by
      have := sized_slice hsz (j := j) hj hjd ht
      rw [hby] at this
      simp only [lits, List.length_map, List.length_take, List.length_drop, reachBytes] at this
      omega
    have hlen : (zs.take len).length = len := by rw [List.length_take]; omega
    refine ⟨zs.take len, ?_, by rw [hlen]; exact hreach⟩
    by_cases h0 : zs.length = 0
    · have hl0 : len = 0 := by omega
      subst hl0
      exact .inr (.inl ⟨a, cap, rfl, by simp⟩)
    · obtain ⟨b, off, spot⟩ := a
      have hspot : spot = none := by simpa [Addr.add] using World.cell?_spot (hcell 0 (by omega))
      subst hspot
      refine .inr (.inr ⟨b, off, cap, by rw [List.length_map, hlen]; unfold maxLen at hm; omega, by rw [List.length_map, hlen], fun i hi => ?_⟩)
      rw [List.length_map, hlen] at hi
      have := hcell i (by omega)
      rw [addr_add] at this
      rw [this]
      simp [List.getD_eq_getElem?_getD, hi, List.getElem?_eq_getElem (show i < zs.length by omega)]
end Go.Proofs.Ytomcdnkafgmleaa
