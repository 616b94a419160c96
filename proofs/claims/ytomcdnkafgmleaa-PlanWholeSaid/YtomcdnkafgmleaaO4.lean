/- Opening a slice of bytes that came in; the walk of the law PlanWhole for every length. -/
import Derived.Test.YtomcdnkafgmleaaO3
import Derived.Test.YtomcdnkafgmleaaW3
import Derived.ProofKit
import Derived.OpenShut
namespace Go.Proofs.Ytomcdnkafgmleaa
open Go.ChangeShapes Go.WideShapes Go.ChangeAt Go.RowKit

theorem open_bytes {H : Type} {enc : TypeId × Value → H} {P : Program} {W : World} {r : Reach} {b : Nat} {t e : TypeId} {v : Value} {d : DataW H} {p : List MemPlace}
    (ht : P.underlying t = some (.slice e)) (he : P.underlying e = some (.int .u8)) (hce : P.cellsOf e = 1) (hval : Value.okWide P W r b t v) (hd : DataW.Trod enc P W 0 (fun _ => true) true t v d p) :
    ∃ (len : Nat) (a0 : Option Addr) (cap : Nat) (f : Nat → Int), v = .slice a0 len cap ∧ len ≤ 9223372036854775807 ∧ (∀ j, 0 ≤ f j ∧ f j ≤ 255) ∧
      (0 < len → ∃ b off, a0 = some ⟨b, off, none⟩ ∧ b < W.heap.size ∧ ∀ j, j < len → W.cell? ⟨b, off + j, none⟩ = some (.int .u8 (f j))) := by
  obtain ⟨a0, len, cap, rfl⟩ := okWide_slice ht hval
  obtain ⟨fuel, hf⟩ := hd
  rcases open_ints ht he hce hf with ⟨hcs, _⟩ | ⟨a, l, c, zs, hcs, _, hl, hm, hz, hx, hcell, hwz⟩
  · simp [Value.cells] at hcs
    obtain ⟨rfl, rfl, rfl⟩ := hcs
    exact ⟨0, _, _, fun _ => 0, rfl, by omega, fun _ => ⟨Int.le_refl 0, (by decide : (0 : Int) ≤ 255)⟩, fun h => by omega⟩
  · simp [Value.cells] at hcs
    obtain ⟨rfl, rfl, rfl⟩ := hcs
    simp only [if_true] at hz
    refine ⟨len, some a, cap, fun j => zs.getD j 0, rfl, by unfold maxLen at hm; omega, fun j => ?_, fun h0 => ?_⟩
    · by_cases hj : j < zs.length
      · have := bounds_u8 (hwz (zs.getD j 0) (by rw [List.getD_eq_getElem?_getD, List.getElem?_eq_getElem hj]; exact List.getElem_mem hj))
        exact this
      · simp [List.getD_eq_getElem?_getD, List.getElem?_eq_none (by omega : zs.length ≤ j)]
    · obtain ⟨b, off, spot⟩ := a
      have hspot : spot = none := by simpa [Addr.add] using World.cell?_spot (hcell 0 (by omega))
      subst hspot
      have hc : ∀ j, j < len → W.cell? ⟨b, off + j, none⟩ = some (.int .u8 (zs.getD j 0)) := fun j hj => by
        have := hcell j (by omega)
        rwa [addr_add] at this
      exact ⟨b, off, rfl, World.block_lt_of_cell? W ⟨b, off + 0, none⟩ (hc 0 h0), hc⟩

theorem whole_walk (a0 : Option Addr) (len cap0 : Nat) (f : Nat → Int) (c m : Int) (w : World) (hlm : len ≤ 9223372036854775807) (hc : 0 ≤ c ∧ c ≤ 255) (hm : 0 ≤ m ∧ m ≤ 255) (hf : ∀ j, 0 ≤ f j ∧ f j ≤ 255)
    (hA : 0 < len → ∃ b off, a0 = some ⟨b, off, none⟩ ∧ b < w.heap.size ∧ ∀ j, j < len → w.cell? ⟨b, off + j, none⟩ = some (.int .u8 (f j))) :
    Calls Try.prog 7 #[.slice a0 len cap0, .int .u8 c, .int .u8 m] w fun e w' => e = .returned (.bool true) ∧ Below w.heap.size w w' := by
  obtain ⟨c, rfl⟩ := Int.eq_ofNat_of_zero_le hc.1
  obtain ⟨m, rfl⟩ := Int.eq_ofNat_of_zero_le hm.1
  by_cases h : len ≤ 500
  · exact whole_short a0 len cap0 f c m len w (Nat.le_refl _) (Nat.le_refl _) h hlm (by omega) (by omega) hf hA
  · exact whole_long a0 len cap0 f c m 500 w (by omega) (Nat.le_refl _) (Nat.le_refl _) hlm (by omega) (by omega) hf hA
end Go.Proofs.Ytomcdnkafgmleaa
