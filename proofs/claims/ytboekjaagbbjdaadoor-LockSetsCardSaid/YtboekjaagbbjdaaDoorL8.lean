/- What came in: texts; the table in its variable. -/
import Derived.Test.YtboekjaagbbjdaaDoorL7
import Derived.ProofKit
import Derived.LaidMore
import Derived.OpenShut
import Derived.Carry
import Derived.SliceStrings
import Derived.SizedLaws
import Derived.Lib.LaidTab
namespace Go.Proofs.YtboekjaagbbjdaaDoor
open Go.ChangeShapes Go.WideShapes Go.ChangeAt Go.RowKit Go.Lib

theorem own : ownKnob Tryd.prog.godebug = none := by kernel_rfl
theorem laidOut : laidOutB Tryd.prog = true := by kernel_rfl
theorem gTab : Tryd.prog.globalNamed "larder/frame.table" = some 0 := by kernel_rfl
theorem tTab : (Tryd.prog.globals[0]?).map (·.type) = some 57 := by kernel_rfl
theorem c31 : Tryd.prog.cellsOf 31 = 1 := by kernel_rfl
theorem c57 : Tryd.prog.cellsOf 57 = 16 := by kernel_rfl
theorem c9 : Tryd.prog.cellsOf 9 = 1 := by kernel_rfl
theorem b9 : Tryd.prog.bytesOf 9 = 16 := by kernel_rfl
def laid1 : List (String × DataW Unit) := [("larder/frame.table", Rows.laid_larder_frame_table)]
def tabZ : List Int := [0, 274646895, 549293790, 820201905, 1098587580, 1361435347, 1640403810, 1905808397, 2197175160, 2460548119, 2722870694, 2987750089, 3280807620, 3553878443, 3811616794, 4084100981]

theorem of_laid {W : World} (h : laidMetH Tryd.prog laid1 W) : Tab W ∧ 0 < W.heap.size := by
  rw [MakeChecks.laidMetH_plain _ _ _ (by kernel_rfl)] at h
  have ht : TabIs Tryd.prog W "larder/frame.table" .u32 tabZ := tabIs_of_head (rest := []) gTab tTab Tryd.underlying57 Tryd.underlying31 c31 c57 h
  have hz : ∀ i, i < 16 → tabZ.getD i 0 = (tab16.getD i 0 : Nat) := by decide
  have hc : Tab W := fun i hi => by
    have := ht.cell gTab i (by simpa [tabZ] using hi)
    rw [hz i hi] at this
    exact this
  exact ⟨hc, World.block_lt_of_cell? W ⟨0, 0, none⟩ (hc 0 (by omega))⟩
theorem door_met (os : Os) (args : Array Value) : laidMetH Tryd.prog laid1 ((World.doorLaid Tryd.prog 400 os).forCall (fun _ _ => 0) ⟨#[], args, []⟩).memory :=
  laidMetH_of_parts3 (fuel := 8) (laidMet_of_run' 8 (by kernel_rfl) (by kernel_rfl)) (by kernel_rfl) (by kernel_rfl)

theorem open_texts {H : Type} {enc : TypeId × Value → H} {W : World} {r : Reach} {b : Nat} {v : Value} {d : DataW H} {p : List MemPlace} {ts : List TypeId} {ds : List (DataW H)}
    (hval : Value.okWide Tryd.prog W r b 22 v) (hd : DataW.Trod enc Tryd.prog W 0 (fun _ => true) true 22 v d p) (hsz : (DataW.weightsEach Tryd.prog ts ds).all (· ≤ reachBytes) = true) {j : Nat} (htj : ts[j]? = some 22) (hdj : ds[j]? = some d) :
    ∃ ks : List ByteArray, Texts W v ks ∧ ks.length * 16 ≤ 140737488351232 := by
  obtain ⟨a0, len, cap, rfl⟩ := okWide_slice Tryd.underlying22 hval
  obtain ⟨fuel, hf⟩ := hd
  rcases open_strings Tryd.underlying22 Tryd.underlying9 c9 hf with ⟨hcs, _⟩ | ⟨a, l, c, ss, hcs, _, hl, hm, hz, hx, hcell, hws⟩
  · simp [Value.cells] at hcs
    obtain ⟨rfl, rfl, rfl⟩ := hcs
    exact ⟨[], .inl ⟨_, _, rfl, rfl⟩, by simp⟩
  · simp [Value.cells] at hcs
    obtain ⟨rfl, rfl, rfl⟩ := hcs
    simp only [if_true] at hz
    simp only [Prod.mk.injEq] at hx
    obtain ⟨rfl, _⟩ := hx
    have hs := sized_slice hsz htj hdj Tryd.underlying22
    rw [b9] at hs
    have hlen : (strs (H := H) (ss.take len)).length = len := by simp [strs]; omega
    rw [hlen] at hs
    have hr : reachBytes = 140737488351232 := rfl
    rw [hr] at hs
    have hb : len * 16 ≤ 140737488351232 := by
      have : len * 16 ≤ (len + (strs (H := H) (ss.drop len)).length) * 16 := Nat.mul_le_mul_right _ (Nat.le_add_right _ _)
      omega
    have htl : (ss.take len).length = len := by rw [List.length_take]; omega
    refine ⟨ss.take len, ?_, by rw [htl]; exact hb⟩
    by_cases h0 : len = 0
    · subst h0; exact .inl ⟨_, _, rfl, by simp⟩
    · obtain ⟨b, off, spot⟩ := a
      have hspot : spot = none := by simpa [Addr.add] using World.cell?_spot (hcell 0 (by omega))
      subst hspot
      have hc : ∀ i, i < len → W.cell? ⟨b, off + i, none⟩ = some (.string ((ss.take len).getD i ByteArray.empty)) := fun i hi => by
        have := hcell i (by omega)
        rw [addr_add] at this
        rw [this]
        simp [List.getD_eq_getElem?_getD, hi]
      refine .inr ⟨b, off, cap, by omega, by rw [htl]; omega, by rw [htl], World.block_lt_of_cell? W ⟨b, off + 0, none⟩ (hc 0 (by omega)), fun i hi => ⟨hc i (by omega), ?_⟩⟩
      have hi' : i < (ss.take len).length := hi
      rw [List.getD_eq_getElem?_getD, List.getElem?_eq_getElem hi']
      have := hws _ (List.mem_of_mem_take (List.getElem_mem hi'))
      unfold maxLen at this
      exact this

theorem spread4 (v : Value) (ks : List ByteArray) (n : Int) (w : World) (ht : Tab w) (h0 : 0 < w.heap.size) (hv : Texts w v ks) : Calls Tryd.prog 4 #[v, .int .i64 n] w fun e w' => e = .returned (.bool true) ∧ Below w.heap.size w w' := by
  by_cases h : n < 1 ∨ 64 < n
  · exact spread4_bad v n w ht h0 h
  · rcases hv with ⟨a, cap, rfl, rfl⟩ | ⟨b, off, cap, hL, hm, rfl, hb, hc⟩
    · exact spread4_none a cap n w ht h0 (by omega) (by omega)
    · exact spread4_row b off cap ks n w ht h0 hL hm hb (by omega) (by omega) hc
end Go.Proofs.YtboekjaagbbjdaaDoor
