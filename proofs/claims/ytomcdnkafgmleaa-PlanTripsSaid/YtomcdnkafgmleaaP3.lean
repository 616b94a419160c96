/- The walk of the law PlanPoints: it returns true. -/
import Derived.Test.YtomcdnkafgmleaaP2
namespace Go.Proofs.Ytomcdnkafgmleaa
open Go.RowKit

theorem bcell' {W w1 : World} (hb : Below W.heap.size W w1) : (∀ b o, b < W.heap.size → w1.cell? ⟨b, o, none⟩ = W.cell? ⟨b, o, none⟩) ∧ (∀ b o, b < W.heap.size → w1.frozen? ⟨b, o, none⟩ = W.frozen? ⟨b, o, none⟩) :=
  ⟨fun b o h => hb.cell (p := ⟨b, o, none⟩) h, fun b o h => hb.frozen (p := ⟨b, o, none⟩) h⟩

set_option maxRecDepth 100000 in
set_option maxHeartbeats 1000000 in
theorem points_walk (mean dev z : Nat) (lead : Int) (w : World) (hm : mean < 18446744073709551616) (hd : dev < 18446744073709551616) (hz : z < 18446744073709551616) :
    Calls Try.prog 8 #[.agg #[.float .f64 mean, .float .f64 dev, .float .f64 z, .int .i64 lead]] w fun e w' => e = .returned (.bool true) ∧ Below w.heap.size w w' := by
  obtain ⟨n, c, h⟩ := point_any mean dev z lead hm hd hz
  have H := Lib.hid h
  clear h hm hd hz
  go_enter Try.func8, Try.ntmps8
  go_wp2_with fail
  refine ((H.out _).1).mono ?_
  rintro e w1 ⟨rfl, hb1⟩
  obtain ⟨hc, hf⟩ := bcell' hb1
  go_wp2_with fail
  refine ((H.out _).2).mono ?_
  rintro e w2 ⟨rfl, hb2⟩
  clear hc hf
  go_wp2_with fail
  go_ret
  refine ⟨rfl, ?_⟩
  have hs := hb1.size
  simp at hs
  exact (((Below.refl _ _).alloc (Nat.le_refl _) _).trans (hb1.mono (by simp))).trans (hb2.mono (by omega))
end Go.Proofs.Ytomcdnkafgmleaa
