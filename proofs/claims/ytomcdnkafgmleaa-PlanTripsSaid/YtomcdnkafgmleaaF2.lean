/- Plain facts on 64-bit floats: products, sums, whole numbers, roots of small ones; what is rounded up. -/
import Derived.Test.YtomcdnkafgmleaaF1
namespace Go.Proofs.Ytomcdnkafgmleaa.F
open Ieee

/-- the roots of 0 to 1000: each at most 32 -/
def rootOk (n : Nat) : Bool := match double.sqrt (double.nearest false n 0) with | some s => decide (s ≤ 4629700416936869888) | none => false
theorem roots_ok : (List.range 1001).all rootOk = true := by decide +kernel
end Go.Proofs.Ytomcdnkafgmleaa.F
