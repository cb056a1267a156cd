/-
  The kernel evaluates the checks: part 9.
-/
import Derived.Test.YtlipdmbdohpblaaDoorNtD
namespace Go.Proofs.YtlipdmbdohpblaaDoor

set_option maxRecDepth 10000000 in
theorem eA : lin mA 32768 = true := by decide +kernel

end Go.Proofs.YtlipdmbdohpblaaDoor
