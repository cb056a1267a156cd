/-
  The kernel evaluates the checks: part 4.
-/
import Derived.Test.YtlipdmbdohpblaaDoorNtD
namespace Go.Proofs.YtlipdmbdohpblaaDoor

set_option maxRecDepth 10000000 in
theorem eQ3 : lin (fun k => qB (Nat.add 120 k)) 34 = true := by decide +kernel

end Go.Proofs.YtlipdmbdohpblaaDoor
