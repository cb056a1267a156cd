/-
  The kernel evaluates the checks: part 1.
-/
import Derived.Test.YtlipdmbdohpblaaDoorNtD
namespace Go.Proofs.YtlipdmbdohpblaaDoor

set_option maxRecDepth 10000000 in
theorem eQ0 : lin (fun k => qB (Nat.add 75 k)) 9 = true := by decide +kernel

end Go.Proofs.YtlipdmbdohpblaaDoor
