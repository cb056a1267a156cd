/-
  The kernel evaluates the checks: part 3.
-/
import Derived.Test.YtlipdmbdohpblaaDoorNtD
namespace Go.Proofs.YtlipdmbdohpblaaDoor

set_option maxRecDepth 10000000 in
theorem eQ2 : lin (fun k => qB (Nat.add 99 k)) 21 = true := by decide +kernel

end Go.Proofs.YtlipdmbdohpblaaDoor
