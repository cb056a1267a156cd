/-
  The kernel evaluates the checks: part 2.
-/
import Derived.Test.YtlipdmbdohpblaaDoorNtD
namespace Go.Proofs.YtlipdmbdohpblaaDoor

set_option maxRecDepth 10000000 in
theorem eQ1 : lin (fun k => qB (Nat.add 84 k)) 15 = true := by decide +kernel

end Go.Proofs.YtlipdmbdohpblaaDoor
