/-
  The kernel evaluates the checks: part 7.
-/
import Derived.Test.YtlipdmbdohpblaaDoorNtD
namespace Go.Proofs.YtlipdmbdohpblaaDoor

set_option maxRecDepth 10000000 in
theorem eQ6 : lin (fun k => qB (Nat.add 367 k)) 1314 = true := by decide +kernel

end Go.Proofs.YtlipdmbdohpblaaDoor
