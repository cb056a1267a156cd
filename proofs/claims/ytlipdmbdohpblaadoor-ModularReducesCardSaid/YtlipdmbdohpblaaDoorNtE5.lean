/-
  The kernel evaluates the checks: part 5.
-/
import Derived.Test.YtlipdmbdohpblaaDoorNtD
namespace Go.Proofs.YtlipdmbdohpblaaDoor

set_option maxRecDepth 10000000 in
theorem eQ4 : lin (fun k => qB (Nat.add 154 k)) 62 = true := by decide +kernel

end Go.Proofs.YtlipdmbdohpblaaDoor
