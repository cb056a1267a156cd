/-
  The kernel evaluates the checks: part 6.
-/
import Derived.Test.YtlipdmbdohpblaaDoorNtD
namespace Go.Proofs.YtlipdmbdohpblaaDoor

set_option maxRecDepth 10000000 in
theorem eQ5 : lin (fun k => qB (Nat.add 216 k)) 151 = true := by decide +kernel

end Go.Proofs.YtlipdmbdohpblaaDoor
