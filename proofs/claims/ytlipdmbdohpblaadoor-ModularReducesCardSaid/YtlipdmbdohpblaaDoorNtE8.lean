/-
  The kernel evaluates the checks: part 8.
-/
import Derived.Test.YtlipdmbdohpblaaDoorNtD
namespace Go.Proofs.YtlipdmbdohpblaaDoor

set_option maxRecDepth 10000000 in
theorem eQ7 : lin (fun k => qB (Nat.add 1681 k)) 31087 = true := by decide +kernel

end Go.Proofs.YtlipdmbdohpblaaDoor
