/-
  The kernel evaluates the checks: part 10.
-/
import Derived.Test.YtlipdmbdohpblaaDoorNtD
namespace Go.Proofs.YtlipdmbdohpblaaDoor

set_option maxRecDepth 10000000 in
theorem eD0 : dfs 63 primes150 11 = true := by decide +kernel

end Go.Proofs.YtlipdmbdohpblaaDoor
