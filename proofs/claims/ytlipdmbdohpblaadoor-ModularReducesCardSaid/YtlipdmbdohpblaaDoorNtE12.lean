/-
  The kernel evaluates the checks: part 12.
-/
import Derived.Test.YtlipdmbdohpblaaDoorNtD
namespace Go.Proofs.YtlipdmbdohpblaaDoor

set_option maxRecDepth 10000000 in
theorem eD3 : dfs 64 (primes150.drop 3) 1 = true := by decide +kernel

end Go.Proofs.YtlipdmbdohpblaaDoor
