/-
  The kernel evaluates the checks: part 11.
-/
import Derived.Test.YtlipdmbdohpblaaDoorNtD
namespace Go.Proofs.YtlipdmbdohpblaaDoor

set_option maxRecDepth 10000000 in
theorem eD1 : dfs 63 (primes150.drop 1) 13 = true := by decide +kernel

set_option maxRecDepth 10000000 in
theorem eD2 : dfs 63 (primes150.drop 2) 17 = true := by decide +kernel

end Go.Proofs.YtlipdmbdohpblaaDoor
