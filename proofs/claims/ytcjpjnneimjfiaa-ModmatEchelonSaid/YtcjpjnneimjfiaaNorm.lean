/-
  norm and Of of package integer.
-/
import Derived.Test.YtcjpjnneimjfiaaInt3
namespace Go.Proofs.Ytcjpjnneimjfiaa
open Go.RowKit

/-- Symmetric: the representative around 0. -/
def symm (p a : Nat) : Int := if p / 2 < a then (a : Int) - p else a
end Go.Proofs.Ytcjpjnneimjfiaa
