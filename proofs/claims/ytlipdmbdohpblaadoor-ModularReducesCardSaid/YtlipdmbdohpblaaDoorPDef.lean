/-
  What modular.Prime computes: definitions alone.
-/
import Derived.Test.YtlipdmbdohpblaaDoorRows
import Derived.Lib.TrailingZeros
namespace Go.Proofs.YtlipdmbdohpblaaDoor

/-- The squares of the strong test. -/
def sqLoop (n : Nat) : Nat → Nat → Bool
  | 0, _ => false
  | j + 1, x => (x * x % n == n - 1) || sqLoop n j (x * x % n)
/-- What `strong` answers. -/
def strongB (n b : Nat) : Bool :=
  let k := Lib.ctz 64 (n - 1)
  let x := b ^ ((n - 1) / 2 ^ k) % n
  (x == 1) || ((x == n - 1) || sqLoop n (k - 1) x)
theorem sqLoop_succ (n j x : Nat) : sqLoop n (j + 1) x = ((x * x % n == n - 1) || sqLoop n j (x * x % n)) := rfl
def bases : List Nat := [2, 3, 5, 7]
def testB (n : Nat) : List Nat → Bool
  | [] => true
  | b :: r => if n = b then true else if n % b = 0 then false else (strongB n b && testB n r)
/-- What `Prime` answers. -/
def primeB (n : Nat) : Bool := decide (2 ≤ n) && (decide (n < 2147483648) && testB n bases)


end Go.Proofs.YtlipdmbdohpblaaDoor
