/- Plain: the square-free part, the fundamental part, the Kronecker symbol. -/
import Derived.Test.YtdhennlanngjgaaN1
namespace Go.Proofs.Ytdhennlanngjgaa
/-- The square-free part and the root of the rest, as the loops find them: 'b' says that the inner loop is at its head. -/
def sqf : Nat → Bool → Int → Int → Int → Int × Int
  | 0, _, _, n, k => (n, k)
  | m + 1, false, p, n, k => if p * p ≤ (n.natAbs : Int) then sqf m true p n k else (n, k)
  | m + 1, true, p, n, k => if n.tmod (p * p) = 0 then sqf m true p (n.tdiv (p * p)) (k * p) else sqf m false (p + 1) n k
def sqF (n : Int) : Int × Int := sqf 4100 false 2 n 1
/-- The fundamental part and the conductor. -/
def dsp (d : Int) : Int × Int := if (sqF d).1 % 4 = 1 then sqF d else (4 * (sqF d).1, (sqF d).2 / 2)
/-- The Kronecker symbol for a positive n. -/
def kro : Nat → Int → Int → Int
  | 0, _, _ => 0
  | m + 1, a, n => if n % 2 = 0 then (if a % 2 = 0 then 0 else two a * kro m a (n / 2)) else jacS (a % n) n
def kroN (a n : Int) : Int := kro 40 a n
end Go.Proofs.Ytdhennlanngjgaa
