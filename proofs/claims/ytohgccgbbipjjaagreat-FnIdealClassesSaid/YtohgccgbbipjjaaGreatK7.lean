/- Contracts of PowerClasses and SquareClasses, of the program and of the reference. -/
import Derived.Test.YtohgccgbbipjjaaGreatKX
import Derived.Test.YtohgccgbbipjjaaGreatNA
namespace Go.Proofs.YtohgccgbbipjjaaGreat
open Go.RowKit

theorem negDisc_eq (d : Int) (b : Bool) (w : World) (h : isDisc d = b) : Calls Tryz.prog 53 #[.int .i64 d] w fun e w' => e = .returned (.bool b) ∧ w = w' := by
  have k := isNegativeDisc_any d w
  rwa [h] at k
theorem rDisc_eq (d : Int) (b : Bool) (w : World) (h : isDisc d = b) : Calls Tryz.prog 56 #[.int .i64 d] w fun e w' => e = .returned (.bool b) ∧ w = w' := by
  have k := reDisc_any d w
  rwa [h] at k
end Go.Proofs.YtohgccgbbipjjaaGreat
