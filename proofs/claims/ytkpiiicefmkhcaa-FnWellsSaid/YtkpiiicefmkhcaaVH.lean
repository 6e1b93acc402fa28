/- Contracts: the draws of the law on equivalence (written by gen_VH.py). -/
import Derived.Test.YtkpiiicefmkhcaaDK
import Derived.Test.YtkpiiicefmkhcaaVE
namespace Go.Proofs.Ytkpiiicefmkhcaa
open Go.RowKit

theorem drw_start3 {zs : List Int} {v : Value} {B : Nat} {w : World} (r r2 : Obj) (hr : RdB zs v B w) : Drw zs v B (w.heap.size + 1 + 1) 0 w (((w.alloc r).alloc r2).alloc (.cells #[v, .int .i64 0, .int .u64 0] 102)) := by
  have h := drw_start2 (w := w.alloc r) r2 (hr.grown (grown_alloc _ _ none) (fun k hk => by cases hk))
  refine ⟨h.rd, by simpa using h.cur, (grown_alloc _ _ _).trans (by simpa using h.gr)⟩
theorem below_cur3 {w w' : World} (h : w.grownBy w' (some (w.heap.size + 1 + 1))) : Below w.heap.size w w' :=
  (Below.refl w.heap.size w).grown h (Nat.le_refl _) (fun k hk => by injection hk with hk; omega)
/-- What a draw of two forms gives. -/
def RetD2 (w : World) (e : Ending) (w' : World) : Prop := ∃ f g : Fm, e = .returned (.tuple #[.agg #[.int .i64 f.a, .int .i64 f.b, .int .i64 f.c], .agg #[.int .i64 g.a, .int .i64 g.b, .int .i64 g.c]]) ∧ Below w.heap.size w w'
end Go.Proofs.Ytkpiiicefmkhcaa
