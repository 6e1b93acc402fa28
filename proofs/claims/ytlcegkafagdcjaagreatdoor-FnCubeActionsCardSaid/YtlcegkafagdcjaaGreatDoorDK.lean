/- Parts DH DI laid together by tp.py. -/
import Derived.Test.YtlcegkafagdcjaaGreatDoorDZ
import Derived.Test.YtlcegkafagdcjaaGreatDoorDX
import Derived.Test.YtlcegkafagdcjaaGreatDoorUB
import Derived.Test.YtlcegkafagdcjaaGreatDoorK7
namespace Go.Proofs.YtlcegkafagdcjaaGreatDoor
section
open Go.RowKit

theorem drw_start {zs : List Int} {v : Value} {B : Nat} {w : World} (hr : RdB zs v B w) : Drw zs v B w.heap.size 0 (w.alloc (.cells #[v, .int .i64 0, .int .u64 0] 51)) (w.alloc (.cells #[v, .int .i64 0, .int .u64 0] 51)) :=
  Drw.start (hr.grown (grown_alloc _ _ none) (fun k hk => by cases hk)) cur_start
theorem drw_start2 {zs : List Int} {v : Value} {B : Nat} {w : World} (r : Obj) (hr : RdB zs v B w) : Drw zs v B (w.heap.size + 1) 0 w ((w.alloc r).alloc (.cells #[v, .int .i64 0, .int .u64 0] 51)) := by
  have h := drw_start (w := w.alloc r) (hr.grown (grown_alloc _ _ none) (fun k hk => by cases hk))
  refine ⟨h.rd, by simpa using h.cur, (grown_alloc _ _ _).trans (grown_alloc _ _ _)⟩
end

section
open Go.RowKit

theorem Drw.row {zs : List Int} {v : Value} {B G n : Nat} {w0 w1 w2 : World} {row : Option Nat} (h : Drw zs v B G n w0 w1) (hB : B ≤ G) (hg : w1.grownBy w2 row) (hr : ∀ q, row = some q → w0.heap.size ≤ q) (hG : G < w0.heap.size) : Drw zs v B G n w0 w2 := by
  refine ⟨h.rd.grown hg (fun k hk => by have := hr k hk; omega), ?_, ⟨hg.os.trans h.gr.os, hg.tape.trans h.gr.tape, hg.output.trans h.gr.output, Nat.le_trans h.gr.size hg.size, fun k hk hn => ?_⟩⟩
  · obtain ⟨p, s, h1, h2, h3, h4⟩ := h.cur
    exact ⟨p, s, h1, h2, h3, h4.grown hg (fun e => by have := hr G e.symm; omega)⟩
  · have h1 := h.gr.size
    rw [hg.block k (by omega) (fun e => by have := hr k e.symm; omega), h.gr.block k hk hn]
section
variable {zs : List Int} {v : Value} {B G n m : Nat} {w0 w w1 w2 : World}
end
end
end Go.Proofs.YtlcegkafagdcjaaGreatDoor
