/- Words: a slice of integers that came in, as a row opens it. -/
import Derived.Test.YtkkamlhpappebaaA1
import Derived.Test.YtkkamlhpappebaaTZ
import Derived.ChangeSlices
import Derived.WideKeyArgs
namespace Go.Proofs.Ytkkamlhpappebaa
open Go.RowKit Go.ChangeShapes

theorem laid_A2 : laidOutB Try.prog = true := by kernel_rfl
theorem cells_A2 : Try.prog.cellsOf 3 = 1 := by kernel_rfl
theorem wf_i64 {n : Int} (h : (Lit.int .i64 n).wf = true) : -9223372036854775808 ≤ n ∧ n ≤ 9223372036854775807 := by
  simp [Lit.wf, IntKind.min, IntKind.max, IntKind.bits, IntKind.signed] at h
  omega
set_option maxRecDepth 100000 in
theorem open_rdI {H : Type} {enc : TypeId × Value → H} {w : World} {v : Value} {d : DataW H} {ps : List MemPlace} {r : Reach} {b0 : Nat} (hval : Value.okWide Try.prog w r b0 30 v) (h : DataW.Trod enc Try.prog w 0 (fun _ => true) true 30 v d ps) :
    ∃ zs : List Int, RdI zs v w ∧ ∀ n ∈ zs, -9223372036854775808 ≤ n ∧ n ≤ 9223372036854775807 := by
  obtain ⟨A0, l0, c0, rfl⟩ := Go.WideShapes.okWide_slice Try.underlying30 hval
  obtain ⟨fuel, hf⟩ := h
  rcases open_ints Try.underlying30 Try.underlying3 cells_A2 hf with ⟨hc, _⟩ | ⟨a, len, cap, zs, hc, _, hl, _, hzl, _, hcell, hwf⟩
  · simp [Value.cells] at hc
    obtain ⟨rfl, rfl, rfl⟩ := hc
    exact ⟨[], ⟨none, 0, rfl, fun i h => absurd h (Nat.not_lt_zero _)⟩, by simp⟩
  · simp [Value.cells] at hc
    obtain ⟨rfl, rfl, rfl⟩ := hc
    simp at hzl
    refine ⟨zs.take l0, ⟨some a, c0, by rw [List.length_take, hzl, Nat.min_eq_left hl], fun i hi => ⟨a, rfl, ?_⟩⟩, fun n hn => wf_i64 (hwf n (List.mem_of_mem_take hn))⟩
    rw [List.length_take] at hi
    have h1 := hcell i (by omega)
    rw [h1, List.getElem_take]
    simp [List.getD_eq_getElem?_getD, show i < zs.length by omega]
end Go.Proofs.Ytkkamlhpappebaa
