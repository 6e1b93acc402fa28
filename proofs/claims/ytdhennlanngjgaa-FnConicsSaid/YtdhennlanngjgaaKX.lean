/- Parts K4 K5 K6 laid together by tp.py. -/
import Derived.Test.YtdhennlanngjgaaKT
import Derived.Test.YtdhennlanngjgaaGG
import Derived.Test.YtdhennlanngjgaaKV
namespace Go.Proofs.Ytdhennlanngjgaa
section
open Go.RowKit

end

section
open Go.RowKit

theorem frm_next {L : List Fm} {A : List Int} {k : Nat} (h : k < A.length) {n : Nat} (hn : n < L.length) (hx : A[k] = n) : frm L (A.take (k + 1)) = frm L (A.take k) ++ [L[n]] := by
  unfold frm
  rw [List.take_succ_eq_append_getElem h, List.map_append, hx]
  simp [List.getElem?_eq_getElem hn]
theorem apart_of {w w2 : World} {B B2 : Nat} {e e2 : TypeId} {sz n sz2 n2 : Nat} {v vl : Value} {xs xs2 : List Value} (h : w.ownsRow B e sz vl n xs) (h2 : w2.ownsRow B2 e2 sz2 v n2 xs2) (hB : w.heap.size ≤ B2) : Apart v vl := by
  unfold Apart
  cases h3 : vl.ownBlock with
  | none => exact .inl rfl
  | some b =>
    have k1 := (h.lt b h3).2
    refine .inr (fun he => ?_)
    have k2 := (h2.lt b he.symm).1
    omega
end

section
open Go.RowKit

theorem pows_next {d : Int} {n k : Nat} {L : List Fm} (h : k < L.length) : ixs L ((L.take (k + 1)).map fun g => pw d g n) = putI (ixs L ((L.take k).map fun g => pw d g n)) (gix L (pw d L[k] n)) := by
  rw [List.take_succ_eq_append_getElem h, List.map_append, ← ixs_snoc]; rfl
theorem pows_len {d : Int} {n k : Nat} {L : List Fm} (h : L.length ≤ 100000) : (ixs L ((L.take k).map fun g => pw d g n)).length ≤ 100000 := by
  have := ixs_len L ((L.take k).map fun g => pw d g n) 100000
  rw [List.take_of_length_le (by rw [List.length_map, List.length_take]; omega)] at this
  exact this
theorem pows_all {d : Int} {n : Nat} (D : Dsc d) : frm (clsL d) (ixs (clsL d) ((clsL d).map fun g => pw d g n)) = (clsL d).filter (powP d n (clsL d)) := by
  rw [frm_ixs (clsL_nodup d) (by intro t ht; obtain ⟨g, hg, rfl⟩ := List.mem_map.1 ht; exact D.pwm hg n)]
  congr 1
  funext f
  unfold powP
  rw [List.any_map]; rfl
end
end Go.Proofs.Ytdhennlanngjgaa
