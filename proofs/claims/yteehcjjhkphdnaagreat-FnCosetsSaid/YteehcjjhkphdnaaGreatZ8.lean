/- Contracts of GeneratedClasses, of the reference: the whole. -/
import Derived.Test.YteehcjjhkphdnaaGreatZY
namespace Go.Proofs.YteehcjjhkphdnaaGreat
open Go.RowKit

theorem frm_genF (L : List Fm) (mul : Nat → Nat → Nat) (J : List Nat) : frm L (nats (spanL mul J L.length)) = genF L (rchB mul J) L.length := by
  unfold frm nats genF spanL
  rw [List.map_map]
  rfl
theorem spanL_len (mul : Nat → Nat → Nat) (J : List Nat) (m : Nat) : (spanL mul J m).length ≤ m := by
  unfold spanL
  exact Nat.le_trans (List.length_filter_le _ _) (by simp)
theorem spanL_lt {mul : Nat → Nat → Nat} {J : List Nat} {m : Nat} {x : Int} (h : x ∈ nats (spanL mul J m)) : 0 ≤ x ∧ x < m := by
  obtain ⟨i, hi, rfl⟩ := List.mem_map.1 h
  have := List.mem_range.1 (List.mem_filter.1 hi).1
  simp
  omega
theorem sgS_parts {d : Int} {zs : List Fm} (h : SgS d zs = true) : isDisc d = true ∧ zs.length ≤ 20 ∧ ∀ f ∈ zs, okF d f = true := by
  simp only [SgS, Bool.and_eq_true, decide_eq_true_eq, List.all_eq_true] at h
  exact ⟨h.1, h.2.1, h.2.2⟩
theorem grListed_eq (d : Int) (zs : List Fm) (b : Bool) (v : Value) (B2 : Nat) (w : World) (hb : SgS d zs = b) (hzl : zs.length ≤ 2000000) (ho : w.ownsRow B2 36 3 v zs.length (cellsF zs)) :
    Calls Tryz.prog 117 #[.int .i64 d, v] w fun e w' => e = .returned (.bool b) ∧ Below w.heap.size w w' := by
  have k := grListed_any d zs v B2 w hzl ho
  rwa [hb] at k

end Go.Proofs.YteehcjjhkphdnaaGreat
