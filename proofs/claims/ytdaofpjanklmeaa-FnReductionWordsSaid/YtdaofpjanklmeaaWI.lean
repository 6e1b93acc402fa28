/- Plain: the exponents of a product of words; contract: l1Own, at a word's exponents. -/
import Derived.Test.YtdaofpjanklmeaaWG
import Derived.Test.YtdaofpjanklmeaaN6
import Derived.Deep.RegionHeld3
import Derived.Test.YtdaofpjanklmeaaAN
namespace Go.Proofs.Ytdaofpjanklmeaa
open Go.RowKit Go

/-- The exponents of a product. -/
def prodL (A B : List Int) : List Int := A.take (A.length - 1) ++ (A.getD (A.length - 1) 0 + B.getD 0 0) :: B.drop 1
def prdB (s : Int) (A : List Int) (t : Int) (B : List Int) : Bool := isWd s A && (isWd t B && isWd (s * t) (prodL A B))
theorem prodL_at {A B : List Int} {n : Nat} (hn : A.length = n + 1) (hB : 0 < B.length) : prodL A B = A.take n ++ [A[n] + B[0]] ++ B.drop 1 := by
  have h0 : n < A.length := by omega
  unfold prodL
  rw [show A.length - 1 = n by omega]
  simp [List.getD_eq_getElem?_getD, h0, hB, List.append_assoc]
theorem prd_cells {A B : List Int} {n m : Nat} (hn : A.length = n + 1) (hm : B.length = m + 1) : cellsI (A.take n) ++ [.int .i64 (A[n] + B[0])] ++ cellsI (B.drop 1) = cellsI (prodL A B) ∧ n + 1 + m = (prodL A B).length := by
  rw [prodL_at hn (by omega)]
  constructor
  · simp [cellsI]
  · simp [hn, hm]; omega
theorem prd_set {A B : List Int} {n m : Nat} (hn : A.length = n + 1) (hm : B.length = m + 1) : (cellsI A ++ cellsI (B.drop 1)).set n (.int .i64 (A[n] + B[0])) = cellsI (prodL A B) := by
  rw [← (prd_cells hn hm).1]
  have hA : A = A.take n ++ [A[n]] := by
    have := List.take_append_getElem (l := A) (i := n) (by omega)
    rw [this, List.take_of_length_le (by omega)]
  have h1 : cellsI A = cellsI (A.take n) ++ [.int .i64 A[n]] := by
    have := congrArg cellsI hA
    rw [cellsI_append] at this
    exact this
  have hl : (cellsI (A.take n)).length = n := by rw [cellsI_len, List.length_take]; omega
  rw [h1, List.append_assoc, List.set_append_right _ _ (by omega), hl]
  simp
set_option maxRecDepth 100000 in
set_option maxHeartbeats 1600000 in
theorem l1OwnE_any (v : Value) (B : Nat) (L : List Int) (w : World) (ho : OwnE w B v L) :
    Calls Try.prog 127 #[v] w (RetI L w) := by
  obtain ⟨hl, h⟩ := ho
  obtain ⟨i0, hi, hz0, hz1, hz2⟩ := info_parts infoInt
  have hsh := own_shape h
  obtain ⟨b1, c1, rfl⟩ := hsh
  have hrd2 : Reads w w.heap.size 1 b1 L.length (cellsI L) := Reads.of_own h
  have Hrd := Lib.hid hrd2
  clear h hrd2
  go_enter Try.func127, Try.ntmps127
  go_wp2_with (at_builtin; refine wpList_append_any _ rfl (.tmp 3) (.tmp 4) _ rfl w.heap.size 3 i0 _ 1 8 Try.underlying31 hi hz0 hz1 hz2 rfl (by omega) (.slice (some ⟨w.heap.size, 0, none⟩) 0 0) 0 [] rfl (own_empty (Nat.le_refl _)) w.heap.size b1 L.length _ (cellsI L) rfl (Hrd.out.alloc (Nat.le_refl _) _) (cellsI_one _) (by unfold maxLen; omega) (by omega) (by simp) ?_; intro x1 w1 hown1 hg1 hat1)
  have hb : Below w.heap.size w w1 := Below.grown ((by repeat (first | with_reducible exact Below.refl _ _ | with_reducible assumption | with_reducible apply Below.drew | with_reducible apply below_drewN | (with_reducible apply below_setp; (first | omega | (simp <;> omega))) | (with_reducible apply below_allocp; (first | omega | (simp <;> omega))) | (with_reducible refine below_viap (by assumption) ?_ ?_; (first | omega | (simp <;> omega)))))) hg1 (by simp) (fun q hq => by simp [Value.ownBlock] at hq; omega)
  go_ret
  refine ⟨x1, rfl, ?_, hb⟩
  simpa using hown1
end Go.Proofs.Ytdaofpjanklmeaa
