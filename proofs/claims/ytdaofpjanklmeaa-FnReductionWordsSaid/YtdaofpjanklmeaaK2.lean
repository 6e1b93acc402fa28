/- Contracts of PowerClasses by the program: the powers as a map, the classes that are powers. -/
import Derived.Test.YtdaofpjanklmeaaK1
import Derived.Test.YtdaofpjanklmeaaGG
namespace Go.Proofs.Ytdaofpjanklmeaa
open Go.RowKit

/-- The f that are an n-th power of a class in L. -/
noncomputable def powP (d : Int) (n : Nat) (L : List Fm) (f : Fm) : Bool := L.any fun g => fmEq f (pw d g n)
theorem powP_next {d : Int} {n k : Nat} {L : List Fm} (h : k < L.length) (f : Fm) : powP d n (L.take (k + 1)) f = (powP d n (L.take k) f || fmEq f (pw d L[k] n)) := by
  unfold powP
  rw [List.take_succ_eq_append_getElem h, List.any_append]
  simp
theorem cls_wf {d : Int} {f : Fm} (h1 : -2000 ≤ d) (hf : f ∈ clsL d) : WfF f := by
  obtain ⟨⟨a1, a2⟩, ⟨b1, b2⟩, ⟨c1, c2⟩⟩ := cls_bd h1 hf
  exact ⟨wf_small (by omega) (by omega), wf_small (by omega) (by omega), wf_small (by omega) (by omega)⟩
theorem cls_pw {d : Int} {f : Fm} (D : Dsc d) (hf : f ∈ clsL d) (n : Nat) : pw d f n ∈ clsL d := D.pwm hf n

theorem apart_new {w : World} {B : Nat} {e : TypeId} {sz n m c : Nat} {vl : Value} {xs : List Value} (h : w.ownsRow B e sz vl n xs) : Apart (.slice (some ⟨w.heap.size, 0, none⟩) m c) vl := by
  unfold Apart
  cases h2 : vl.ownBlock with
  | none => exact .inl rfl
  | some b =>
    refine .inr (fun he => ?_)
    have := (h.lt b h2).2
    simp [Value.ownBlock] at he
    omega
/-- The state of the first loop: the map in block M. -/
def Pc1 (d : Int) (n : Nat) (L : List Fm) (M B : Nat) (vl : Value) (w : World) (vi : Value) (wr : World) : Prop :=
  ∃ (k : Nat) (D : DataW Unit), vi = .int .i64 k ∧ k ≤ L.length ∧ Hid (wr.ownsMap Try.prog 35 (plainElem Try.prog 4) M k D) ∧ Hid (SetF D (powP d n (L.take k))) ∧
    wr.ownsRow B 35 3 vl L.length (cellsF L) ∧ Below w.heap.size w wr
/-- The state of the second loop. -/
def Pc2 (p : Fm → Bool) (L : List Fm) (M B N0 : Nat) (D : DataW Unit) (vl : Value) (w : World) (v vi : Value) (wr : World) : Prop :=
  ∃ k : Nat, vi = .int .i64 k ∧ k ≤ L.length ∧ wr.ownsRow N0 35 3 v ((L.take k).filter p).length (cellsF ((L.take k).filter p)) ∧ wr.ownsRow B 35 3 vl L.length (cellsF L) ∧ Apart v vl ∧
    Hid (wr.ownsMap Try.prog 35 (plainElem Try.prog 4) M L.length D) ∧ N0 ≤ wr.heap.size ∧ Below w.heap.size w wr

end Go.Proofs.Ytdaofpjanklmeaa
