/- A region that draws its order, in which a block is made beside calls that leave what is there: one walk in the order of the text serves every order. -/
import Derived.Test.YtlcegkafagdcjaaGreatDoorCA
namespace Go.Proofs.YtlcegkafagdcjaaGreatDoor
open Go Go.RowKit

section
variable {P : Program} {ops : Array Oper} {md : Region.Mode} {Y : Oper → Value → Act → Prop}

/-- What an operation has yielded: the value v and a world in which all that was there is as it was, or a call that does so. -/
def growUpon (P : Program) (v : Value) (w : World) : Result Next → Prop
  | .ok (.value u) w' => u = v ∧ Below w.heap.size w w'
  | .ok .skip w' => v = undef ∧ Below w.heap.size w w'
  | .ok (.enter f args) w' => Calls P f args w' (fun e w'' => e = .returned v ∧ Below w.heap.size w w'')
  | _ => False
def Grow (P : Program) (ops : Array Oper) (B : Nat) (W : World) (o : Oper) (v : Value) (a : Act) : Prop :=
  (Region.wanted o (yielded ops a.tmps) = true ∧ ∀ w, Below B W w → growUpon P v w ((execOp a.eval o).run P w)) ∨
  (Region.wanted o (yielded ops a.tmps) = false ∧ v = undef)
theorem Grow.of_put {B : Nat} {W : World} {oi oj : Oper} {v u : Value} {a : Act} (hap : oi.apart ops oj = true) (hsj : ∀ cs b, oj.op ≠ .select cs b) (h : Grow P ops B W oj u (a.put oi.dst v)) : Grow P ops B W oj u a := by
  obtain ⟨h1, _, _⟩ := Oper.apart_spec hap
  unfold Grow at h ⊢
  rw [wanted_put oj a oi.dst v h1, execOp_put oj hsj a oi.dst v h1] at h
  exact h
theorem Grow.put {B : Nat} {W : World} {oi oj : Oper} {v u : Value} {a : Act} (hap : oi.apart ops oj = true) (hsi : ∀ cs b, oi.op ≠ .select cs b) (h : Grow P ops B W oi v a) : Grow P ops B W oi v (a.put oj.dst u) := by
  obtain ⟨_, _, h3⟩ := Oper.apart_spec hap
  unfold Grow at h ⊢
  rw [wanted_put oi a oj.dst u h3, execOp_put oi hsi a oj.dst u h3]
  exact h
attribute [go_sem] growUpon
end
end Go.Proofs.YtlcegkafagdcjaaGreatDoor
