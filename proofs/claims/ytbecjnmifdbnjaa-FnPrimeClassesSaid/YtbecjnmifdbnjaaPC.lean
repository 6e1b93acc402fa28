/- Contracts: the forms of some primes, of both sides. -/
import Derived.Test.YtbecjnmifdbnjaaPB
namespace Go.Proofs.Ytbecjnmifdbnjaa
open Go.RowKit

/-- The forms of some primes, if each has one. -/
def pfL (d : Int) : List Int → Option (List Fm)
  | [] => some []
  | z :: Z => (prF d z).bind fun f => (pfL d Z).map fun L => f :: L
theorem pfL_app (d : Int) : ∀ A B, pfL d (A ++ B) = (pfL d A).bind fun L => (pfL d B).map fun K => L ++ K
  | [], B => by simp [pfL]
  | z :: A, B => by
    rw [List.cons_append, pfL, pfL, pfL_app d A B]
    cases prF d z with
    | none => rfl
    | some f =>
      simp only [Option.bind_some]
      cases pfL d A with
      | none => rfl
      | some L =>
        simp only [Option.bind_some, Option.map_some]
        cases pfL d B <;> simp
theorem pfL_one (d z : Int) : pfL d [z] = (prF d z).map fun f => [f] := by
  unfold pfL pfL
  cases prF d z <;> rfl
theorem pfL_no {d : Int} {Z : List Int} {L : List Fm} {k : Nat} (h : k < Z.length) (hL : pfL d (Z.take k) = some L) (hz : prF d Z[k] = none) : pfL d Z = none := by
  have e : Z = Z.take (k + 1) ++ Z.drop (k + 1) := (List.take_append_drop _ _).symm
  rw [e, pfL_app, List.take_succ_eq_append_getElem h, pfL_app, hL, pfL_one, hz]
  rfl
theorem pfL_yes {d : Int} {Z : List Int} {L : List Fm} {f : Fm} {k : Nat} (h : k < Z.length) (hL : pfL d (Z.take k) = some L) (hz : prF d Z[k] = some f) : pfL d (Z.take (k + 1)) = some (L ++ [f]) := by
  rw [List.take_succ_eq_append_getElem h, pfL_app, hL, pfL_one, hz]
  rfl
theorem pfL_cf {d : Int} : ∀ (Z : List Int) (L : List Fm), pfL d Z = some L → (∀ f ∈ L, CF d f (red f)) ∧ L.length = Z.length
  | [], L, h => by
    simp only [pfL, Option.some.injEq] at h
    subst h
    simp
  | z :: Z, L, h => by
    rw [pfL] at h
    cases hz : prF d z with
    | none => rw [hz] at h; simp at h
    | some f =>
      rw [hz, Option.bind_some] at h
      cases hZ : pfL d Z with
      | none => rw [hZ] at h; simp at h
      | some K =>
        rw [hZ, Option.map_some] at h
        injection h with h
        subst h
        obtain ⟨h1, h2⟩ := pfL_cf Z K hZ
        refine ⟨fun g hg => ?_, by simp [h2]⟩
        rcases List.mem_cons.1 hg with rfl | hg
        · exact prF_cf hz
        · exact h1 g hg
/-- A list of forms and true, or nothing and false. -/
def RetPo (o : Option (List Fm)) (w : World) (e : Ending) (w' : World) : Prop :=
  (o = none ∧ e = .returned (.tuple #[.slice none 0 0, .bool false]) ∧ Below w.heap.size w w') ∨
  (∃ L v, o = some L ∧ e = .returned (.tuple #[v, .bool true]) ∧ w'.ownsRow w.heap.size 35 3 v L.length (cellsF L) ∧ Below w.heap.size w w')
/-- The state of the loop: g of each form is kept. -/
def PfsSt (g : Fm → Fm) (d : Int) (Z : List Int) (w : World) (v vi : Value) (wr : World) : Prop :=
  ∃ (k : Nat) (L : List Fm), vi = .int .i64 k ∧ k ≤ Z.length ∧ Hid (pfL d (Z.take k) = some L) ∧ L.length = k ∧ wr.ownsRow w.heap.size 35 3 v (L.map g).length (cellsF (L.map g)) ∧ Below w.heap.size w wr
def pfsO (d : Int) (Z : List Int) (m : Int) : Option (List Fm) := if isDisc d = true ∧ 1 ≤ Z.length ∧ (Z.length : Int) ≤ m then pfL d Z else none

end Go.Proofs.Ytbecjnmifdbnjaa
