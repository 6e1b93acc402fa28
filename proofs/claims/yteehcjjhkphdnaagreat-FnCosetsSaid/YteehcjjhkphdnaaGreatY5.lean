/- Contracts: the words of the laws on lists of lists of forms: equality, marks. -/
import Derived.Test.YteehcjjhkphdnaaGreatY2
import Derived.Test.YteehcjjhkphdnaaGreatG7
namespace Go.Proofs.YteehcjjhkphdnaaGreat
open Go.RowKit

theorem MarkF.grown {B n : Nat} {m : Int} {v : Value} {w w' : World} {row : Option Nat} (h : MarkF B m n v w) (hg : w.grownBy w' row) (hne : ∀ q, v.ownBlock = some q → row ≠ some q) : MarkF B m n v w' := by
  rcases h with h | ⟨g, cap, cur, h1, h2, h3, h4⟩
  · exact .inl h
  · exact .inr ⟨g, cap, cur, h1, h2, h3.grown hg (fun he => hne g (by rw [h1]; rfl) he.symm), h4⟩
/-- Three times the number of all forms in the first i lists. -/
def offN : List (List Fm) → Nat → Nat
  | _, 0 => 0
  | [], _ + 1 => 0
  | g :: G, i + 1 => 3 * g.length + offN G i
theorem offN_next : ∀ (G : List (List Fm)) (i : Nat) (h : i < G.length), offN G (i + 1) = offN G i + 3 * G[i].length
  | [], i, h => absurd h (Nat.not_lt_zero _)
  | g :: G, 0, _ => by simp [offN]
  | g :: G, i + 1, h => by
    have ih := offN_next G i (by simpa using h)
    simp only [offN, List.getElem_cons_succ] at ih ⊢
    omega
theorem offN_bd {n : Nat} : ∀ (G : List (List Fm)) (i : Nat), (∀ g ∈ G, g.length ≤ n) → offN G i ≤ 3 * n * i
  | _, 0, _ => by simp [offN]
  | [], i + 1, _ => by simp [offN]
  | g :: G, i + 1, h => by
    have h1 := h g (by simp)
    have ih := offN_bd G i (fun x hx => h x (by simp [hx]))
    simp only [offN]
    have : 3 * n * (i + 1) = 3 * n * i + 3 * n := Nat.mul_succ _ _
    omega
/-- A marked list of lists. -/
def MarkN (B : Nat) (G : List (List Fm)) (v : Value) (w : World) : Prop :=
  ∃ vs, w.ownsRow B 25 1 v G.length vs ∧ ∀ (i : Nat) (h : i < G.length), ∃ u : Value, vs[i]? = some u ∧ MarkF B (1 + offN G i) G[i].length u w
theorem MarkN.kept {B : Nat} {G : List (List Fm)} {v : Value} {w w' : World} (h : MarkN B G v w) (hb : Below w.heap.size w w') : MarkN B G v w' := by
  obtain ⟨vs, h1, h2⟩ := h
  refine ⟨vs, own_call hb h1, fun i hi => ?_⟩
  obtain ⟨u, h3, h4⟩ := h2 i hi
  exact ⟨u, h3, h4.kept hb⟩
theorem ownV_at {w : World} {B n cap : Nat} {ob : Option Addr} {e : TypeId} {vs : List Value} (h : w.ownsRow B e 1 (.slice ob n cap) n vs) {i : Nat} (hi : i < n) {u : Value} (hu : vs[i]? = some u) :
    ∃ O, ob = some ⟨O, 0, none⟩ ∧ O < w.heap.size ∧ w.cell? ⟨O, i, none⟩ = some u := by
  rcases own_form h with ⟨hv, h0⟩ | ⟨O, c, hv, hB, hO, hc⟩
  · omega
  · injection hv with e1 e2 e3
    subst e1
    exact ⟨O, rfl, hO, hc i u hu⟩

def MssSt (B : Nat) (G : List (List Fm)) (v : Value) (vs : List Value) (w : World) (vm vi : Value) (wr : World) : Prop :=
  ∃ k : Nat, vi = .int .i64 k ∧ k ≤ G.length ∧ vm = .int .i64 (1 + (offN G k : Int)) ∧ Hid (wr.ownsRow B 25 1 v G.length vs) ∧
    Hid (∀ (i : Nat) (h : i < G.length), ∃ u : Value, vs[i]? = some u ∧ (i < k → MarkF B (1 + offN G i) G[i].length u wr) ∧ (k ≤ i → wr.ownsRow B 36 3 u G[i].length (cellsF G[i]))) ∧ Below B w wr ∧ w.heap.size ≤ wr.heap.size

end Go.Proofs.YteehcjjhkphdnaaGreat
