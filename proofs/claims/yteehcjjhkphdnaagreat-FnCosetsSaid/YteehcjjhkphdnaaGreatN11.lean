/- Contracts: the words of the laws on lists of integers. -/
import Derived.Test.YteehcjjhkphdnaaGreatN5
namespace Go.Proofs.YteehcjjhkphdnaaGreat
open Go.RowKit

/-- The first n cells of a row bear the marks. -/
def Mark1 (m : Int) (n : Nat) (cur : Array Value) : Prop := ∀ j, j < n → cur[j]? = some (.int .i64 (m + j))
theorem Mark1.next {m : Int} {k : Nat} {cur : Array Value} (h : Mark1 m k cur) (hs : k + 1 ≤ cur.size) :
    Mark1 m (k + 1) (cur.setIfInBounds k (.int .i64 (m + k))) := by
  intro j hj
  by_cases he : j = k
  · subst he
    rw [Array.getElem?_setIfInBounds, if_pos rfl, if_pos (by omega)]
  · rw [Array.getElem?_setIfInBounds, if_neg (by omega), h j (by omega)]
theorem grown_set1 (w : World) (a : Addr) (u : Value) : w.grownBy (w.setCell a u) (some a.block) :=
  ⟨rfl, rfl, rfl, by simp, fun k _ hne => Below.heap_setCell w a u k (fun e => hne (by rw [e]))⟩
/-- A marked list of n integers. -/
def MarkI (B : Nat) (m : Int) (n : Nat) (v : Value) (w : World) : Prop :=
  (v = .slice none 0 0 ∧ n = 0) ∨ ∃ g cap cur, v = .slice (some ⟨g, 0, none⟩) n cap ∧ B ≤ g ∧ Blk w g 3 cur ∧ Mark1 m n cur
theorem MarkI.kept {B n : Nat} {m : Int} {v : Value} {w w' : World} (h : MarkI B m n v w) (hb : Below w.heap.size w w') : MarkI B m n v w' := by
  rcases h with h | ⟨g, cap, cur, h1, h2, h3, h4⟩
  · exact .inl h
  · exact .inr ⟨g, cap, cur, h1, h2, h3.call hb, h4⟩
theorem apart_ltI {w w2 : World} {B B2 : Nat} {e e2 : TypeId} {sz n sz2 n2 : Nat} {v vl : Value} {xs xs2 : List Value} (h : w.ownsRow B e sz vl n xs) (h2 : w2.ownsRow B2 e2 sz2 v n2 xs2) (hB : w.heap.size ≤ B2) : vl.ownBlock = none ∨ vl.ownBlock ≠ v.ownBlock := by
  cases h3 : vl.ownBlock with
  | none => exact .inl rfl
  | some b =>
    have k1 := (h.lt b h3).2
    refine .inr (fun he => ?_)
    have k2 := (h2.lt b he.symm).1
    omega

end Go.Proofs.YteehcjjhkphdnaaGreat
