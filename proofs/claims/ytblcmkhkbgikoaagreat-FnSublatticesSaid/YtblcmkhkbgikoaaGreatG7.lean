/- Contracts: the words of the laws on lists of forms: equality, marks. -/
import Derived.Test.YtblcmkhkbgikoaaGreatGG
namespace Go.Proofs.YtblcmkhkbgikoaaGreat
open Go.RowKit

/-- The first n triples of a row bear the marks. -/
def Mark3 (m : Int) (n : Nat) (cur : Array Value) : Prop := ∀ j, j < n → cur[j * 3]? = some (.int .i64 (m + 3 * j)) ∧ cur[j * 3 + 1]? = some (.int .i64 (m + 3 * j + 1)) ∧ cur[j * 3 + 2]? = some (.int .i64 (m + 3 * j + 2))
theorem Mark3.next {m : Int} {k : Nat} {cur : Array Value} (h : Mark3 m k cur) (hs : k * 3 + 3 ≤ cur.size) :
    Mark3 m (k + 1) (((cur.setIfInBounds (k * 3) (.int .i64 (m + 3 * k))).setIfInBounds (k * 3 + 1) (.int .i64 (m + 3 * k + 1))).setIfInBounds (k * 3 + 2) (.int .i64 (m + 3 * k + 2))) := by
  intro j hj
  by_cases he : j = k
  · subst he
    refine ⟨?_, ?_, ?_⟩
    · rw [Array.getElem?_setIfInBounds, if_neg (by omega), Array.getElem?_setIfInBounds, if_neg (by omega), Array.getElem?_setIfInBounds, if_pos rfl, if_pos (by omega)]
    · rw [Array.getElem?_setIfInBounds, if_neg (by omega), Array.getElem?_setIfInBounds, if_pos rfl, if_pos (by simp; omega)]
    · rw [Array.getElem?_setIfInBounds, if_pos rfl, if_pos (by simp; omega)]
  · obtain ⟨h1, h2, h3⟩ := h j (by omega)
    refine ⟨?_, ?_, ?_⟩
    · rw [Array.getElem?_setIfInBounds, if_neg (by omega), Array.getElem?_setIfInBounds, if_neg (by omega), Array.getElem?_setIfInBounds, if_neg (by omega), h1]
    · rw [Array.getElem?_setIfInBounds, if_neg (by omega), Array.getElem?_setIfInBounds, if_neg (by omega), Array.getElem?_setIfInBounds, if_neg (by omega), h2]
    · rw [Array.getElem?_setIfInBounds, if_neg (by omega), Array.getElem?_setIfInBounds, if_neg (by omega), Array.getElem?_setIfInBounds, if_neg (by omega), h3]
theorem grown_set3 (w : World) (a : Addr) (u : Value) : w.grownBy (w.setCell a u) (some a.block) :=
  ⟨rfl, rfl, rfl, by simp, fun k _ hne => Below.heap_setCell w a u k (fun e => hne (by rw [e]))⟩
/-- A marked list of n forms. -/
def MarkF (B : Nat) (m : Int) (n : Nat) (v : Value) (w : World) : Prop :=
  (v = .slice none 0 0 ∧ n = 0) ∨ ∃ g cap cur, v = .slice (some ⟨g, 0, none⟩) n cap ∧ B ≤ g ∧ Blk w g 36 cur ∧ Mark3 m n cur
theorem MarkF.kept {B n : Nat} {m : Int} {v : Value} {w w' : World} (h : MarkF B m n v w) (hb : Below w.heap.size w w') : MarkF B m n v w' := by
  rcases h with h | ⟨g, cap, cur, h1, h2, h3, h4⟩
  · exact .inl h
  · exact .inr ⟨g, cap, cur, h1, h2, h3.call hb, h4⟩
theorem apart_lt3 {w w2 : World} {B B2 : Nat} {e e2 : TypeId} {sz n sz2 n2 : Nat} {v vl : Value} {xs xs2 : List Value} (h : w.ownsRow B e sz vl n xs) (h2 : w2.ownsRow B2 e2 sz2 v n2 xs2) (hB : w.heap.size ≤ B2) : vl.ownBlock = none ∨ vl.ownBlock ≠ v.ownBlock := by
  cases h3 : vl.ownBlock with
  | none => exact .inl rfl
  | some b =>
    have k1 := (h.lt b h3).2
    refine .inr (fun he => ?_)
    have k2 := (h2.lt b he.symm).1
    omega

end Go.Proofs.YtblcmkhkbgikoaaGreat
