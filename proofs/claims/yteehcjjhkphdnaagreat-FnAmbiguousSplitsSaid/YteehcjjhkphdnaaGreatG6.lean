/- Contracts: SplitsOf, and the words of its law on lists of splits. -/
import Derived.Test.YteehcjjhkphdnaaGreatG5
namespace Go.Proofs.YteehcjjhkphdnaaGreat
open Go.RowKit

/-- What SplitsOf gives. -/
def splitsL (d : Int) : List (Int × Int) := if isDisc d = true then ((clsL d).filter ambB).map sp else []
theorem splitsL_len (d : Int) : (splitsL d).length ≤ 1640 := by
  unfold splitsL
  split
  · rw [List.length_map]; exact Nat.le_trans (List.length_filter_le _ _) (clsL_len d)
  · exact Nat.zero_le _
theorem isDisc_bd6 {d : Int} (h : isDisc d = true) : -2000 ≤ d ∧ d ≤ -3 := by
  unfold isDisc at h
  simp at h
  omega

set_option maxHeartbeats 400000 in
theorem implSplitsOf_any (d : Int) (w : World) : Calls Tryz.prog 66 #[.int .i64 d] w fun e w' => ∃ v, e = .returned (.tuple #[v, .bool (isDisc d)]) ∧ OwnS (splitsL d) w v w' := by
  unfold splitsL
  cases h : isDisc d with
  | true =>
    obtain ⟨h1, h2⟩ := isDisc_bd6 h
    exact implSplits_any d w h1 h2 h
  | false =>
    go_enter Tryz.func66, Tryz.ntmps66
    go_wp2_with (go_at_call 76; (with_reducible refine (isNegDisc_eq d false _ h).mono ?_); rintro e v ⟨rfl, rfl⟩)
    go_ret2
    exact ⟨_, rfl, own_empty (Nat.le_refl _), (by repeat (first | with_reducible exact Below.refl _ _ | with_reducible assumption | with_reducible apply Below.drew | with_reducible apply below_drewN | (with_reducible apply below_setp; (first | omega | (simp <;> omega))) | (with_reducible apply below_allocp; (first | omega | (simp <;> omega))) | (with_reducible refine below_viap (by assumption) ?_ ?_; (first | omega | (simp <;> omega)))))⟩

/-- The element k of an owned list of splits. -/
theorem own_elem2 {w : World} {B : Nat} {e : TypeId} {base : Option Addr} {n cap : Nat} {L : List (Int × Int)} (h : w.ownsRow B e 2 (.slice base n cap) L.length (cellsS L)) {k : Nat} (hk : k < L.length) :
    ∃ g, base = some ⟨g, 0, none⟩ ∧ g < w.heap.size ∧ w.cell? ⟨g, k * 2, none⟩ = some (.int .i64 L[k].1) ∧ w.cell? ⟨g, k * 2 + 1, none⟩ = some (.int .i64 L[k].2) := by
  rcases own_form h with ⟨hv, h0⟩ | ⟨g, c, hv, h1, h2, h3⟩
  · omega
  · injection hv with e1 e2 e3
    obtain ⟨c1, c2⟩ := cellsS_get L k hk
    rw [show k * 2 = 2 * k by omega]
    exact ⟨g, e1, h2, h3 _ _ c1, h3 _ _ c2⟩

/-- The first n pairs of a row bear the marks. -/
def Marked (m : Int) (n : Nat) (cur : Array Value) : Prop := ∀ j, j < n → cur[j * 2]? = some (.int .i64 (m + 2 * j)) ∧ cur[j * 2 + 1]? = some (.int .i64 (m + 2 * j + 1))
theorem Marked.next {m : Int} {k : Nat} {cur : Array Value} (h : Marked m k cur) (hs : k * 2 + 2 ≤ cur.size) :
    Marked m (k + 1) ((cur.setIfInBounds (k * 2) (.int .i64 (m + 2 * k))).setIfInBounds (k * 2 + 1) (.int .i64 (m + 2 * k + 1))) := by
  intro j hj
  by_cases he : j = k
  · subst he
    constructor
    · rw [Array.getElem?_setIfInBounds, if_neg (by omega), Array.getElem?_setIfInBounds, if_pos rfl, if_pos (by omega)]
    · rw [Array.getElem?_setIfInBounds, if_pos rfl, if_pos (by simp; omega)]
  · obtain ⟨h1, h2⟩ := h j (by omega)
    constructor
    · rw [Array.getElem?_setIfInBounds, if_neg (by omega), Array.getElem?_setIfInBounds, if_neg (by omega), h1]
    · rw [Array.getElem?_setIfInBounds, if_neg (by omega), Array.getElem?_setIfInBounds, if_neg (by omega), h2]
theorem grown_set (w : World) (a : Addr) (u : Value) : w.grownBy (w.setCell a u) (some a.block) :=
  ⟨rfl, rfl, rfl, by simp, fun k _ hne => Below.heap_setCell w a u k (fun e => hne (by rw [e]))⟩
/-- A marked list of n splits. -/
def MarkV (B : Nat) (m : Int) (n : Nat) (v : Value) (w : World) : Prop :=
  (v = .slice none 0 0 ∧ n = 0) ∨ ∃ g cap cur, v = .slice (some ⟨g, 0, none⟩) n cap ∧ B ≤ g ∧ Blk w g 78 cur ∧ Marked m n cur

end Go.Proofs.YteehcjjhkphdnaaGreat
