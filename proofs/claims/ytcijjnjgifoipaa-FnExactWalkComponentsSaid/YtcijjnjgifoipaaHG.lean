/- Contracts of WalkComponents, of the program. -/
import Derived.Test.YtcijjnjgifoipaaHF
import Derived.Test.YtcijjnjgifoipaaY2
namespace Go.Proofs.Ytcijjnjgifoipaa
open Go.RowKit Go.Maps

/-- The parts after the first q columns of a row. -/
def colC (R : List Int) (i : Nat) (c : Nat → Int) : Nat → (Nat → Int)
  | 0 => c
  | q + 1 => if 0 < R.getD q 0 then mrgC (colC R i c q) i q else colC R i c q
/-- The parts after the first k rows. -/
def rwC (G : List (List Int)) (c : Nat → Int) : Nat → (Nat → Int)
  | 0 => c
  | k + 1 => colC (G.getD k []) k (rwC G c k) (G.getD k []).length
/-- The parts after the first t primes. -/
def prC (L : List Fm) (Z : List Int) : Nat → (Nat → Int)
  | 0 => fun i => (i : Int)
  | t + 1 => rwC (mtL L (Z.getD t 0)) (prC L Z t) L.length
def OkC (m : Nat) (c : Nat → Int) : Prop := ∀ j, j < m → 0 ≤ c j ∧ c j ≤ 1640
theorem OkC.mrg {m i k : Nat} {c : Nat → Int} (h : OkC m c) (hi : i < m) (hk : k < m) : OkC m (mrgC c i k) := by
  intro j hj
  have h1 := h j hj
  have h2 := h i hi
  have h3 := h k hk
  unfold mrgC
  split <;> omega
theorem OkC.col {m i : Nat} {c : Nat → Int} {R : List Int} (h : OkC m c) (hi : i < m) : ∀ q, q ≤ m → OkC m (colC R i c q)
  | 0, _ => h
  | q + 1, hq => by
    rw [colC]
    split
    · exact (h.col hi q (by omega)).mrg hi (by omega)
    · exact h.col hi q (by omega)
theorem OkC.rw {m : Nat} {c : Nat → Int} {G : List (List Int)} (h : OkC m c) (hG : ∀ g ∈ G, g.length = m) (hl : G.length = m) : ∀ k, k ≤ m → OkC m (rwC G c k)
  | 0, _ => h
  | k + 1, hk => by
    rw [rwC]
    have hg : (G.getD k []).length = m := hG _ (by rw [List.getD_eq_getElem?_getD, List.getElem?_eq_getElem (show k < G.length by omega)]; exact List.getElem_mem _)
    exact (h.rw hG hl k (by omega)).col (by omega) _ (by omega)
theorem mtL_rows {L : List Fm} {p : Int} : (∀ g ∈ mtL L p, g.length = L.length) ∧ (mtL L p).length = L.length := by
  constructor
  · intro g hg
    obtain ⟨f, _, rfl⟩ := List.mem_map.1 hg
    exact ctR_len _ _
  · unfold mtL; rw [List.length_map]
theorem prC_ok {L : List Fm} {Z : List Int} (hl : L.length ≤ 1640) : ∀ t, OkC L.length (prC L Z t)
  | 0 => fun j hj => ⟨by show (0 : Int) ≤ j; omega, by show (j : Int) ≤ 1640; omega⟩
  | t + 1 => (prC_ok hl t).rw mtL_rows.1 mtL_rows.2 _ (Nat.le_refl _)
/-- The members of the part i among the first k. -/
def partL (L : List Fm) (c : Nat → Int) (i : Nat) : Nat → List Fm
  | 0 => []
  | k + 1 => if c k = i then partL L c i k ++ [L.getD k ⟨0, 0, 0⟩] else partL L c i k
theorem partL_len (L : List Fm) (c : Nat → Int) (i : Nat) : ∀ k, (partL L c i k).length ≤ k
  | 0 => Nat.le_refl _
  | k + 1 => by
    have := partL_len L c i k
    rw [partL]
    split
    · simp; omega
    · omega
/-- The components named by the first i members. -/
def cmpG (L : List Fm) (c : Nat → Int) : Nat → List (List Fm)
  | 0 => []
  | i + 1 => if c i = i then cmpG L c i ++ [partL L c i L.length] else cmpG L c i
theorem cmpG_len (L : List Fm) (c : Nat → Int) : ∀ k, (cmpG L c k).length ≤ k ∧ ∀ g ∈ cmpG L c k, g.length ≤ L.length
  | 0 => ⟨Nat.le_refl _, by simp [cmpG]⟩
  | k + 1 => by
    obtain ⟨h1, h2⟩ := cmpG_len L c k
    rw [cmpG]
    split
    · refine ⟨by simp; omega, fun g hg => ?_⟩
      rcases List.mem_append.1 hg with hg | hg
      · exact h2 g hg
      · simp at hg; subst hg; exact partL_len _ _ _ _
    · exact ⟨by omega, h2⟩
/-- What WalkComponents gives. -/
def WcP (d : Int) (Z : List Int) (G : List (List Fm)) (ok : Bool) : Prop :=
  ((isDisc d = false ∨ (isDisc d = true ∧ ixsB Z = false)) ∧ G = [] ∧ ok = false) ∨ (isDisc d = true ∧ ixsB Z = true ∧ G = cmpG (clsL d) (prC (clsL d) Z Z.length) (clsL d).length ∧ ok = true)
theorem wcP_ex (d : Int) (Z : List Int) : ∃ G ok, WcP d Z G ok ∧ G.length ≤ 2000 ∧ ∀ g ∈ G, g.length ≤ 2000 := by
  cases hc : isDisc d with
  | false => exact ⟨_, _, .inl ⟨.inl hc, rfl, rfl⟩, by simp, by simp⟩
  | true =>
    cases hi : ixsB Z with
    | false => exact ⟨_, _, .inl ⟨.inr ⟨hc, hi⟩, rfl, rfl⟩, by simp, by simp⟩
    | true =>
      have hl := clsL_len d
      obtain ⟨h1, h2⟩ := cmpG_len (clsL d) (prC (clsL d) Z Z.length) (clsL d).length
      exact ⟨_, _, .inr ⟨hc, hi, rfl, rfl⟩, by omega, fun g hg => by have := h2 g hg; omega⟩
def RetWc (G : List (List Fm)) (ok : Bool) (w : World) (e : Ending) (w' : World) : Prop := ∃ v, e = .returned (.tuple #[v, .bool ok]) ∧ NestF w.heap.size G v w' ∧ Below w.heap.size w w'
/-- The value at one place of a row of values. -/
theorem own_val {w : World} {B : Nat} {e : TypeId} {base : Option Addr} {n cap m : Nat} {xs : List Value} (h : w.ownsRow B e 1 (.slice base n cap) m xs) {k : Nat} {u : Value} (hu : xs[k]? = some u) : ∃ g, base = some ⟨g, 0, none⟩ ∧ g < w.heap.size ∧ B ≤ g ∧ w.cell? ⟨g, k, none⟩ = some u := by
  have hk : k < xs.length := (List.getElem?_eq_some_iff.1 hu).1
  have hm := h.1
  rcases own_form h with ⟨hv, h0⟩ | ⟨g, c, hv, h1, h2, h3⟩
  · omega
  · injection hv with e1 e2 e3
    exact ⟨g, e1, h2, h1, h3 _ _ hu⟩
def W1St (O m : Nat) (wA : World) (vi : Value) (wr : World) : Prop := ∃ q : Nat, vi = .int .i64 q ∧ q ≤ m ∧ Hid (rowC wr O m (fun j => if j < q then (j : Int) else 0)) ∧ Hid (wA.grownBy wr (some O))
def W2St (F : Nat → (Nat → Int)) (n O m : Nat) (wA : World) (vi : Value) (wr : World) : Prop := ∃ q : Nat, vi = .int .i64 q ∧ q ≤ n ∧ Hid (rowC wr O m (F q)) ∧ Hid (wA.grownBy wr (some O))
def W5St (L : List Fm) (c : Nat → Int) (wN : World) (v vi : Value) (wr : World) : Prop := ∃ i : Nat, vi = .int .i64 i ∧ i ≤ L.length ∧ Hid (NestF wN.heap.size (cmpG L c i) v wr) ∧ Below wN.heap.size wN wr
def W6St (L : List Fm) (c : Nat → Int) (i : Nat) (wo : World) (v vi : Value) (wr : World) : Prop := ∃ q : Nat, vi = .int .i64 q ∧ q ≤ L.length ∧ wr.ownsRow wo.heap.size 32 3 v (partL L c i q).length (cellsF (partL L c i q)) ∧ Below wo.heap.size wo wr
theorem grown_set1' {w wr : World} {O n : Nat} {u : Value} (h : w.grownBy wr (some O)) : w.grownBy (wr.setCell ⟨O, n, none⟩ u) (some O) :=
  ⟨h.os, h.tape, h.output, by have := h.size; simp; exact this, fun j hj hne => (heap_setCell_other wr ⟨O, n, none⟩ j _ (fun e => hne (by rw [e]))).trans (h.block j hj hne)⟩
end Go.Proofs.Ytcijjnjgifoipaa
