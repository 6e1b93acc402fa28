/- Parts T6 T7 T8 laid together by tp.py. -/
import Derived.Test.YtjfcaafmlghjlaaKT
import Derived.Test.YtjfcaafmlghjlaaKX
import Derived.Deep.OwnRows
import Derived.Deep.RegionHeld3
import Derived.Test.YtjfcaafmlghjlaaT5
namespace Go.Proofs.Ytjfcaafmlghjlaa
section
open Go.RowKit

theorem infoSl : (Try.prog.info? 31).map (fun i => (i.zero, i.size, i.bytes)) = some (some (.slice none 0 0), 1, 24) := by kernel_rfl
/-- The row of the table at the class f. -/
noncomputable def rowT (d : Int) (L : List Fm) (f : Fm) : List Int := L.map fun g => gix L (cmp d f g)
theorem rowT_len (d : Int) (L : List Fm) (f : Fm) : (rowT d L f).length = L.length := by unfold rowT; simp
theorem rowT_get {d : Int} {L : List Fm} {f : Fm} {j : Nat} (h : j < L.length) : (cellsI (rowT d L f))[j]? = some (.int .i64 (gix L (cmp d f L[j]))) := by
  unfold rowT cellsI; simp [h]
theorem own_bel {w w' : World} {B N : Nat} {e : TypeId} {sz : Nat} {v : Value} {n : Nat} {xs : List Value} (hb : Below N w w') (hlt : ∀ k, v.ownBlock = some k → k < N) (h : w.ownsRow B e sz v n xs) : w'.ownsRow B e sz v n xs := by
  refine ⟨h.1, ?_⟩
  rcases h.2 with hn | ⟨g, cap, cur, hv, hg, hh, r⟩
  · exact .inl hn
  · exact .inr ⟨g, cap, cur, hv, hg, (hb.block g (hlt g (by rw [hv]; rfl))).trans hh, r⟩
theorem own_set_ne {w : World} {B : Nat} {e : TypeId} {sz : Nat} {v : Value} {n : Nat} {xs : List Value} {p : Addr} {u : Value} (hk : ∀ k, v.ownBlock = some k → k ≠ p.block) (h : w.ownsRow B e sz v n xs) : (w.setCell p u).ownsRow B e sz v n xs := by
  refine ⟨h.1, ?_⟩
  rcases h.2 with hn | ⟨g, cap, cur, hv, hg, hh, r⟩
  · exact .inl hn
  · refine .inr ⟨g, cap, cur, hv, hg, ?_, r⟩
    rw [Below.heap_setCell _ _ _ _ (hk g (by rw [hv]; rfl))]
    exact hh
theorem rowIs_own {w : World} {b B n : Nat} {t : TypeId} {f : Nat → Value} {xs : List Value} (h : w.rowIs b t n f) (hl : xs.length = n) (hx : ∀ i, i < n → xs[i]? = some (f i)) (hB : B ≤ b) (hm : n ≤ maxLen) :
    w.ownsRow B t 1 (.slice (some ⟨b, 0, none⟩) n n) n xs := by
  obtain ⟨c, hb, hc, hv⟩ := h
  refine ⟨by omega, .inr ⟨b, n, c, rfl, hB, hb, Nat.le_refl _, hm, by omega, ?_⟩⟩
  rw [Nat.mul_one]
  refine List.ext_getElem? fun i => ?_
  by_cases hi : i < n
  · rw [List.getElem?_take, if_pos hi, hx i hi]
    have := hv i hi
    rw [← Array.getElem?_toList] at this
    exact this
  · rw [List.getElem?_take, if_neg hi, List.getElem?_eq_none (by omega)]

/-- The table of the class group: rows of indices, each in a block of its own. -/
def Tab (d : Int) (L : List Fm) (B : Nat) (v : Value) (w : World) : Prop :=
  ∃ vs : List Value, w.ownsRow B 31 1 v L.length vs ∧ ∀ i (h : i < L.length), ∃ u, vs[i]? = some u ∧ w.ownsRow B 3 1 u L.length (cellsI (rowT d L L[i]))
theorem Tab.call {d : Int} {L : List Fm} {B : Nat} {v : Value} {w w' : World} (h : Tab d L B v w) (hb : Below w.heap.size w w') : Tab d L B v w' := by
  obtain ⟨vs, h1, h2⟩ := h
  refine ⟨vs, own_call hb h1, fun i hi => ?_⟩
  obtain ⟨u, h3, h4⟩ := h2 i hi
  exact ⟨u, h3, own_call hb h4⟩
theorem Tab.base {d : Int} {L : List Fm} {B B' : Nat} {v : Value} {w : World} (hB : B' ≤ B) (h : Tab d L B v w) : Tab d L B' v w := by
  obtain ⟨vs, h1, h2⟩ := h
  refine ⟨vs, own_base hB h1, fun i hi => ?_⟩
  obtain ⟨u, h3, h4⟩ := h2 i hi
  exact ⟨u, h3, own_base hB h4⟩
theorem Tab.elem {d : Int} {L : List Fm} {B : Nat} {base : Option Addr} {cap : Nat} {w : World} (h : Tab d L B (.slice base L.length cap) w) {i j : Nat} (hi : i < L.length) (hj : j < L.length) :
    ∃ G g c, base = some ⟨G, 0, none⟩ ∧ G < w.heap.size ∧ w.cell? ⟨G, i, none⟩ = some (.slice (some ⟨g, 0, none⟩) L.length c) ∧ g < w.heap.size ∧ w.cell? ⟨g, j, none⟩ = some (.int .i64 (gix L (cmp d L[i] L[j]))) := by
  obtain ⟨vs, h1, h2⟩ := h
  obtain ⟨u, h3, h4⟩ := h2 i hi
  rcases own_form h1 with ⟨hv, h0⟩ | ⟨G, c0, hv, _, hG2, hG3⟩
  · omega
  · injection hv with e1 e2 e3
    rcases own_form h4 with ⟨hu, h0⟩ | ⟨g, c, hu, _, hg2, hg3⟩
    · omega
    · refine ⟨G, g, c, e1, hG2, ?_, hg2, hg3 j _ (rowT_get hj)⟩
      rw [← hu]
      exact hG3 i u h3

/-- The row while it is filled. -/
noncomputable def rowQ (d : Int) (L : List Fm) (f : Fm) (q : Nat) (j : Nat) : Value := if j < q then .int .i64 (gix L (cmp d f (L.getD j ⟨0, 0, 0⟩))) else .int .i64 0
theorem rowQ_next {d : Int} {L : List Fm} {f : Fm} {q : Nat} (h : q < L.length) : ∀ j, (if j = q then Value.int .i64 (gix L (cmp d f L[q])) else rowQ d L f q j) = rowQ d L f (q + 1) j := by
  intro j
  unfold rowQ
  by_cases e : j = q
  · subst e
    rw [if_pos rfl, if_pos (by omega)]
    simp [List.getD_eq_getElem?_getD, h]
  · rw [if_neg e]
    by_cases h1 : j < q
    · rw [if_pos h1, if_pos (by omega)]
    · rw [if_neg h1, if_neg (by omega)]
theorem rowQ_full {d : Int} {L : List Fm} {f : Fm} : ∀ i, i < L.length → (cellsI (rowT d L f))[i]? = some (rowQ d L f L.length i) := by
  intro i hi
  rw [rowT_get hi]
  unfold rowQ
  rw [if_pos hi]
  simp [List.getD_eq_getElem?_getD, hi]
/-- The outer loop: the rows of the first k classes are done. -/
def TabSt (d : Int) (L : List Fm) (O : Nat) (w1 : World) (vi : Value) (wr : World) : Prop :=
  ∃ (k : Nat) (F : Nat → Value), vi = .int .i64 k ∧ k ≤ L.length ∧ Hid (wr.rowIs O 31 L.length F) ∧ Hid (∀ j (h : j < L.length), j < k → wr.ownsRow (O + 1) 3 1 (F j) L.length (cellsI (rowT d L L[j]))) ∧ O < wr.heap.size ∧ Below O w1 wr
/-- The inner loop: the first q entries of the row are done. -/
def TabIn (d : Int) (L : List Fm) (f : Fm) (R : Nat) (wi : World) (vj : Value) (wr : World) : Prop :=
  ∃ q : Nat, vj = .int .i64 q ∧ q ≤ L.length ∧ Hid (wr.rowIs R 3 L.length (rowQ d L f q)) ∧ R < wr.heap.size ∧ Below R wi wr
end

section
open Go.RowKit

/-- What grTable gives. -/
def RetT (d : Int) (L : List Fm) (w : World) (e : Ending) (w' : World) : Prop := ∃ base cap, e = .returned (.slice base L.length cap) ∧ Tab d L w.heap.size (.slice base L.length cap) w' ∧ Below w.heap.size w w'

end

section
open Go.RowKit

theorem own_elem2 {w : World} {B : Nat} {e : TypeId} {vl : Value} {L : List Fm} (h : w.ownsRow B e 3 vl L.length (cellsF L)) {k : Nat} (hk : k < L.length) :
    ∃ g cl, vl = .slice (some ⟨g, 0, none⟩) L.length cl ∧ g < w.heap.size ∧ w.cell? ⟨g, k * 3, none⟩ = some (.int .i64 L[k].a) ∧ w.cell? ⟨g, k * 3 + 1, none⟩ = some (.int .i64 L[k].b) ∧ w.cell? ⟨g, k * 3 + 2, none⟩ = some (.int .i64 L[k].c) := by
  obtain ⟨base, cap, rfl⟩ := own_shape h
  obtain ⟨g, rfl, h2, h3⟩ := own_elem h hk
  exact ⟨g, cap, rfl, h2, h3⟩
def GroSt (d : Int) (L : List Fm) (f : Fm) (N : Nat) (w : World) (vk vj : Value) (wr : World) : Prop :=
  ∃ n : Nat, 1 ≤ n ∧ n ≤ N ∧ vk = .int .i64 n ∧ vj = .int .i64 (gix L (pw d f n)) ∧ w = wr

noncomputable def ordQ (d : Int) (L : List Fm) (q : Nat) (j : Nat) : Value := if j < q then .int .i64 (ordF d (L.getD j ⟨0, 0, 0⟩) : Int) else .int .i64 0
theorem ordQ_next {d : Int} {L : List Fm} {q : Nat} (h : q < L.length) : ∀ j, (if j = q then Value.int .i64 (ordF d L[q] : Int) else ordQ d L q j) = ordQ d L (q + 1) j := by
  intro j
  unfold ordQ
  by_cases e : j = q
  · subst e
    rw [if_pos rfl, if_pos (by omega)]
    simp [List.getD_eq_getElem?_getD, h]
  · rw [if_neg e]
    by_cases h1 : j < q
    · rw [if_pos h1, if_pos (by omega)]
    · rw [if_neg h1, if_neg (by omega)]
theorem ordQ_full {d : Int} {L : List Fm} : ∀ i, i < L.length → (cellsI (ordsL d L))[i]? = some (ordQ d L L.length i) := by
  intro i hi
  unfold ordQ ordsL cellsI
  rw [if_pos hi]
  simp [List.getD_eq_getElem?_getD, hi]
def GrsSt (d : Int) (L : List Fm) (w : World) (vi : Value) (wr : World) : Prop :=
  ∃ q : Nat, vi = .int .i64 q ∧ q ≤ L.length ∧ Hid (wr.rowIs w.heap.size 3 L.length (ordQ d L q)) ∧ w.heap.size < wr.heap.size ∧ Below w.heap.size w wr

def CosSt (p : Fm → Bool) (L : List Fm) (w3 : World) (v vi : Value) (wr : World) : Prop :=
  ∃ k : Nat, vi = .int .i64 k ∧ k ≤ L.length ∧ wr.ownsRow w3.heap.size 35 3 v ((L.take k).filter p).length (cellsF ((L.take k).filter p)) ∧ Below w3.heap.size w3 wr

end
end Go.Proofs.Ytjfcaafmlghjlaa
