/- Parts G1 G2 G3 G4 laid together by tp.py. -/
import Derived.Test.YtdhennlanngjgaaCA
import Derived.Maps.AppendAt
namespace Go.Proofs.Ytdhennlanngjgaa
section
open Go.RowKit

theorem a_bd {a d : Int} (hd : -2000 ≤ d) (h0 : 0 ≤ a) (h : 3 * a * a ≤ -d) : a ≤ 26 := by
  apply Int.not_lt.1
  intro hlt
  have := Int.mul_le_mul (show (27 : Int) ≤ a by omega) (show (27 : Int) ≤ a by omega) (by omega) (by omega)
  have e : 3 * a * a = 3 * (a * a) := Int.mul_assoc _ _ _
  omega
theorem sq_bd {a : Int} (h0 : -40 ≤ a) (h1 : a ≤ 40) : 0 ≤ a * a ∧ a * a ≤ 1600 := by
  have h := mul_bd (A := 40) (X := 40) h0 h1 h0 h1
  refine ⟨?_, h.2⟩
  rcases Int.le_total 0 a with h | h
  · exact Int.mul_nonneg h h
  · exact Int.mul_nonneg_of_nonpos_of_nonpos h h

theorem cand_no {d a b : Int} (h : ¬ (b * b - d) % (4 * a) = 0) : cand d a b = none := by unfold cand; rw [if_neg (fun h2 => h h2.1)]
theorem cand_no2 {d a b : Int} (h : isRed a b ((b * b - d) / (4 * a)) = false) : cand d a b = none := by unfold cand; rw [if_neg (fun h2 => by rw [h] at h2; cases h2.2)]
theorem cand_yes {d a b : Int} (h : (b * b - d) % (4 * a) = 0) (h2 : isRed a b ((b * b - d) / (4 * a)) = true) : cand d a b = some ⟨a, b, (b * b - d) / (4 * a)⟩ := by unfold cand; rw [if_pos ⟨h, h2⟩]
theorem row_skip {d a b : Int} {j : Nat} {L : List Fm} (hb : b = 1 - a + j) (h : cand d a b = none) : L ++ rowF d a (j + 1) = L ++ rowF d a j := by
  rw [rowF_succ, ← hb, h]; simp
theorem row_take {d a b : Int} {j : Nat} {L : List Fm} {f : Fm} (hb : b = 1 - a + j) (h : cand d a b = some f) : L ++ rowF d a (j + 1) = (L ++ rowF d a j) ++ [f] := by
  rw [rowF_succ, ← hb, h]; simp

theorem lens (d a : Int) (k j : Nat) (hk : k ≤ 30) (hj : (j : Int) ≤ 80) : (allF d k ++ rowF d a j).length ≤ 1100 := by
  rw [List.length_append]
  have h1 := allF_len d k
  have h2 := rowF_len d a j
  have h3 := Nat.mul_le_mul hk (Nat.succ_le_succ hk)
  simp at h3
  omega

end

section
open Go.RowKit

theorem disc_quot {a b d : Int} : disc ⟨a, b, (b * b - d) / (4 * a)⟩ = d ↔ (b * b - d) % (4 * a) = 0 := by
  have := Int.emod_add_mul_ediv (b * b - d) (4 * a)
  rw [← disc_eq]
  omega

end

section
open Go.RowKit

/-- Forms that are small. -/
def Small (L : List Fm) : Prop := ∀ f ∈ L, (-1000000000000 ≤ f.a ∧ f.a ≤ 1000000000000) ∧ (-1000000000000 ≤ f.b ∧ f.b ≤ 1000000000000) ∧ (-1000000000000 ≤ f.c ∧ f.c ≤ 1000000000000)

theorem own_form {w : World} {B : Nat} {e : TypeId} {sz : Nat} {v : Value} {n : Nat} {xs : List Value} (h : w.ownsRow B e sz v n xs) :
    (v = .slice none 0 0 ∧ n = 0) ∨ ∃ g cap, v = .slice (some ⟨g, 0, none⟩) n cap ∧ B ≤ g ∧ g < w.heap.size ∧ ∀ j u, xs[j]? = some u → w.cell? ⟨g, j, none⟩ = some u := by
  have hc := fun g => World.ownsRow.cells (g := g) h
  rcases h.2 with ⟨rfl, h0⟩ | ⟨g, cap, cur, rfl, hg, hh, _⟩
  · exact .inl ⟨rfl, h0⟩
  · refine .inr ⟨g, cap, rfl, hg, (Array.getElem?_eq_some_iff.1 hh).1, fun j u hu => ?_⟩
    have := hc g rfl j u hu
    have e : (⟨g, 0, none⟩ : Addr).add j = ⟨g, j, none⟩ := by unfold Addr.add; split <;> simp_all
    rwa [e] at this

/-- The three cells of the element k of a list of forms. -/
theorem own_cells {w : World} {L : List Fm} {g : Nat} (h : ∀ j u, (cellsF L)[j]? = some u → w.cell? ⟨g, j, none⟩ = some u) {k : Nat} (hk : k < L.length) :
    w.cell? ⟨g, k * 3, none⟩ = some (.int .i64 L[k].a) ∧ w.cell? ⟨g, k * 3 + 1, none⟩ = some (.int .i64 L[k].b) ∧ w.cell? ⟨g, k * 3 + 2, none⟩ = some (.int .i64 L[k].c) := by
  rw [show k * 3 = 3 * k by omega]
  obtain ⟨h1, h2, h3⟩ := cellsF_get L k hk
  exact ⟨h _ _ h1, h _ _ h2, h _ _ h3⟩

theorem filter_take {L : List Fm} {p : Fm → Bool} {k : Nat} (hk : k < L.length) : (L.take (k + 1)).filter p = (L.take k).filter p ++ (if p L[k] then [L[k]] else []) := by
  rw [List.take_succ_eq_append_getElem hk, List.filter_append]
  congr 1
  cases h : p L[k] <;> simp [h]

theorem filter_len {p : Fm → Bool} (L : List Fm) (k : Nat) {n : Nat} (h : L.length ≤ n) : ((L.take k).filter p).length ≤ n := by
  have h1 := List.length_filter_le p (L.take k)
  have h2 := List.length_take_le' k L
  omega

end

section
open Go.RowKit

theorem allR_small {d : Int} (hd : -2000 ≤ d) : Small (allR d) := by
  intro f hf
  obtain ⟨h1, h2, _, h4, h5, h6, h7⟩ := mem_allR hd hf
  have h8 := (isRed_iff _ _ _).1 h4
  exact ⟨⟨by omega, by omega⟩, ⟨by omega, by omega⟩, ⟨by omega, by omega⟩⟩
theorem small_filter {L : List Fm} {p : Fm → Bool} (h : Small L) : Small (L.filter p) := fun f hf => h f (List.mem_filter.1 hf).1

section
variable {w w' : World} {B : Nat} {e : TypeId} {sz : Nat} {v vl : Value} {n : Nat} {xs : List Value}
theorem own_shape (h : w.ownsRow B e sz v n xs) : ∃ base cap, v = .slice base n cap := by
  rcases h.2 with ⟨rfl, rfl⟩ | ⟨g, cap, cur, rfl, _⟩
  · exact ⟨_, _, rfl⟩
  · exact ⟨_, _, rfl⟩
def Apart (v vl : Value) : Prop := vl.ownBlock = none ∨ vl.ownBlock ≠ v.ownBlock
theorem apart_nil : Apart (.slice none 0 0) vl := by
  unfold Apart
  cases h : vl.ownBlock with
  | none => exact .inl rfl
  | some b => exact .inr (by simp [Value.ownBlock])
theorem apart_below {g m c : Nat} (h : w.ownsRow B e sz vl n xs) (hg : g < B) : Apart (.slice (some ⟨g, 0, none⟩) m c) vl := by
  unfold Apart
  cases h2 : vl.ownBlock with
  | none => exact .inl rfl
  | some b =>
    have := (h.lt b h2).1
    exact .inr (by simp [Value.ownBlock]; omega)
theorem apart_next {v' : Value} {N : Nat} (ha : Apart v vl) (h : w.ownsRow B e sz vl n xs) (hN : w.heap.size ≤ N) (hloc : v'.ownBlock = v.ownBlock ∨ v'.ownBlock = some N) : Apart v' vl := by
  unfold Apart at *
  rcases ha with ha | ha
  · exact .inl ha
  · rcases hloc with e | e
    · rw [e]; exact .inr ha
    · cases h2 : vl.ownBlock with
      | none => exact .inl rfl
      | some b =>
        have := (h.lt b h2).2
        rw [e]
        exact .inr (by simp; omega)
end
/-- The element k of an owned list of forms. -/
theorem own_elem {w : World} {B : Nat} {e : TypeId} {base : Option Addr} {n cap : Nat} {L : List Fm} (h : w.ownsRow B e 3 (.slice base n cap) L.length (cellsF L)) {k : Nat} (hk : k < L.length) :
    ∃ g, base = some ⟨g, 0, none⟩ ∧ g < w.heap.size ∧ w.cell? ⟨g, k * 3, none⟩ = some (.int .i64 L[k].a) ∧ w.cell? ⟨g, k * 3 + 1, none⟩ = some (.int .i64 L[k].b) ∧ w.cell? ⟨g, k * 3 + 2, none⟩ = some (.int .i64 L[k].c) := by
  rcases own_form h with ⟨hv, h0⟩ | ⟨g, c, hv, h1, h2, h3⟩
  · omega
  · injection hv with e1 e2 e3
    exact ⟨g, e1, h2, own_cells h3 hk⟩

theorem own_base {w : World} {B B' : Nat} {e : TypeId} {sz n : Nat} {v : Value} {xs : List Value} (hB : B' ≤ B) (h : w.ownsRow B e sz v n xs) : w.ownsRow B' e sz v n xs := by
  refine ⟨h.1, ?_⟩
  rcases h.2 with hn | ⟨g, cap, cur, hv, hg, r⟩
  · exact .inl hn
  · exact .inr ⟨g, cap, cur, hv, Nat.le_trans hB hg, r⟩
def ambB (f : Fm) : Bool := isAmb f.a f.b f.c

end
end Go.Proofs.Ytdhennlanngjgaa
