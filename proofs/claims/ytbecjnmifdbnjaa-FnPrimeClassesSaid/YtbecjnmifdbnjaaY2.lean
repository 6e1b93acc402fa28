/- Words: a list of lists of forms, each list in a block of its own. -/
import Derived.Test.YtbecjnmifdbnjaaTZ
namespace Go.Proofs.Ytbecjnmifdbnjaa
open Go.RowKit

theorem infoSlF : (Try.prog.info? 80).map (fun i => (i.zero, i.size, i.bytes)) = some (some (.slice none 0 0), 1, 24) := by kernel_rfl
/-- A list of lists of forms: the outer row has the values vs, each of which is a row of its own. -/
def NestV (B : Nat) (G : List (List Fm)) (v : Value) (vs : List Value) (w : World) : Prop :=
  w.ownsRow B 80 1 v G.length vs ∧
  (∀ (i : Nat) (h : i < G.length), ∃ u : Value, vs[i]? = some u ∧ w.ownsRow B 35 3 u G[i].length (cellsF G[i]) ∧ ∀ q, u.ownBlock = some q → v.ownBlock ≠ some q) ∧
  (∀ (i j : Nat) (u u' : Value), i ≠ j → vs[i]? = some u → vs[j]? = some u' → ∀ q, u.ownBlock = some q → u'.ownBlock ≠ some q)
def NestF (B : Nat) (G : List (List Fm)) (v : Value) (w : World) : Prop := ∃ vs, NestV B G v vs w
variable {B : Nat} {G : List (List Fm)} {v u v' : Value} {vs : List Value} {w w0 wA w2 w' : World}
theorem NestV.len (h : NestV B G v vs w) : vs.length = G.length := by have := h.1.1; omega
theorem NestV.call (h : NestV B G v vs w) (hb : Below w.heap.size w w') : NestV B G v vs w' := by
  refine ⟨own_call hb h.1, fun i hi => ?_, h.2.2⟩
  obtain ⟨u, h1, h2, h3⟩ := h.2.1 i hi
  exact ⟨u, h1, own_call hb h2, h3⟩
theorem NestV.alloc (h : NestV B G v vs w) (o : Obj) : NestV B G v vs (w.alloc o) := h.call ((Below.refl _ _).alloc (Nat.le_refl _) _)
theorem NestF.call (h : NestF B G v w) (hb : Below w.heap.size w w') : NestF B G v w' := by
  obtain ⟨vs, h⟩ := h; exact ⟨vs, h.call hb⟩
theorem NestF.base {B' : Nat} (hB : B' ≤ B) (h : NestF B G v w) : NestF B' G v w := by
  obtain ⟨vs, h1, h2, h3⟩ := h
  refine ⟨vs, own_base hB h1, fun i hi => ?_, h3⟩
  obtain ⟨u, k1, k2, k3⟩ := h2 i hi
  exact ⟨u, k1, own_base hB k2, k3⟩
theorem NestF.shape (h : NestF B G v w) : ∃ base cap, v = .slice base G.length cap := by
  obtain ⟨vs, h1, _⟩ := h; exact own_shape h1
theorem NestF.nil : NestF B [] (.slice none 0 0) w := ⟨[], World.ownsRow_nil _ _ _ _, fun i h => absurd h (Nat.not_lt_zero _), fun i j u u' _ h => by simp at h⟩
theorem NestF.empty (hB : B ≤ w.heap.size) : NestF B [] (.slice (some ⟨w.heap.size, 0, none⟩) 0 0) (w.alloc (.cells #[] 80)) :=
  ⟨[], own_empty hB, fun i h => absurd h (Nat.not_lt_zero _), fun i j u u' _ h => by simp at h⟩
theorem NestV.row_lt (h : NestV B G v vs w) {i : Nat} {u : Value} (hu : vs[i]? = some u) : ∀ q, u.ownBlock = some q → q < w.heap.size ∧ v.ownBlock ≠ some q := by
  intro q hq
  have hi : i < G.length := by rw [← h.len]; exact (List.getElem?_eq_some_iff.1 hu).1
  obtain ⟨u', h1, h2, h3⟩ := h.2.1 i hi
  obtain rfl : u = u' := by rw [hu] at h1; injection h1
  exact ⟨own_lt h2 q hq, h3 q hq⟩
theorem keep_of {a b : Value} (h : ∀ q, a.ownBlock = some q → b.ownBlock ≠ some q) : a.ownBlock = none ∨ a.ownBlock ≠ b.ownBlock := by
  cases e : a.ownBlock with
  | none => exact .inl rfl
  | some q => exact .inr (fun he => h q e he.symm)
/-- One list more at the end. -/
theorem NestV.snoc {g : List Fm} (h : NestV B G v vs w0) (hb : Below w0.heap.size w0 wA) (hu : wA.ownsRow w0.heap.size 35 3 u g.length (cellsF g)) (hB : B ≤ w0.heap.size)
    (hown : w2.ownsRow B 80 1 v' (G.length + 1) (vs ++ [u])) (hg : wA.grownBy w2 v.ownBlock) (hloc : v'.ownBlock = v.ownBlock ∨ v'.ownBlock = some wA.heap.size) : NestF B (G ++ [g]) v' w2 := by
  have hsz := hb.size
  have hl := h.len
  have hvlt : ∀ q, v.ownBlock = some q → q < w0.heap.size := own_lt h.1
  have huge : ∀ q, u.ownBlock = some q → w0.heap.size ≤ q := own_ge hu
  have hult : ∀ q, u.ownBlock = some q → q < wA.heap.size := own_lt hu
  refine ⟨vs ++ [u], by rw [List.length_append]; exact hown, fun i hi => ?_, ?_⟩
  · by_cases hlt : i < G.length
    · obtain ⟨x, h1, h2, h3⟩ := h.2.1 i hlt
      refine ⟨x, by rw [List.getElem?_append_left (by omega)]; exact h1, ?_, fun q hq => ?_⟩
      · rw [List.getElem_append_left hlt]
        exact (own_call hb h2).kept hg (keep_of h3)
      · rcases hloc with e | e
        · rw [e]; exact h3 q hq
        · rw [e]; intro he; injection he with he; have := own_lt h2 q hq; omega
    · have e : i = G.length := by rw [List.length_append, List.length_singleton] at hi; omega
      subst e
      refine ⟨u, by rw [← hl]; simp, ?_, fun q hq => ?_⟩
      · rw [List.getElem_append_right (Nat.le_refl _)]
        simp only [Nat.sub_self, List.getElem_cons_zero]
        exact own_base hB (hu.kept hg (keep_of (fun q hq he => by have := huge q hq; have := hvlt q he; omega)))
      · rcases hloc with e | e
        · rw [e]; intro he; have := huge q hq; have := hvlt q he; omega
        · rw [e]; intro he; injection he with he; have := hult q hq; omega
  · intro i j x y hij hx hy q hq he
    by_cases h1 : i < vs.length
    · rw [List.getElem?_append_left h1] at hx
      by_cases h2 : j < vs.length
      · rw [List.getElem?_append_left h2] at hy
        exact h.2.2 i j x y hij hx hy q hq he
      · have e : j = vs.length := by have := (List.getElem?_eq_some_iff.1 hy).1; rw [List.length_append, List.length_singleton] at this; omega
        subst e
        have e2 : u = y := by simpa using hy
        subst e2
        have := (h.row_lt hx q hq).1
        have := huge q he
        omega
    · have e : i = vs.length := by have := (List.getElem?_eq_some_iff.1 hx).1; rw [List.length_append, List.length_singleton] at this; omega
      subst e
      have e2 : u = x := by simpa using hx
      subst e2
      have h2 : j < vs.length := by have := (List.getElem?_eq_some_iff.1 hy).1; rw [List.length_append, List.length_singleton] at this; omega
      rw [List.getElem?_append_left h2] at hy
      have := (h.row_lt hy q he).1
      have := huge q hq
      omega
end Go.Proofs.Ytbecjnmifdbnjaa
