/- Parts U9 U10 V1 V2 V3 laid together by tp.py. -/
import Derived.Test.YtdhennlanngjgaaU6
import Derived.Test.YtdhennlanngjgaaU8
namespace Go.Proofs.Ytdhennlanngjgaa
section
open Go.RowKit

end

section
open Go.RowKit

end

section
open Go.RowKit

/-- f0 is a form of the class of the reduced form f. -/
structure CF (d : Int) (f0 f : Fm) : Prop where
  D : Dsc d
  df : Def M0 f0
  rd : red f0 = f
  mem : f ∈ clsL d
  dc : disc f0 = d
  b1 : Far (f0.b * f0.b)
  b2 : Far (4 * f0.a)
  b3 : Far (4 * f0.a * f0.c)
theorem cls_def0 {d : Int} {f : Fm} (D : Dsc d) (hf : f ∈ clsL d) : Def M0 f := by
  obtain ⟨⟨f1, f2, f3, f4, f5, f6, f7⟩, _⟩ := mem_clsL D.lo hf
  have := (isRed_iff _ _ _).1 f4
  have hd := D.hi
  have e : 4 * f.a * f.c = 4 * (f.a * f.c) := Int.mul_assoc _ _ _
  unfold M0 disc at *
  exact ⟨by omega, by omega, by omega, by omega, by omega⟩
theorem CF.of_mem {d : Int} {f : Fm} (D : Dsc d) (hf : f ∈ clsL d) : CF d f f := by
  obtain ⟨⟨a1, a2⟩, ⟨b1, b2⟩, ⟨c1, c2⟩⟩ := cls_bd D.lo hf
  obtain ⟨⟨_, _, f3, f4, _⟩, _⟩ := mem_clsL D.lo hf
  have k1 := mul_bd b1 b2 b1 b2
  have k2 := mul_bd (a := 4 * f.a) (x := f.c) (A := 104) (X := 1000) (by omega) (by omega) (by omega) (by omega)
  exact ⟨D, cls_def0 D hf, red_of f4, hf, f3, ⟨by omega, by omega⟩, ⟨by omega, by omega⟩, ⟨by omega, by omega⟩⟩
theorem disc_mod (f : Fm) : disc f % 4 = 0 ∨ disc f % 4 = 1 := by
  unfold disc
  have e : 4 * f.a * f.c = 4 * (f.a * f.c) := Int.mul_assoc _ _ _
  rw [e]
  generalize f.a * f.c = m
  have h := Int.emod_add_mul_ediv f.b 2
  rcases Int.emod_two_eq f.b with h1 | h1
  · rw [h1] at h
    generalize f.b / 2 = q at h
    have : f.b * f.b = 4 * (q * q) := by rw [← h]; grind
    omega
  · rw [h1] at h
    generalize f.b / 2 = q at h
    have : f.b * f.b = 4 * (q * q + q) + 1 := by rw [← h]; grind
    omega
theorem CF.of_cls {a b c : Int} (h : isCls a b c = true) : CF (disc ⟨a, b, c⟩) ⟨a, b, c⟩ (red ⟨a, b, c⟩) := by
  obtain ⟨hd, ⟨h1, h2⟩, hp⟩ := cls_def h
  have hf : isFm a b c = true := by
    unfold isCls isShown isDefB at h; simp only [Bool.and_eq_true] at h; exact h.1.1.1
  obtain ⟨k1, k2, k3⟩ := fm_prods hf
  have hm := disc_mod ⟨a, b, c⟩
  have D : Dsc (disc ⟨a, b, c⟩) := ⟨h1, by omega, by omega⟩
  exact ⟨D, hd, rfl, mem_clsL_of h1 (red_def hd).a0 (red_disc hd) (red_isRed hd) (red_prm hd hp), rfl, k1, k2, k3⟩
theorem CF.one {d : Int} (D : Dsc d) : CF d (oneF d) (oneF d) := CF.of_mem D D.one

theorem fm_eq {f g : Fm} (h1 : f.a = g.a) (h2 : f.b = g.b) (h3 : f.c = g.c) : f = g := by
  cases f; cases g; simp_all
def fmEq (f g : Fm) : Bool := decide (f.a = g.a) && (decide (f.b = g.b) && decide (f.c = g.c))
theorem fmEq_iff (f g : Fm) : fmEq f g = true ↔ f = g := by
  unfold fmEq
  simp only [Bool.and_eq_true, decide_eq_true_eq]
  exact ⟨fun h => fm_eq h.1 h.2.1 h.2.2, fun h => by rw [h]; exact ⟨rfl, rfl, rfl⟩⟩
theorem fmEq_no (f g : Fm) : fmEq f g = false ↔ f ≠ g := by rw [← Bool.not_eq_true, fmEq_iff]

theorem fm_cases (f o : Fm) : (f = o ∧ fmEq f o = true) ∨ (fmEq f o = false ∧ ¬ f.a = o.a) ∨ (fmEq f o = false ∧ (f.a = o.a) = True ∧ ¬ f.b = o.b) ∨ (fmEq f o = false ∧ (f.a = o.a) = True ∧ (f.b = o.b) = True ∧ ¬ f.c = o.c) := by
  by_cases h : f = o
  · exact .inl ⟨h, (fmEq_iff f o).2 h⟩
  · have hn := (fmEq_no f o).2 h
    by_cases h1 : f.a = o.a
    · by_cases h2 : f.b = o.b
      · by_cases h3 : f.c = o.c
        · exact absurd (fm_eq h1 h2 h3) h
        · exact .inr (.inr (.inr ⟨hn, eq_true h1, eq_true h2, h3⟩))
      · exact .inr (.inr (.inl ⟨hn, eq_true h1, h2⟩))
    · exact .inr (.inl ⟨hn, h1⟩)

theorem CF.cmp {d : Int} {f g : Fm} (hf : CF d f f) (hg : CF d g g) : CF d (cmp d f g) (cmp d f g) := CF.of_mem hf.D (hf.D.cmpm hf.mem hg.mem)

end

section
open Go.RowKit

theorem ord_end {d : Int} {f p o : Fm} {N j : Nat} (hN : IsOrd d f N) (ho : oneF d = o) (h1 : 1 ≤ j) (hj : j ≤ N) (hp : pw d f j = p) (hpo : p = o) : j = N := by
  rcases Nat.lt_or_ge j N with h | h
  · exact absurd (by rw [hp, hpo, ho]) (hN.2.2 j h1 h)
  · omega
theorem ord_more {d : Int} {f p o : Fm} {N j : Nat} (hN : IsOrd d f N) (ho : oneF d = o) (hj : j ≤ N) (hp : pw d f j = p) (hpo : p ≠ o) : j < N := by
  rcases Nat.lt_or_ge j N with h | h
  · exact h
  · have : j = N := by omega
    subst this
    exact absurd (by rw [← hp, hN.2.1, ho]) hpo

end

section
open Go.RowKit

end
end Go.Proofs.Ytdhennlanngjgaa
