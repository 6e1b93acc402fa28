/- Parts D6 D7 D8 laid together by tp.py. -/
import Derived.Test.YtdhennlanngjgaaDY
import Derived.Test.YtdhennlanngjgaaCA
import Derived.Deep.DeepCutAuto
namespace Go.Proofs.Ytdhennlanngjgaa
section
open Go.RowKit

/-- A value of a form, as Go reckons it. -/
def atW (a b c x y : Int) : Int := wrap64 (wrap64 (wrap64 (wrap64 (a * x) * x) + wrap64 (wrap64 (b * x) * y)) + wrap64 (wrap64 (c * y) * y))
def polW (a b c x y u v : Int) : Int := wrap64 (wrap64 (wrap64 (wrap64 (wrap64 (2 * a) * x) * u) + wrap64 (b * wrap64 (wrap64 (x * v) + wrap64 (y * u)))) + wrap64 (wrap64 (wrap64 (2 * c) * y) * v))
section
variable {zs : List Int} {v : Value} {B G n m : Nat} {w0 w w1 w2 : World}
end
end

section
open Go.RowKit

theorem dsc_D7 {d : Int} (h : isDisc d = true) : Dsc d := by
  unfold isDisc at h
  simp only [Bool.and_eq_true, decide_eq_true_eq] at h
  exact ⟨h.1, h.2.1, h.2.2⟩
theorem grown_calm {G : Nat} {W v1 : World} (h : W.grownBy v1 (some G)) : (∀ b o, b < W.heap.size → ¬ b = G → v1.cell? ⟨b, o, none⟩ = W.cell? ⟨b, o, none⟩) ∧ (∀ b o, b < W.heap.size → ¬ b = G → v1.frozen? ⟨b, o, none⟩ = W.frozen? ⟨b, o, none⟩) := by
  have k : ∀ b, b < W.heap.size → ¬ b = G → v1.heap[b]? = W.heap[b]? := fun b hb hn => h.block b hb (fun e => hn (by injection e with e))
  refine ⟨fun b o hb hn => ?_, fun b o hb hn => ?_⟩
  · simp only [World.cell?, k b hb hn]
  · simp only [World.frozen?, k b hb hn]
section
variable {zs : List Int} {v : Value} {B G n m : Nat} {w0 w w1 w2 : World}
end
end

section
open Go.RowKit

section
variable {zs : List Int} {v : Value} {B G n m : Nat} {w0 w w1 w2 : World}
theorem more_f {zs : List Int} {v : Value} {B G n m : Nat} {w0 w w' : World} {e : Ending} (hm : n ≤ m) (h : ∃ f : Fm, e = .returned (.agg #[.int .i64 f.a, .int .i64 f.b, .int .i64 f.c]) ∧ True ∧ Drw zs v B G n w0 w' ∧ w.grownBy w' (some G)) :
    ∃ f : Fm, e = .returned (.agg #[.int .i64 f.a, .int .i64 f.b, .int .i64 f.c]) ∧ True ∧ Drw zs v B G m w0 w' ∧ w.grownBy w' (some G) := by
  obtain ⟨f, h1, h2, h3, h4⟩ := h
  exact ⟨f, h1, h2, h3.more hm, h4⟩
end
end
end Go.Proofs.Ytdhennlanngjgaa
