/- Plain facts: the lists of shortest points of both sides, in order. -/
import Derived.Test.YtblcmkhkbgikoaaGreatHT
import Derived.Test.YtblcmkhkbgikoaaGreatOE
namespace Go.Proofs.YtblcmkhkbgikoaaGreat
open Go.RowKit

theorem pts_mem {a b c e : Int} (ha : 0 < a) (hb : -a ≤ b ∧ b ≤ a) (hac : a ≤ c) (he : 4 * a * c - b * b = e) (p : Int × Int) : p ∈ ptsK (-e) b c a 1 3 ↔ p ∈ shL a b c := by
  rw [shL_mem ha hb hac]
  have hd : b * b - 4 * a * c = -e := by omega
  unfold ptsK
  rw [List.mem_flatMap]
  obtain ⟨x, y⟩ := p
  constructor
  · rintro ⟨i, _, h⟩
    obtain ⟨hx, hv⟩ := (ptAt_mem (by omega) hd x y).1 h
    rw [← hx] at hv
    exact hv
  · intro h
    obtain ⟨h1, _⟩ := least_box ha hb hac h
    refine ⟨(x + 1).toNat, List.mem_range.2 (by omega), ?_⟩
    rw [show -1 + ((x + 1).toNat : Int) = x by omega]
    exact (ptAt_mem (by omega) hd x y).2 ⟨rfl, h⟩
theorem pts_nd {a b c e : Int} (hc : 0 < c) (he : 4 * a * c - b * b = e) : (ptsK (-e) b c a 1 3).Nodup := by
  have hd : b * b - 4 * a * c = -e := by omega
  unfold ptsK
  refine flat_nd _ (fun p => (p.1 + 1).toNat) _ (fun i _ => ptAt_nd) (fun i p hp => ?_)
  obtain ⟨hx, _⟩ := (ptAt_mem hc hd p.1 p.2).1 hp
  rw [hx]
  omega
/-- The point of a lattice that belongs to a point of the reduced form. -/
def laPt (m : M4) (A B D : Int) (p : Int × Int) : Int × Int := ((m.p * p.1 + m.q * p.2) * A + (m.r * p.1 + m.s * p.2) * B, (m.r * p.1 + m.s * p.2) * D)
theorem laPt_inj {m : M4} {A B D : Int} (hm : m.p * m.s - m.q * m.r = 1) (hA : A ≠ 0) (hD : D ≠ 0) {p q : Int × Int} (h : laPt m A B D p = laPt m A B D q) : p = q := by
  obtain ⟨x, y⟩ := p
  obtain ⟨u, v⟩ := q
  unfold laPt at h
  simp only [Prod.mk.injEq] at h
  obtain ⟨h1, h2⟩ := h
  have e2 := Int.eq_of_mul_eq_mul_right hD h2
  rw [e2] at h1
  have e1 : m.p * x + m.q * y = m.p * u + m.q * v := Int.eq_of_mul_eq_mul_right hA (by omega)
  have k1 : (m.p * m.s - m.q * m.r) * x = (m.p * m.s - m.q * m.r) * u := by
    have l1 : (m.p * m.s - m.q * m.r) * x = m.s * (m.p * x + m.q * y) - m.q * (m.r * x + m.s * y) := by grind
    have l2 : (m.p * m.s - m.q * m.r) * u = m.s * (m.p * u + m.q * v) - m.q * (m.r * u + m.s * v) := by grind
    rw [l1, l2, e1, e2]
  have k2 : (m.p * m.s - m.q * m.r) * y = (m.p * m.s - m.q * m.r) * v := by
    have l1 : (m.p * m.s - m.q * m.r) * y = m.p * (m.r * x + m.s * y) - m.r * (m.p * x + m.q * y) := by grind
    have l2 : (m.p * m.s - m.q * m.r) * v = m.p * (m.r * u + m.s * v) - m.r * (m.p * u + m.q * v) := by grind
    rw [l1, l2, e1, e2]
  rw [hm] at k1 k2
  rw [show x = u by omega, show y = v by omega]
/-- A list in order. -/
def Srt (L : List (Int × Int)) : Prop := L.Pairwise fun p q => ltP p q = true
theorem srt_get {L : List (Int × Int)} (h : Srt L) {i j : Nat} (hi : i < L.length) (hj : j < L.length) (hij : i < j) : ltP L[i] L[j] = true := List.pairwise_iff_getElem.1 h i j hi hj hij
/-- A sorted insertion of a new point. -/
theorem srt_ins {L : List (Int × Int)} {p : Int × Int} {k : Nat} (h : Srt L) (hk : k ≤ L.length) (hp : PosP L p k) (hn : p ∉ L) : Srt (insP L p k) := by
  unfold insP Srt
  have hrest : ∀ x ∈ L.drop k, ltP p x = true := by
    intro x hx
    obtain ⟨j, hj, rfl⟩ := List.getElem_of_mem hx
    rw [List.length_drop] at hj
    rw [List.getElem_drop]
    have h0 : k < L.length := by omega
    have f0 := hp.2 h0
    have f1 : ltP p L[k] = true := by
      cases hc : ltP p L[k] with
      | true => rfl
      | false => exact absurd (by rw [ltP_tot hc f0]; exact List.getElem_mem h0) hn
    by_cases e : j = 0
    · subst e; exact f1
    · exact ltP_tr f1 (srt_get h h0 (show k + j < L.length by omega) (by omega))
  have hfirst : ∀ x ∈ L.take k, ltP x p = true := by
    intro x hx
    obtain ⟨j, hj, rfl⟩ := List.getElem_of_mem hx
    rw [List.length_take] at hj
    rw [List.getElem_take]
    exact hp.1 j (by omega) (by omega)
  rw [List.pairwise_append]
  refine ⟨List.Pairwise.sublist (List.take_sublist _ _) h, ?_, ?_⟩
  · rw [List.pairwise_cons]
    exact ⟨hrest, List.Pairwise.sublist (List.drop_sublist _ _) h⟩
  · intro x hx y hy
    rw [List.mem_cons] at hy
    rcases hy with rfl | hy
    · exact hfirst x hx
    · exact ltP_tr (hfirst x hx) (hrest y hy)
theorem ins_mem {L : List (Int × Int)} {p q : Int × Int} {k : Nat} : q ∈ insP L p k ↔ q = p ∨ q ∈ L := by
  rw [(insP_perm L p k).mem_iff, List.mem_cons]
end Go.Proofs.YtblcmkhkbgikoaaGreat
