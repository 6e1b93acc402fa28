/- Plain facts and a contract: the shortest points, of the reference (written by gen_HW.py). -/
import Derived.Test.YtblcmkhkbgikoaaGreatHV
import Derived.Test.YtblcmkhkbgikoaaGreatHR
import Derived.Test.YtblcmkhkbgikoaaGreatRY
namespace Go.Proofs.YtblcmkhkbgikoaaGreat
open Go.RowKit

theorem laDef {f : Fm} {A B D : Int} (h : laA f A B D = true) : Def 1000000 (laF f A B D) ∧ LaV A B D ∧ isFm f.a f.b f.c = true := by
  unfold laA at h
  simp only [Bool.and_eq_true] at h
  obtain ⟨h1, h2, h3⟩ := h
  have V := laB_iff.1 h2
  have hf := defB_fm h1
  obtain ⟨⟨g1, g2⟩, ⟨g3, g4⟩, ⟨g5, g6⟩⟩ := isFm_bd h3
  unfold isDefB at h1
  simp only [Bool.and_eq_true, decide_eq_true_eq] at h1
  obtain ⟨_, hd, ha⟩ := h1
  have va := V.a1; have vd := V.d1
  have ea : (laF f A B D).a = f.a * (A * A) := by show atF f.a f.b f.c A 0 = _; unfold atF; grind
  have hAA : 0 < A * A := Int.mul_pos (by omega) (by omega)
  have a0 : 0 < (laF f A B D).a := by rw [ea]; exact Int.mul_pos ha hAA
  have ed : (laF f A B D).b * (laF f A B D).b - 4 * ((laF f A B D).a * (laF f A B D).c) = (f.b * f.b - 4 * f.a * f.c) * ((A * D) * (A * D)) := by
    show polF f.a f.b f.c A 0 B D * polF f.a f.b f.c A 0 B D - 4 * (atF f.a f.b f.c A 0 * atF f.a f.b f.c B D) = _
    unfold polF atF; grind
  have hAD : 0 < (A * D) * (A * D) := Int.mul_pos (Int.mul_pos (by omega) (by omega)) (Int.mul_pos (by omega) (by omega))
  have hd' : f.b * f.b - 4 * f.a * f.c < 0 := hd
  have hneg : (f.b * f.b - 4 * f.a * f.c) * ((A * D) * (A * D)) < 0 := Int.mul_neg_of_neg_of_pos hd' hAD
  generalize laF f A B D = g at *
  have hb := sqn g.b
  have c0 : 0 < g.c := by
    apply Int.not_le.1
    intro hc
    have := Int.mul_le_mul_of_nonneg_left hc (show 0 ≤ g.a by omega)
    omega
  exact ⟨⟨a0, g2, c0, g6, by omega⟩, V, hf⟩
/-- What is said of the shortest points. -/
structure SpV (f : Fm) (A B D : Int) (r : Fm) (m : M4) : Prop where
  hr : r = red (laF f A B D)
  hm : m = redM (laF f A B D) M4.one
  ra : 1 ≤ r.a ∧ r.a ≤ 1000000
  rb : -r.a ≤ r.b ∧ r.b ≤ r.a
  rc : r.a ≤ r.c ∧ r.c ≤ 1000000
  mb : (-1200 ≤ m.p ∧ m.p ≤ 1200) ∧ (-1200 ≤ m.q ∧ m.q ≤ 1200) ∧ (-1200 ≤ m.r ∧ m.r ≤ 1200) ∧ (-1200 ≤ m.s ∧ m.s ≤ 1200)
  det : m.p * m.s - m.q * m.r = 1
theorem spV_of {f : Fm} {A B D : Int} (h : laA f A B D = true) : SpV f A B D (red (laF f A B D)) (redM (laF f A B D) M4.one) := by
  obtain ⟨hD, _, _⟩ := laDef h
  have h1 := red_isRed hD
  have h2 := red_def hD
  have h3 := redM_bd hD
  have h4 := (redM_act (def_mono hD (by decide))).2
  rw [isRed_iff] at h1
  have a0 := h2.a0; have aM := h2.aM; have cM := h2.cM
  exact ⟨rfl, rfl, ⟨by omega, aM⟩, ⟨by omega, by omega⟩, ⟨by omega, cM⟩, h3, h4⟩
/-- The points that are found among the first k of the box. -/
def bxL (r : Fm) (k : Nat) : List (Int × Int) := (box9.take k).filter fun p => decide (r.a * p.1 * p.1 + r.b * p.1 * p.2 + r.c * p.2 * p.2 = r.a)
/-- A list of them, in order. -/
def BxS (r : Fm) (m : M4) (A B D : Int) (k : Nat) (L : List (Int × Int)) : Prop := Srt L ∧ ∀ q, q ∈ L ↔ ∃ p ∈ bxL r k, q = laPt m A B D p
theorem bxS_zero (r : Fm) (m : M4) (A B D : Int) : BxS r m A B D 0 [] := ⟨List.Pairwise.nil, fun q => by simp [bxL]⟩
theorem bxL_next (r : Fm) {k : Nat} (h : k < box9.length) : bxL r (k + 1) = bxL r k ++ (if r.a * box9[k].1 * box9[k].1 + r.b * box9[k].1 * box9[k].2 + r.c * box9[k].2 * box9[k].2 = r.a then [box9[k]] else []) := by
  unfold bxL
  rw [List.take_succ_eq_append_getElem h, List.filter_append]
  congr 1
  simp only [List.filter_cons, List.filter_nil, decide_eq_true_eq]
theorem box9_new {k : Nat} (h : k < box9.length) (r : Fm) : box9[k] ∉ bxL r k := by
  unfold bxL
  intro hm
  have hm := (List.mem_filter.1 hm).1
  obtain ⟨j, hj, e⟩ := List.getElem_of_mem hm
  rw [List.length_take] at hj
  rw [List.getElem_take] at e
  have hnd : box9.Nodup := by decide
  have := (List.getElem_inj hnd).1 e
  omega
theorem bxS_no {r : Fm} {m : M4} {A B D : Int} {k : Nat} {L : List (Int × Int)} (h : BxS r m A B D k L) (hk : k < box9.length) (hv : ¬ r.a * box9[k].1 * box9[k].1 + r.b * box9[k].1 * box9[k].2 + r.c * box9[k].2 * box9[k].2 = r.a) : BxS r m A B D (k + 1) L := by
  refine ⟨h.1, fun q => ?_⟩
  rw [bxL_next r hk, if_neg hv, List.append_nil]
  exact h.2 q
theorem bxS_yes {r : Fm} {m : M4} {A B D : Int} {k i : Nat} {L : List (Int × Int)} (h : BxS r m A B D k L) (hm : m.p * m.s - m.q * m.r = 1) (hA : A ≠ 0) (hD : D ≠ 0) (hk : k < box9.length) (hv : r.a * box9[k].1 * box9[k].1 + r.b * box9[k].1 * box9[k].2 + r.c * box9[k].2 * box9[k].2 = r.a)
    (hi : i ≤ L.length) (hp : PosP L (laPt m A B D box9[k]) i) : BxS r m A B D (k + 1) (insP L (laPt m A B D box9[k]) i) := by
  have hn : laPt m A B D box9[k] ∉ L := by
    intro hx
    obtain ⟨p, hp1, hp2⟩ := (h.2 _).1 hx
    have := laPt_inj hm hA hD hp2
    exact box9_new hk r (by rw [this]; exact hp1)
  refine ⟨srt_ins h.1 hi hp hn, fun q => ?_⟩
  rw [ins_mem, h.2 q, bxL_next r hk, if_pos hv]
  constructor
  · rintro (rfl | ⟨p, hp1, hp2⟩)
    · exact ⟨_, List.mem_append.2 (.inr (by simp)), rfl⟩
    · exact ⟨p, List.mem_append.2 (.inl hp1), hp2⟩
  · rintro ⟨p, hp1, hp2⟩
    rcases List.mem_append.1 hp1 with h1 | h1
    · exact .inr ⟨p, h1, hp2⟩
    · simp only [List.mem_singleton] at h1
      subst h1
      exact .inl hp2
theorem bxL_all (r : Fm) : bxL r 9 = shL r.a r.b r.c := rfl
theorem bxL_len (r : Fm) (k : Nat) : (bxL r k).length ≤ 9 := Nat.le_trans (List.length_filter_le _ _) (by rw [List.length_take]; exact Nat.min_le_right _ _)
end Go.Proofs.YtblcmkhkbgikoaaGreat
