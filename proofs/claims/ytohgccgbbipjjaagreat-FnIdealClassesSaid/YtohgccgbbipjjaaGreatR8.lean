/- Plain facts: what the product of two ideals says of forms, norms and conjugates. -/
import Derived.Test.YtohgccgbbipjjaaGreatXA
import Derived.Test.YtohgccgbbipjjaaGreatRN
import Derived.Test.YtohgccgbbipjjaaGreatRY
import Derived.Test.YtohgccgbbipjjaaGreatMM
namespace Go.Proofs.YtohgccgbbipjjaaGreat
open Go.RowKit

theorem IdV.dsc {d e a b : Int} (h : IdV d e a b) : Dsc d := by
  have := h.dc
  unfold isDisc at this
  simp only [Bool.and_eq_true, decide_eq_true_eq] at this
  exact ⟨this.1, this.2.1, this.2.2⟩
theorem IdV.c_le {d e a b c : Int} (h : IdV d e a b) (hc : b * b - d = 4 * a * c) : 1 ≤ c ∧ c ≤ 10500 := by
  have D := h.dsc
  have h1 := h.a1; have h2 := h.a2; have h3 := h.b0; have h4 := h.b2; have d1 := D.lo; have d2 := D.hi
  have k1 : b * b ≤ (2 * a) * (2 * a) := Int.mul_le_mul (by omega) (by omega) h3 (by omega)
  have k2 : 4 * a * c - 4 * a * a ≤ 2000 := by
    have e : (2 * a) * (2 * a) = 4 * a * a := by grind
    rw [e] at k1
    omega
  have k0 : 0 ≤ b * b := Int.mul_nonneg h3 h3
  constructor
  · apply Classical.byContradiction; intro hn
    have := Int.mul_le_mul_of_nonneg_left (show c ≤ 0 by omega) (show 0 ≤ 4 * a by omega)
    omega
  · apply Classical.byContradiction; intro hn
    have h5 : 4 * a * 501 ≤ 4 * a * (c - a) := Int.mul_le_mul_of_nonneg_left (by omega) (by omega)
    have h6 : 4 * a * (c - a) = 4 * a * c - 4 * a * a := by grind
    omega
theorem num_of {x : Int} (h : -20000 ≤ x ∧ x ≤ 20000) : isNum x = true := (isNum_iff x).2 ⟨by omega, by omega⟩
theorem IdV.disc {d e a b c : Int} (_ : IdV d e a b) (hc : b * b - d = 4 * a * c) : disc ⟨a, b, c⟩ = d := by
  unfold Proofs.YtohgccgbbipjjaaGreat.disc
  show b * b - 4 * a * c = d
  omega
theorem IdV.defB {d e a b c : Int} (h : IdV d e a b) (hc : b * b - d = 4 * a * c) : isDefB a b c = true := by
  have D := h.dsc
  have h1 := h.a1; have h2 := h.a2; have h3 := h.b0; have h4 := h.b2; have d2 := D.hi
  obtain ⟨c1, c2⟩ := h.c_le hc
  unfold isDefB isFm
  rw [num_of (x := a) (by omega), num_of (x := b) (by omega), num_of (x := c) (by omega), h.disc hc]
  simp only [Bool.and_eq_true, decide_eq_true_eq]
  exact ⟨⟨trivial, trivial, trivial⟩, by omega, by omega⟩
theorem IdV.cls {d e a b c : Int} (h : IdV d e a b) (hc : b * b - d = 4 * a * c) (hp : Int.gcd a (Int.gcd b c) = 1) : isCls a b c = true := by
  unfold isCls isShown
  rw [h.defB hc, h.disc hc, hp]
  have := h.dsc.lo
  simp only [Bool.and_eq_true, decide_eq_true_eq]
  exact ⟨⟨trivial, this⟩, trivial⟩
theorem IdV.def {d e a b c : Int} (h : IdV d e a b) (hc : b * b - d = 4 * a * c) : Def M0 ⟨a, b, c⟩ := by
  have h1 := h.a1; have h2 := h.a2; have d2 := h.dsc.hi
  obtain ⟨c1, c2⟩ := h.c_le hc
  refine ⟨by show 0 < a; omega, by show a ≤ M0; unfold M0; omega, by show 0 < c; omega, by show c ≤ M0; unfold M0; omega, ?_⟩
  show b * b < 4 * (a * c)
  rw [← Int.mul_assoc]; omega
/-- The half of b and the parity. -/
theorem IdV.half {d e a b c : Int} (h : IdV d e a b) (hc : b * b - d = 4 * a * c) : 2 * ((b + sD d) / 2) = b + sD d ∧ (b + sD d) / 2 * ((b + sD d) / 2) - sD d * ((b + sD d) / 2) + nD d = a * c := by
  have hd : Proofs.YtohgccgbbipjjaaGreat.disc ⟨a, b, c⟩ = sD d * sD d - 4 * nD d := by rw [h.disc hc]; exact (sn h.dsc.md).symm
  exact ⟨hF_two hd, hF_norm hd⟩
section
variable {d e1 a b c e2 a' b' c' : Int}
theorem pd_ex (hx : IdV d e1 a b) (hy : IdV d e2 a' b') : ∃ e A p, PdR d a b a' b' e A (2 * p + sD d) ∧ HnP (sD d) (nD d) a ((b + sD d) / 2) a' ((b' + sD d) / 2) (2 * e * A) (e * (2 * p + sD d)) e ∧
    Pr (sD d) (nD d) (Id a ((b + sD d) / 2)) (Id a' ((b' + sD d) / 2)) = Sc (sD d) (nD d) ⟨e, 0⟩ (Id A (-p)) ∧ e ∣ a := by
  obtain ⟨c, hc, _⟩ := hx.form
  obtain ⟨c', hc', _⟩ := hy.form
  obtain ⟨t1, t2⟩ := hx.half hc
  obtain ⟨t3, t4⟩ := hy.half hc'
  have hs := sn hx.dsc.md
  generalize (b + sD d) / 2 = h at *
  generalize (b' + sD d) / 2 = h' at *
  generalize sD d = s at *
  generalize nD d = n at *
  have ha := hx.a1; have ha' := hy.a1; have ha2 := hx.a2
  obtain ⟨N, u, e, H⟩ := hnP_ex (s := s) (n := n) (h := h) (h' := h') (show 0 < a by omega) (show 0 < a' by omega)
  obtain ⟨A, p, p1, p2, p3, p4, p5, p6, p7⟩ := prod_ideal H t2
  rw [p1, p2] at H
  have he := H.e0
  refine ⟨e, A, p, ⟨p3, he, Int.le_trans (Int.le_of_dvd (by omega) p4) ha2, 2 * (h * h') - s * (h + h') + s * s - 2 * n, -(h + h' - s), ?_, ?_, ?_⟩, H, p7, p4⟩
  · have e1 : b = 2 * h - s := by omega
    have e3 : b' = 2 * h' - s := by omega
    rw [e1, e3, ← hs]; grind
  · omega
  · have e1 : b = 2 * h - s := by omega
    have e3 : b' = 2 * h' - s := by omega
    have := H.sp
    unfold vL at this
    unfold iL
    rw [e1, e3]; exact this
theorem id_shift {A p k : Int} : Id A (-p - A * k) = Id A (-p) := by
  funext z
  refine propext ⟨fun h => ?_, fun h => ?_⟩
  · obtain ⟨t, ht⟩ := h
    exact ⟨t + k * z.v, by grind⟩
  · obtain ⟨t, ht⟩ := h
    exact ⟨t - k * z.v, by grind⟩
theorem neg_half {A B p s H : Int} (hB : B = (-(2 * p + s)) % (2 * A)) (h2 : 2 * H = B + s) : ∃ k, H = -p - A * k := by
  have := Int.mul_ediv_add_emod (-(2 * p + s)) (2 * A)
  refine ⟨(-(2 * p + s)) / (2 * A), ?_⟩
  rw [← hB, Int.mul_assoc] at this
  omega
/-- The form of the product is in the class of the composite. -/
theorem prod_law {e A B C p : Int} {ez : Int} (hx : IdV d e1 a b) (hy : IdV d e2 a' b') (hc : b * b - d = 4 * a * c) (hc' : b' * b' - d = 4 * a' * c') (hp : Int.gcd a (Int.gcd b c) = 1) (hq : Int.gcd a' (Int.gcd b' c') = 1)
    (hpr : Pr (sD d) (nD d) (Id a ((b + sD d) / 2)) (Id a' ((b' + sD d) / 2)) = Sc (sD d) (nD d) ⟨e, 0⟩ (Id A (-p))) (he : 0 < e) (hz : IdV d ez A B) (hB : B = (-(2 * p + sD d)) % (2 * A)) (hC : B * B - d = 4 * A * C) :
    red ⟨A, B, C⟩ = cmp d (red ⟨a, b, c⟩) (red ⟨a', b', c'⟩) := by
  have D := hx.dsc
  have es := sn D.md
  have cf := CF.of_cls (hx.cls hc hp)
  have cg := CF.of_cls (hy.cls hc' hq)
  rw [hx.disc hc] at cf
  rw [hy.disc hc'] at cg
  have df := hx.def hc
  have dg := hy.def hc'
  have dz := hz.def hC
  have ef := hx.disc hc
  have eg := hy.disc hc'
  have ez' := hz.disc hC
  obtain ⟨k, hk⟩ := neg_half hB (hz.half hC).1
  have hI : IF (sD d) ⟨A, B, C⟩ = Id A (-p) := by
    show Id A ((B + sD d) / 2) = Id A (-p)
    rw [hk]; exact id_shift
  have h1 : Hom (sD d) (nD d) (Pr (sD d) (nD d) (IF (sD d) ⟨a, b, c⟩) (IF (sD d) ⟨a', b', c'⟩)) (IF (sD d) ⟨A, B, C⟩) := by
    rw [hI]
    show Hom (sD d) (nD d) (Pr (sD d) (nD d) (Id a ((b + sD d) / 2)) (Id a' ((b' + sD d) / 2))) (Id A (-p))
    rw [hpr]
    refine Hom.sc ?_
    have : 0 < e * e := Int.mul_pos he he
    simp only [eN, Int.mul_zero, Int.add_zero]
    omega
  obtain ⟨rm, rh⟩ := cmp_is D.lo D.hi D.md cf.mem cg.mem
  have h2 := red_hom (s := sD d) (n := nD d) df (by rw [ef, es])
  have h3 := red_hom (s := sD d) (n := nD d) dg (by rw [eg, es])
  have h4 := red_hom (s := sD d) (n := nD d) dz (by rw [ez', es])
  obtain ⟨⟨q1, _, q3, q4, _⟩, _⟩ := mem_clsL D.lo rm
  refine hom_red (s := sD d) (n := nD d) (by rw [es]; have := D.hi; omega) ?_ (by rw [q3, es]) (red_def dz).a0 (by omega) (red_isRed dz) q4 ?_
  · rw [red_disc dz, ez', es]
  · exact (h4.symm.trans h1.symm).trans ((Hom.pr2 h2 h3).trans rh)
end
end Go.Proofs.YtohgccgbbipjjaaGreat
