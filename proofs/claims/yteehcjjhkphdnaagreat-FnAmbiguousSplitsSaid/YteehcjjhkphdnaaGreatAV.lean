/- Plain facts on ambiguous splits. -/
import Derived.Test.YteehcjjhkphdnaaGreatAS
import Derived.Test.YteehcjjhkphdnaaGreatF02
import Derived.Test.YteehcjjhkphdnaaGreatG6
import Derived.Test.YteehcjjhkphdnaaGreatDW
namespace Go.Proofs.YteehcjjhkphdnaaGreat

theorem gcd_one_of {x y a b c : Int} (h : Int.gcd a (Int.gcd b c) = 1) (hg : ∀ g : Int, g ∣ x → g ∣ y → g ∣ a ∧ g ∣ b ∧ g ∣ c) : Int.gcd x y = 1 := by
  obtain ⟨h1, h2, h3⟩ := hg (Int.gcd x y : Int) (Int.gcd_dvd_left ..) (Int.gcd_dvd_right ..)
  have h4 := Int.dvd_coe_gcd h1 (Int.dvd_coe_gcd h2 h3)
  rw [h] at h4
  exact Nat.dvd_one.1 (Int.natCast_dvd_natCast.1 h4)
theorem red_oppF {h : Fm} {d : Int} (D : Dsc d) (hd : Def M0 h) (hb : h.b = 0 ∨ h.b = h.a) (hdd : disc h = d) : red (oppF h) = red h := by
  have es := sn D.md
  have hlt := D.hi
  have hfd : disc h = sD d * sD d - 4 * nD d := by omega
  have hfo : disc (oppF h) = sD d * sD d - 4 * nD d := by rw [opp_disc]; exact hfd
  have ho := opp_def hd
  have e : IF (sD d) (oppF h) = IF (sD d) h := by
    have e2 := hF_two hfd
    have e3 : IF (sD d) (oppF h) = Id h.a (sD d - hF (sD d) h) := by unfold IF; rw [opp_hF hfd]; rfl
    rw [e3]
    unfold IF
    rcases hb with hb | hb
    · rw [show sD d - hF (sD d) h = hF (sD d) h by omega]
    · rw [show sD d - hF (sD d) h = hF (sD d) h + h.a * (-1) by omega, Id.shift]
  have R := red_hom ho hfo
  have R0 := red_hom hd hfd
  rw [e] at R
  exact hom_red (by omega) ((red_disc ho).trans hfo) ((red_disc hd).trans hfd) (red_def ho).a0 (red_def hd).a0 (red_isRed ho) (red_isRed hd) (R.symm.trans R0)
theorem amb_split {h : Fm} {d : Int} (D : Dsc d) (hd : Def M0 h) (hb : h.b = 0 ∨ h.b = h.a) (hdd : disc h = d) (hp : Int.gcd h.a (Int.gcd h.b h.c) = 1) : red h ∈ clsL d ∧ ambB (red h) = true := by
  have hm : red h ∈ clsL d := mem_clsL_of D.lo (red_def hd).a0 ((red_disc hd).trans hdd) (red_isRed hd) (red_prm hd hp)
  have hlo := D.lo
  have hhi := D.hi
  have h1 := hd.a0
  have h2 : h.a ≤ 500000000 := hd.aM
  have hbb : 0 ≤ h.b * h.b ∧ h.b * h.b ≤ 500000000 * 500000000 := by
    rcases hb with hb | hb
    · rw [hb]; decide
    · rw [hb]; exact ⟨Int.mul_nonneg (by omega) (by omega), Int.mul_le_mul h2 h2 (by omega) (by omega)⟩
  have hdd2 : h.b * h.b - 4 * h.a * h.c = d := hdd
  have cf : CF d h (red h) := ⟨D, hd, rfl, hm, hdd, ⟨by omega, by omega⟩, ⟨by omega, by omega⟩, ⟨by omega, by omega⟩⟩
  refine ⟨hm, ?_⟩
  rw [← fmEq_opp D hm, ← (cf.opp0 hp).1, red_oppF D hd hb hdd]
  exact (fmEq_iff _ _).2 rfl
theorem amC_split {h : Fm} {d x y z : Int} (D : Dsc d) (hd : Def M0 h) (hb : h.b = 0 ∨ h.b = h.a) (hdd : disc h = d) (hp : Int.gcd h.a (Int.gcd h.b h.c) = 1) (e : red h = ⟨x, y, z⟩) : AmC x y z true true := by
  obtain ⟨h1, h2⟩ := amb_split D hd hb hdd hp
  have h3 := cls_isCls D h1
  have h4 := red_of (red_isRed hd)
  rw [e] at h2 h3 h4
  exact .inr ⟨h3, by rw [h4, h2], rfl⟩
theorem spl_facts {d : Int} (D : Dsc d) {f : Fm} (hf : f ∈ clsL d) (ha : ambB f = true) :
    (sp f).1 * (sp f).2 = -d ∧ 1 ≤ (sp f).1 ∧ (((sp f).2 % 4 = 0 ∧ Int.gcd (sp f).1 ((sp f).2 / 4) = 1) ∨ (((sp f).1 + (sp f).2) % 4 = 0 ∧ Int.gcd (sp f).1 (((sp f).1 + (sp f).2) / 4) = 1)) := by
  obtain ⟨⟨f1, _, f3, f4, _, _, _⟩, f8⟩ := mem_clsL D.lo hf
  obtain ⟨a, b, c⟩ := f
  have h3 := (isRed_iff _ _ _).1 f4
  have hd : b * b - 4 * a * c = d := f3
  have e4 : 4 * a * c = 4 * (a * c) := Int.mul_assoc _ _ _
  rw [e4] at hd
  simp only at f1 f8 h3
  unfold ambB isAmb at ha
  simp only [Bool.or_eq_true, decide_eq_true_eq] at ha
  unfold sp splR splS
  simp only
  by_cases hb : b = 0
  · subst hb
    simp only [if_true]
    refine ⟨?_, f1, .inl ⟨by omega, ?_⟩⟩
    · rw [show a * (4 * c) = 4 * (a * c) by grind]; omega
    · rw [show 4 * c / 4 = c by omega]
      exact gcd_one_of f8 (fun g h1 h2 => ⟨h1, Int.dvd_zero g, h2⟩)
  · rw [if_neg hb, if_neg hb]
    by_cases hab : a = b
    · subst hab
      simp only [if_true]
      refine ⟨?_, f1, .inr ⟨by omega, ?_⟩⟩
      · rw [show a * (4 * c - a) = 4 * (a * c) - a * a by grind]; omega
      · rw [show (a + (4 * c - a)) / 4 = c by omega]
        exact gcd_one_of f8 (fun g h1 h2 => ⟨h1, h1, h2⟩)
    · rw [if_neg hab, if_neg hab]
      have hac : a = c := by rcases ha with h | h | h <;> first | exact absurd h hb | exact absurd h hab | exact h
      subst hac
      refine ⟨?_, by omega, .inr ⟨by omega, ?_⟩⟩
      · rw [show (2 * a - b) * (2 * a + b) = 4 * (a * a) - b * b by grind]; omega
      · rw [show (2 * a - b + (2 * a + b)) / 4 = a by omega]
        refine gcd_one_of f8 (fun g h1 h2 => ⟨h2, ?_, h2⟩)
        have := Int.dvd_sub (Int.dvd_trans h2 (Int.dvd_mul_left 2 a)) h1
        rw [show 2 * a - (2 * a - b) = b by omega] at this
        exact this
theorem split_mem {d : Int} (hd : isDisc d = true) {p : Int × Int} (hp : p ∈ splitsL d) : ∃ f, f ∈ clsL d ∧ ambB f = true ∧ sp f = p := by
  unfold splitsL at hp
  rw [if_pos hd] at hp
  obtain ⟨f, hf, rfl⟩ := List.mem_map.1 hp
  obtain ⟨h1, h2⟩ := List.mem_filter.1 hf
  exact ⟨f, h1, h2, rfl⟩
/-- What the law asks of a split that there is. -/
structure SplRow (d r s : Int) : Prop where
  disc : isDisc d = true
  mul : r * s = -d
  mem : (r, s) ∈ splitsL d
  all : ∀ p ∈ splitsL d, p.1 * p.2 = -d ∧ 1 ≤ p.1
  len : (splitsL d).length = ((clsL d).filter ambB).length
  back : ∃ x y z, Fos d r ⟨x, y, z⟩ true ∧ AmC x y z true true
theorem spl_row {a b c r s : Int} (hc : isCls a b c = true) (e1 : splR (red ⟨a, b, c⟩).a (red ⟨a, b, c⟩).b (red ⟨a, b, c⟩).c = r) (e2 : splS (red ⟨a, b, c⟩).a (red ⟨a, b, c⟩).b (red ⟨a, b, c⟩).c = s) (ha : ambB (red ⟨a, b, c⟩) = true) : SplRow (disc ⟨a, b, c⟩) r s := by
  have cf := CF.of_cls hc
  generalize disc ⟨a, b, c⟩ = d at *
  have D := cf.D
  have hm := cf.mem
  have hd := isDisc_of D
  generalize red ⟨a, b, c⟩ = f at *
  obtain ⟨m1, m2, m3⟩ := spl_facts D hm ha
  have hsp : sp f = (r, s) := by unfold sp; rw [e1, e2]
  rw [hsp] at m1 m2 m3
  simp only at m1 m2 m3
  have hs : -d / r = s := by rw [← m1, Int.mul_ediv_cancel_left _ (by omega)]
  have hmod : -d % r = 0 := by rw [← m1]; exact Int.mul_emod_right ..
  have hlo := D.lo
  have hhi := D.hi
  have hs1 : 1 ≤ s := by
    apply Int.not_lt.1; intro h
    have : r * s ≤ r * 0 := Int.mul_le_mul_of_nonneg_left (by omega) (by omega)
    omega
  have hr : r ≤ -d := by
    have : r * 1 ≤ r * s := Int.mul_le_mul_of_nonneg_left hs1 (by omega)
    omega
  refine ⟨hd, m1, ?_, ?_, ?_, ?_⟩
  · unfold splitsL; rw [if_pos hd, ← hsp]
    exact List.mem_map.2 ⟨f, List.mem_filter.2 ⟨hm, ha⟩, rfl⟩
  · intro p hp
    obtain ⟨g, g1, g2, rfl⟩ := split_mem hd hp
    obtain ⟨k1, k2, _⟩ := spl_facts D g1 g2
    exact ⟨k1, k2⟩
  · unfold splitsL; rw [if_pos hd, List.length_map]
  · by_cases h1 : s % 4 = 0 ∧ Int.gcd r (s / 4) = 1
    · obtain ⟨x, y, z, hr2⟩ := Fm.ex (red ⟨r, 0, s / 4⟩)
      have hdef := def_one hd m2 hr hmod (by rw [hs]; exact h1.1)
      rw [hs] at hdef
      refine ⟨x, y, z, .inr (.inr (.inr (.inl ⟨hd, m2, hr, hmod, by rw [hs]; exact h1.1, by rw [hs]; exact h1.2, by rw [hs]; exact hr2, rfl⟩))), amC_split D hdef (.inl rfl) ?_ ?_ hr2⟩
      · show (0 : Int) * 0 - 4 * r * (s / 4) = d
        rw [show 4 * r * (s / 4) = r * (4 * (s / 4)) by grind, show 4 * (s / 4) = s by omega]
        omega
      · show Int.gcd r (Int.gcd 0 (s / 4)) = 1
        exact gcd_one_of (x := r) (y := Int.gcd 0 (s / 4)) (a := r) (b := r) (c := s / 4) (by
          exact gcd_one_of (a := r) (b := r) (c := s / 4) (x := r) (y := Int.gcd r (s / 4)) (by
            have := h1.2
            rw [this]; simp) (fun g k1 k2 => ⟨k1, k1, Int.dvd_trans k2 (Int.gcd_dvd_right ..)⟩)) (fun g k1 k2 => ⟨k1, k1, Int.dvd_trans k2 (Int.gcd_dvd_right ..)⟩)
    · have h2 := m3.resolve_left h1
      obtain ⟨x, y, z, hr2⟩ := Fm.ex (red ⟨r, r, (r + s) / 4⟩)
      have hdef := def_two hd m2 hr hmod (by rw [hs]; exact h2.1)
      rw [hs] at hdef
      refine ⟨x, y, z, .inr (.inr (.inr (.inr (.inl ⟨hd, m2, hr, hmod, by rw [hs]; exact h1, by rw [hs]; exact h2.1, by rw [hs]; exact h2.2, by rw [hs]; exact hr2, rfl⟩)))), amC_split D hdef (.inr rfl) ?_ ?_ hr2⟩
      · show r * r - 4 * r * ((r + s) / 4) = d
        rw [show 4 * r * ((r + s) / 4) = r * (4 * ((r + s) / 4)) by grind, show 4 * ((r + s) / 4) = r + s by omega, Int.mul_add]
        omega
      · show Int.gcd r (Int.gcd r ((r + s) / 4)) = 1
        rw [h2.2]; simp
theorem dv_div {n k : Int} (h : oddB n = true) (hk : k ∈ (dvT n).foldl putI []) : 1 ≤ k ∧ k ≤ n ∧ n % k = 0 := by
  obtain ⟨h1, h2, h3⟩ := oddB_bd h
  have hm := (foldPut_ok (dvT n) [] List.Pairwise.nil).2 k |>.1 hk
  rcases hm with hm | hm
  · cases hm
  · obtain ⟨f, _, rfl⟩ := List.mem_map.1 hm
    have hd : gcF n f ∣ n := Int.gcd_dvd_left ..
    have h0 : 0 ≤ gcF n f := Int.natCast_nonneg _
    have hne : gcF n f ≠ 0 := by intro e; rw [e] at hd; have := Int.zero_dvd.1 hd; omega
    exact ⟨by omega, Int.le_of_dvd (by omega) hd, Int.emod_eq_zero_of_dvd hd⟩
end Go.Proofs.YteehcjjhkphdnaaGreat
