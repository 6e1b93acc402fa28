/- Contracts: the neighbours of a class, of both sides. -/
import Derived.Test.YtcijjnjgifoipaaHB
import Derived.Deep.RegionLaw
namespace Go.Proofs.Ytcijjnjgifoipaa
open Go.RowKit

/-- Whether the content of g is p. -/
def coB (p : Int) (g : Fm) : Bool := ((Int.gcd g.a (Int.gcd g.b g.c) : Int) == p)
def dvF (p : Int) (g : Fm) : Fm := ⟨g.a / p, g.b / p, g.c / p⟩
/-- The neighbours. -/
def nbL (f : Fm) (p : Int) : List Fm := (((mxA p).map (actX f)).filter (coB p)).map fun g => red (dvF p g)
theorem gcd3 (p x y z : Int) : Int.gcd (p * x) (Int.gcd (p * y) (p * z)) = p.natAbs * Int.gcd x (Int.gcd y z) := by
  rw [Int.gcd_mul_left, Int.natCast_mul]
  have e : ((p.natAbs : Nat) : Int) = p ∨ ((p.natAbs : Nat) : Int) = -p := by omega
  rcases e with e | e
  · rw [e, Int.gcd_mul_left]
  · rw [e, Int.neg_mul, Int.gcd_neg, Int.gcd_mul_left]
theorem act_disc1 (a b c j p : Int) : disc ⟨atF a b c 1 j, polF a b c 1 j 0 p, atF a b c 0 p⟩ = p * p * (b * b - 4 * a * c) := by unfold disc atF polF; simp only; grind
theorem act_disc2 (a b c p : Int) : disc ⟨atF a b c p 0, polF a b c p 0 0 1, atF a b c 0 1⟩ = p * p * (b * b - 4 * a * c) := by unfold disc atF polF; simp only; grind
theorem act_disc {f : Fm} {p : Int} {m : Mx} (hm : m ∈ mxA p) : disc (actX f m) = p * p * disc f := by
  unfold mxA mxL at hm
  rw [List.mem_append, List.mem_map] at hm
  rcases hm with ⟨j, _, rfl⟩ | hm
  · exact act_disc1 f.a f.b f.c j p
  · simp at hm
    subst hm
    exact act_disc2 f.a f.b f.c p
theorem act_pos {f : Fm} {p : Int} {m : Mx} (hp : 2 ≤ p) (ha : 0 < f.a) (hd : disc f < 0) (hm : m ∈ mxA p) : 0 < (actX f m).a := by
  unfold mxA mxL at hm
  rw [List.mem_append, List.mem_map] at hm
  rcases hm with ⟨j, _, rfl⟩ | hm
  · show 0 < atF f.a f.b f.c 1 j
    have e : 4 * f.a * atF f.a f.b f.c 1 j = (2 * f.a + f.b * j) * (2 * f.a + f.b * j) - disc f * ((j : Int) * j) := by unfold atF disc; grind
    have h1 : 0 ≤ (2 * f.a + f.b * j) * (2 * f.a + f.b * j) := sq_nonneg _
    have h2 : 0 ≤ (j : Int) * j := sq_nonneg _
    apply Int.not_le.1
    intro hl
    have h3 : 4 * f.a * atF f.a f.b f.c 1 j ≤ 0 := Int.mul_nonpos_of_nonneg_of_nonpos (by omega) hl
    have h4 : 0 ≤ -disc f * ((j : Int) * j) := Int.mul_nonneg (by omega) h2
    rw [Int.neg_mul] at h4
    have h5 : (2 * f.a + f.b * j) * (2 * f.a + f.b * j) = 0 := by omega
    have h6 : disc f * ((j : Int) * j) = 0 := by omega
    rcases Int.mul_eq_zero.1 h6 with h7 | h7
    · omega
    · have h8 : (j : Int) = 0 := by rcases Int.mul_eq_zero.1 h7 with h | h <;> exact h
      rw [h8, Int.mul_zero, Int.add_zero] at h5
      have : 0 < 2 * f.a * (2 * f.a) := Int.mul_pos (by omega) (by omega)
      omega
  · simp at hm
    subst hm
    show 0 < atF f.a f.b f.c p 0
    have e : atF f.a f.b f.c p 0 = f.a * (p * p) := by unfold atF; grind
    rw [e]
    exact Int.mul_pos ha (Int.mul_pos (by omega) (by omega))
theorem act_bd {f : Fm} {m : Mx} (hf : SmF f) (hm : SmX m) : (-3000000 ≤ (actX f m).a ∧ (actX f m).a ≤ 3000000) ∧ (-6000000 ≤ (actX f m).b ∧ (actX f m).b ≤ 6000000) ∧ (-3000000 ≤ (actX f m).c ∧ (actX f m).c ≤ 3000000) := by
  obtain ⟨⟨a1, a2⟩, ⟨b1, b2⟩, ⟨c1, c2⟩⟩ := hf
  obtain ⟨⟨p1, p2⟩, ⟨q1, q2⟩, ⟨r1, r2⟩, ⟨s1, s2⟩⟩ := hm
  have at_bd : ∀ x y : Int, 0 ≤ x → x ≤ 50 → 0 ≤ y → y ≤ 50 → -3000000 ≤ atF f.a f.b f.c x y ∧ atF f.a f.b f.c x y ≤ 3000000 := by
    intro x y x1 x2 y1 y2
    have k1 := mul_bd (a := f.a) (x := x) (A := 26) (X := 50) (by omega) (by omega) (by omega) (by omega)
    have k2 := mul_bd (a := f.a * x) (x := x) (A := 1300) (X := 50) (by omega) (by omega) (by omega) (by omega)
    have k3 := mul_bd (a := f.b) (x := x) (A := 26) (X := 50) (by omega) (by omega) (by omega) (by omega)
    have k4 := mul_bd (a := f.b * x) (x := y) (A := 1300) (X := 50) (by omega) (by omega) (by omega) (by omega)
    have k5 := mul_bd (a := f.c) (x := y) (A := 1000) (X := 50) (by omega) (by omega) (by omega) (by omega)
    have k6 := mul_bd (a := f.c * y) (x := y) (A := 50000) (X := 50) (by omega) (by omega) (by omega) (by omega)
    unfold atF
    omega
  have k1 := mul_bd (a := 2 * f.a) (x := m.p) (A := 52) (X := 50) (by omega) (by omega) (by omega) (by omega)
  have k2 := mul_bd (a := 2 * f.a * m.p) (x := m.q) (A := 2600) (X := 50) (by omega) (by omega) (by omega) (by omega)
  have k3 := mul_bd (a := m.p) (x := m.s) (A := 50) (X := 50) (by omega) (by omega) (by omega) (by omega)
  have k4 := mul_bd (a := m.r) (x := m.q) (A := 50) (X := 50) (by omega) (by omega) (by omega) (by omega)
  have k5 := mul_bd (a := f.b) (x := m.p * m.s + m.r * m.q) (A := 26) (X := 5000) (by omega) (by omega) (by omega) (by omega)
  have k6 := mul_bd (a := 2 * f.c) (x := m.r) (A := 2000) (X := 50) (by omega) (by omega) (by omega) (by omega)
  have k7 := mul_bd (a := 2 * f.c * m.r) (x := m.s) (A := 100000) (X := 50) (by omega) (by omega) (by omega) (by omega)
  refine ⟨at_bd m.p m.r p1 p2 r1 r2, ?_, at_bd m.q m.s q1 q2 s1 s2⟩
  show -6000000 ≤ polF f.a f.b f.c m.p m.r m.q m.s ∧ polF f.a f.b f.c m.p m.r m.q m.s ≤ 6000000
  unfold polF
  omega
/-- What the loops ask of a form whose content is p. -/
structure NbG (d p : Int) (g h : Fm) : Prop where
  ea : g.a = p * h.a
  eb : g.b = p * h.b
  ec : g.c = p * h.c
  cf : CF d h (red h)
  ba : -3000000 ≤ h.a ∧ h.a ≤ 3000000
  bb : -6000000 ≤ h.b ∧ h.b ≤ 6000000
  bc : -3000000 ≤ h.c ∧ h.c ≤ 3000000
  ga : -3000000 ≤ g.a ∧ g.a ≤ 3000000
  gb : -6000000 ≤ g.b ∧ g.b ≤ 6000000
  gc : -3000000 ≤ g.c ∧ g.c ≤ 3000000
theorem div_bd {p x X : Int} (hp : 2 ≤ p) (h : -X ≤ p * x ∧ p * x ≤ X) : -X ≤ x ∧ x ≤ X := by
  obtain ⟨h1, h2⟩ := h
  constructor
  · apply Int.not_lt.1; intro hl
    by_cases hx : 0 ≤ x
    · have : x ≤ p * x := by have := Int.mul_le_mul_of_nonneg_right (show (1 : Int) ≤ p by omega) hx; omega
      omega
    · have : p * x ≤ 1 * x := Int.mul_le_mul_of_nonpos_right (by omega) (by omega)
      omega
  · apply Int.not_lt.1; intro hl
    by_cases hx : 0 ≤ x
    · have : 1 * x ≤ p * x := Int.mul_le_mul_of_nonneg_right (by omega) hx
      omega
    · have : p * x ≤ 1 * x := Int.mul_le_mul_of_nonpos_right (by omega) (by omega)
      omega
theorem nb_of {d p : Int} {f : Fm} {m : Mx} (D : Dsc d) (hf : f ∈ clsL d) (hp : 2 ≤ p) (hp2 : p ≤ 43) (hm : m ∈ mxA p) (hc : coB p (actX f m) = true) : NbG d p (actX f m) (dvF p (actX f m)) := by
  obtain ⟨⟨f1, _, f3, f4, _⟩, _⟩ := mem_clsL D.lo hf
  have hd := D.hi
  have hb := act_bd (smF_of D hf) (smX_of hp hp2 m hm)
  have hdc := act_disc (f := f) hm
  have hps := act_pos (f := f) hp (by omega) (by omega) hm
  have hg : (Int.gcd (actX f m).a (Int.gcd (actX f m).b (actX f m).c) : Int) = p := by unfold coB at hc; exact beq_iff_eq.1 hc
  generalize actX f m = g at *
  have d1 : p ∣ g.a := by rw [← hg]; exact Int.gcd_dvd_left ..
  have d2 : p ∣ (Int.gcd g.b g.c : Int) := by rw [← hg]; exact Int.gcd_dvd_right ..
  have d3 : p ∣ g.b := Int.dvd_trans d2 (Int.gcd_dvd_left ..)
  have d4 : p ∣ g.c := Int.dvd_trans d2 (Int.gcd_dvd_right ..)
  have ea : g.a = p * (dvF p g).a := (Int.mul_ediv_cancel' d1).symm
  have eb : g.b = p * (dvF p g).b := (Int.mul_ediv_cancel' d3).symm
  have ec : g.c = p * (dvF p g).c := (Int.mul_ediv_cancel' d4).symm
  generalize dvF p g = h at *
  have hgc : Int.gcd h.a (Int.gcd h.b h.c) = 1 := by
    rw [ea, eb, ec, gcd3] at hg
    have hpa : ((p.natAbs : Nat) : Int) = p := by omega
    rw [Int.natCast_mul, hpa] at hg
    have : p * (Int.gcd h.a (Int.gcd h.b h.c) : Int) = p * 1 := by rw [hg, Int.mul_one]
    have := Int.eq_of_mul_eq_mul_left (by omega) this
    omega
  have hpp : 0 < p * p := Int.mul_pos (by omega) (by omega)
  have hdh : disc h = d := by
    have e : disc g = p * p * disc h := by unfold disc; rw [ea, eb, ec]; grind
    rw [e, f3] at hdc
    exact Int.eq_of_mul_eq_mul_left (by omega) hdc
  have ha : 0 < h.a := by
    apply Int.not_le.1; intro hl
    have : p * h.a ≤ p * 0 := Int.mul_le_mul_of_nonneg_left hl (by omega)
    omega
  have ba := div_bd (x := h.a) hp (by rw [← ea]; exact hb.1)
  have bb := div_bd (x := h.b) hp (by rw [← eb]; exact hb.2.1)
  have bc := div_bd (x := h.c) hp (by rw [← ec]; exact hb.2.2)
  have hs := sq_nonneg h.b
  have e4 : 4 * h.a * h.c = 4 * (h.a * h.c) := Int.mul_assoc _ _ _
  have hdd : h.b * h.b - 4 * (h.a * h.c) = d := by rw [← e4]; exact hdh
  have hc0 : 0 < h.c := by
    apply Int.not_le.1; intro hl
    have : h.a * h.c ≤ h.a * 0 := Int.mul_le_mul_of_nonneg_left hl (by omega)
    omega
  have hdef : Def M0 h := by
    unfold M0
    exact ⟨ha, by omega, hc0, by omega, by omega⟩
  have k1 := mul_bd (a := h.b) (x := h.b) (A := 6000000) (X := 6000000) (by omega) (by omega) (by omega) (by omega)
  have hl := D.lo
  refine ⟨ea, eb, ec, ⟨D, hdef, rfl, mem_clsL_of D.lo (red_def hdef).a0 ((red_disc hdef).trans hdh) (red_isRed hdef) (red_prm hdef hgc), hdh, ⟨by omega, by omega⟩, ⟨by omega, by omega⟩, ⟨by omega, by omega⟩⟩, ba, bb, bc, hb.1, hb.2.1, hb.2.2⟩
theorem nbL_mem {d p : Int} {f : Fm} (D : Dsc d) (hf : f ∈ clsL d) (hp : 2 ≤ p) (hp2 : p ≤ 43) : ∀ h ∈ nbL f p, h ∈ clsL d := by
  intro h hh
  unfold nbL at hh
  obtain ⟨g, hg, rfl⟩ := List.mem_map.1 hh
  obtain ⟨hg1, hg2⟩ := List.mem_filter.1 hg
  obtain ⟨m, hm, rfl⟩ := List.mem_map.1 hg1
  exact (nb_of D hf hp hp2 hm hg2).cf.mem
theorem nbL_len {p : Int} {f : Fm} (hp : 2 ≤ p) (hp2 : p ≤ 43) : (nbL f p).length ≤ 50 := by
  unfold nbL
  rw [List.length_map]
  refine Nat.le_trans (List.length_filter_le _ _) ?_
  rw [List.length_map]
  exact mxA_len hp hp2

def NbSt (p : Int) (S : List Fm) (B : Nat) (vs : Value) (w0 : World) (v vi : Value) (wr : World) : Prop :=
  ∃ k : Nat, vi = .int .i64 k ∧ k ≤ S.length ∧ wr.ownsRow w0.heap.size 32 3 v (((S.take k).filter (coB p)).map fun g => red (dvF p g)).length (cellsF (((S.take k).filter (coB p)).map fun g => red (dvF p g))) ∧ wr.ownsRow B 32 3 vs S.length (cellsF S) ∧ Apart v vs ∧ Below w0.heap.size w0 wr

set_option maxRecDepth 100000 in
set_option maxHeartbeats 6400000 in
theorem neighbours_any (d : Int) (f : Fm) (p : Int) (w : World) (D : Dsc d) (hfm : f ∈ clsL d) (hp : 2 ≤ p ∧ p ≤ 43) : Calls Try.prog 88 #[.agg #[.int .i64 f.a, .int .i64 f.b, .int .i64 f.c], .int .i64 p] w (RetF (nbL f p) w) := by
  obtain ⟨i0, hi, hz0, hz1, hz2⟩ := info_parts infoForm
  have hSf := Lib.hid (fun w => sublatticeForms_any f p w (smF_of D hfm) hp)
  have hNb := Lib.hid (fun g (hg : g ∈ (mxA p).map (actX f)) (hc : coB p g = true) => (show NbG d p g (dvF p g) from by
    obtain ⟨m, hm, rfl⟩ := List.mem_map.1 hg
    exact nb_of D hfm hp.1 hp.2 hm hc))
  have hBd := Lib.hid (fun g (hg : g ∈ (mxA p).map (actX f)) => (show (-3000000 ≤ g.a ∧ g.a ≤ 3000000) ∧ (-6000000 ≤ g.b ∧ g.b ≤ 6000000) ∧ (-3000000 ≤ g.c ∧ g.c ≤ 3000000) from by
    obtain ⟨m, hm, rfl⟩ := List.mem_map.1 hg
    exact act_bd (smF_of D hfm) (smX_of hp.1 hp.2 m hm)))
  have hSl : ((mxA p).map (actX f)).length ≤ 50 := by rw [List.length_map]; exact mxA_len hp.1 hp.2
  unfold nbL
  generalize (mxA p).map (actX f) = S at *
  have e5 : ¬ p = 0 := by omega
  have e6 : (p == 0) = false := by rw [beq_eq_false_iff_ne]; exact e5
  obtain ⟨p1, p2⟩ := hp
  clear D hfm
  go_enter Try.func88, Try.ntmps88
  go_wp2_with (go_at_call 121; refine (hSf.out _).mono ?_; rintro e w1 ⟨vs, rfl, hos, hb1⟩; obtain ⟨bs, cs, rfl⟩ := own_shape hos; have hz1' := hb1.size)
  obtain ⟨w0, hw0e⟩ : ∃ w0, w.alloc (.cells #[.int .i64 f.a, .int .i64 f.b, .int .i64 f.c] 32) = w0 := ⟨_, rfl⟩
  have hsz0 : w0.heap.size = w.heap.size + 1 := by rw [← hw0e]; simp
  have hbw0 : Below w.heap.size w w0 := by rw [← hw0e]; exact (by repeat (first | with_reducible exact Below.refl _ _ | with_reducible assumption | with_reducible apply Below.drew | with_reducible apply below_drewN | (with_reducible apply below_setp; (first | omega | (simp <;> omega))) | (with_reducible apply below_allocp; (first | omega | (simp <;> omega))) | (with_reducible refine below_viap (by assumption) ?_ ?_; (first | omega | (simp <;> omega)))))
  rw [hw0e] at hos hb1 hz1'
  have hs0 : w1.ownsRow w0.heap.size 32 3 (.slice (some ⟨w.heap.size + 1, 0, none⟩) 0 0) 0 [] := by rw [← hsz0]; exact own_call hb1 (own_empty (Nat.le_refl _))
  obtain ⟨B2, hB2e⟩ : ∃ B2 : Nat, B2 = (w0.alloc (.cells #[] 32)).heap.size := ⟨_, rfl⟩
  rw [← hB2e] at hos
  go_loopw [5, 13] (fun v vi wr => NbSt p S B2 (.slice bs S.length cs) w0 v vi wr) (fun _ vi _ => S.length - (intOf vi).toNat)
  case atStart => exact ⟨0, rfl, Nat.zero_le _, hs0, hos, apart_below hos (by simp [hB2e, hsz0]), (by repeat (first | with_reducible exact Below.refl _ _ | with_reducible assumption | with_reducible apply Below.drew | with_reducible apply below_drewN | (with_reducible apply below_setp; (first | omega | (simp <;> omega))) | (with_reducible apply below_allocp; (first | omega | (simp <;> omega))) | (with_reducible refine below_viap (by assumption) ?_ ?_; (first | omega | (simp <;> omega)))))⟩
  case round =>
    clear hos hb1 hz1'
    obtain ⟨k, rfl, hk, hown, hos, hap, hbel⟩ := hrel
    have hz := hbel.size
    by_cases hlt : k < S.length
    · obtain ⟨gs, rfl, ls, d1, d2, d3⟩ := own_elem hos hlt
      have hft := filter_take (p := coB p) hlt
      have hql : (((S.take k).filter (coB p)).map fun g => red (dvF p g)).length ≤ 50 := by rw [List.length_map]; exact filter_len S k hSl
      obtain ⟨⟨ga1, ga2⟩, ⟨gb1, gb2⟩, ⟨gc1, gc2⟩⟩ := hBd.out _ (List.getElem_mem hlt)
      have hN := hNb.out _ (List.getElem_mem hlt)
      generalize S[k] = g at *
      have fa : Far g.a := ⟨by omega, by omega⟩
      have fb : Far g.b := ⟨by omega, by omega⟩
      have fc : Far g.c := ⟨by omega, by omega⟩
      have hC := Lib.hid (fun w => content_any g.a g.b g.c w fa fb fc)
      have hcb : ((Int.gcd g.a (Int.gcd g.b g.c) : Int) == p) = coB p g := rfl
      obtain ⟨q, hq⟩ : ∃ q : Int, (Int.gcd g.a (Int.gcd g.b g.c) : Int) = q := ⟨_, rfl⟩
      simp only [hq] at hC hcb
      clear hq fa fb fc
      by_cases hc : coB p g = true
      · have hx : ((S.take (k + 1)).filter (coB p)).map (fun g => red (dvF p g)) = ((S.take k).filter (coB p)).map (fun g => red (dvF p g)) ++ [red (dvF p g)] := by rw [hft, if_pos hc, List.map_append]; rfl
        have hG := hN hc
        rw [hc] at hcb
        generalize ((S.take k).filter (coB p)).map (fun g => red (dvF p g)) = Q at hown hx hql
        have hRd := Lib.hid (fun w => reduced_cf d (dvF p g) (red (dvF p g)) w hG.cf)
        obtain ⟨ea, eb, ec, _, ⟨ha1, ha2⟩, ⟨hb1, hb2⟩, ⟨hc1, hc2⟩, _, _, _⟩ := hG
        have Hx := Lib.hid hx
        clear hx hft hN hc
        generalize red (dvF p g) = r at *
        generalize dvF p g = h at *
        have t1 : Int.tdiv g.a p = h.a := by rw [ea]; exact Int.mul_tdiv_cancel_left _ e5
        have t2 : Int.tdiv g.b p = h.b := by rw [eb]; exact Int.mul_tdiv_cancel_left _ e5
        have t3 : Int.tdiv g.c p = h.c := by rw [ec]; exact Int.mul_tdiv_cancel_left _ e5
        have u1 : g.a / p = h.a := by rw [ea]; exact Int.mul_ediv_cancel_left _ e5
        have u2 : g.b / p = h.b := by rw [eb]; exact Int.mul_ediv_cancel_left _ e5
        have u3' : g.c / p = h.c := by rw [ec]; exact Int.mul_ediv_cancel_left _ e5
        have w1' : IntKind.i64.wrap h.a = h.a := IntWalk.i64_in _ (by omega)
        have w2' : IntKind.i64.wrap h.b = h.b := IntWalk.i64_in _ (by omega)
        have w3' : IntKind.i64.wrap h.c = h.c := IntWalk.i64_in _ (by omega)
        clear ea eb ec
        go_wp2_with (go_at_call 122; (with_reducible refine (hC.out _).mono ?_); rintro e v1 ⟨rfl, hB1⟩; have hZ1 := hB1.size; (try simp at hZ1); (try have zl1 : w.heap.size < v1.heap.size := by omega); (try have ze1 : w.heap.size ≤ v1.heap.size := by omega); (try have zn1 : ¬ w.heap.size = v1.heap.size := by omega); (try have zm1 : ¬ v1.heap.size = w.heap.size := by omega); have hA1 : Blk v1 (wr.heap.size) 32 #[.int .i64 g.a, .int .i64 g.b, .int .i64 g.c] := Blk.call (by (repeat (first | with_reducible assumption | (with_reducible apply Blk.new_at; (first | rfl | (simp; done))) | with_reducible apply Blk.store3 | with_reducible apply Blk.store4 | (with_reducible apply Blk.farp; (first | omega | (simp <;> omega))) | with_reducible apply Blk.allocp | with_reducible apply Blk.drew | with_reducible apply Blk.drewN))) hB1; have cA1 := hA1.cell; have fA1 := hA1.frozen; have lA1 := hA1.lt; have mA1 := Nat.ne_of_gt lA1; have nA1 := Nat.ne_of_lt lA1)
        have hbr3 : Below w0.heap.size w0 v1 := below_via (hbel.alloc hz _) hB1 (by simp; omega)
        have hon3 := Lib.hid (own_call hB1 (own_alloc (o := .cells #[.int .i64 g.a, .int .i64 g.b, .int .i64 g.c] 32) hown))
        have hos3 := Lib.hid (own_call hB1 (own_alloc (o := .cells #[.int .i64 g.a, .int .i64 g.b, .int .i64 g.c] 32) hos))
        go_region_law (first
          | (refine step_append_any (v4.alloc (.cells #[.int .i64 r.a, .int .i64 r.b, .int .i64 r.c] 32)) rfl (.tmp 21) (.tmp 36) 53 rfl w0.heap.size 32 i0 _ 3 24 Try.underlying53 hi hz0 hz1 hz2 rfl (by omega) u5 Q.length (cellsF Q) rfl (own_alloc hon4) (v4.heap.size + 1) (some ⟨v4.heap.size, 0, none⟩) 1 1 [.int .i64 r.a, .int .i64 r.b, .int .i64 r.c] rfl ⟨rfl, fun _ => ⟨_, rfl, (by simp), cells3 (Blk.new _ _ _)⟩⟩ (one3 _ _ _) (by unfold maxLen; omega) (by omega) (by simp; omega) ?_; intro x2 w2 hown2 hgr2 hloc2)
          | (go_simp; go_wp2_with (go_at_call 42; (with_reducible refine (hRd.out _).mono ?_); rintro e v4 ⟨rfl, hB4⟩; have hZ4 := hB4.size; (try simp at hZ4); have hon4 := own_call hB4 (own_drew hon3.out))))
        all_goals
          have hgs := hgr2.size
          simp at hgs
          have hoN := own_snoc Hx.out hown2
          have hb4 : Below w0.heap.size w0 v4 := below_via hbr3.drew hB4 (by simp; omega)
          have hbN : Below w0.heap.size w0 w2 := below_grown (own_ge hown) (by simp; omega) hgr2 (hb4.alloc (by omega) _)
          have hsB := own_alloc (o := .cells #[.int .i64 r.a, .int .i64 r.b, .int .i64 r.c] 32) (own_call hB4 (own_drew hos3.out))
          have hs2 := hsB.kept hgr2 hap
          have hap2 := apart_next hap hsB (Nat.le_refl _) hloc2
          clear hgr2 hown2 hon3 hon4 hown
          go_wp2
          exact ⟨⟨k + 1, rfl, hlt, hoN, hs2, hap2, hbN⟩, by simp [intOf]; omega⟩
      · have hx : ((S.take (k + 1)).filter (coB p)).map (fun g => red (dvF p g)) = ((S.take k).filter (coB p)).map (fun g => red (dvF p g)) := by rw [hft, if_neg hc, List.append_nil]
        have hcf : coB p g = false := by simpa using hc
        rw [hcf] at hcb
        have Hx := Lib.hid hx
        clear hx hft hN hc hcf
        go_wp2_with (go_at_call 122; (with_reducible refine (hC.out _).mono ?_); rintro e v1 ⟨rfl, hB1⟩; have hZ1 := hB1.size; (try simp at hZ1); (try have zl1 : w.heap.size < v1.heap.size := by omega); (try have ze1 : w.heap.size ≤ v1.heap.size := by omega); (try have zn1 : ¬ w.heap.size = v1.heap.size := by omega); (try have zm1 : ¬ v1.heap.size = w.heap.size := by omega); have hA1 : Blk v1 (wr.heap.size) 32 #[.int .i64 g.a, .int .i64 g.b, .int .i64 g.c] := Blk.call (by (repeat (first | with_reducible assumption | (with_reducible apply Blk.new_at; (first | rfl | (simp; done))) | with_reducible apply Blk.store3 | with_reducible apply Blk.store4 | (with_reducible apply Blk.farp; (first | omega | (simp <;> omega))) | with_reducible apply Blk.allocp | with_reducible apply Blk.drew | with_reducible apply Blk.drewN))) hB1; have cA1 := hA1.cell; have fA1 := hA1.frozen; have lA1 := hA1.lt; have mA1 := Nat.ne_of_gt lA1; have nA1 := Nat.ne_of_lt lA1)
        have hbr3 : Below w0.heap.size w0 v1 := below_via (hbel.alloc hz _) hB1 (by simp; omega)
        have hon3 := own_call hB1 (own_alloc (o := .cells #[.int .i64 g.a, .int .i64 g.b, .int .i64 g.c] 32) hown)
        have hos3 := own_call hB1 (own_alloc (o := .cells #[.int .i64 g.a, .int .i64 g.b, .int .i64 g.c] 32) hos)
        go_roundw
        case rel => exact ⟨k + 1, rfl, hlt, by rw [Hx.out]; exact hon3, hos3, hap, hbr3⟩
        case measure => simp [intOf]; omega
    · have e : k = S.length := by omega
      have hx : (S.take k).filter (coB p) = S.filter (coB p) := by rw [e, List.take_length]
      rw [hx] at hown
      clear hx
      subst e
      go_wp2
      go_ret
      exact ⟨_, rfl, own_base (by omega) hown, below_via hbw0 hbel (by omega)⟩

set_option maxRecDepth 100000 in
set_option maxHeartbeats 6400000 in
theorem hkNeighbours_any (d : Int) (f : Fm) (p : Int) (w : World) (D : Dsc d) (hfm : f ∈ clsL d) (hp : 2 ≤ p ∧ p ≤ 43) : Calls Try.prog 86 #[.agg #[.int .i64 f.a, .int .i64 f.b, .int .i64 f.c], .int .i64 p] w (RetF (nbL f p) w) := by
  obtain ⟨i0, hi, hz0, hz1, hz2⟩ := info_parts infoForm
  have hSf := Lib.hid (fun w => hkForms_any d f p w D hfm hp)
  have hNb := Lib.hid (fun g (hg : g ∈ (mxA p).map (actX f)) (hc : coB p g = true) => (show NbG d p g (dvF p g) from by
    obtain ⟨m, hm, rfl⟩ := List.mem_map.1 hg
    exact nb_of D hfm hp.1 hp.2 hm hc))
  have hBd := Lib.hid (fun g (hg : g ∈ (mxA p).map (actX f)) => (show (-3000000 ≤ g.a ∧ g.a ≤ 3000000) ∧ (-6000000 ≤ g.b ∧ g.b ≤ 6000000) ∧ (-3000000 ≤ g.c ∧ g.c ≤ 3000000) from by
    obtain ⟨m, hm, rfl⟩ := List.mem_map.1 hg
    exact act_bd (smF_of D hfm) (smX_of hp.1 hp.2 m hm)))
  have hSl : ((mxA p).map (actX f)).length ≤ 50 := by rw [List.length_map]; exact mxA_len hp.1 hp.2
  unfold nbL
  generalize (mxA p).map (actX f) = S at *
  have e5 : ¬ p = 0 := by omega
  have e6 : (p == 0) = false := by rw [beq_eq_false_iff_ne]; exact e5
  obtain ⟨p1, p2⟩ := hp
  clear D hfm
  go_enter Try.func86, Try.ntmps86
  go_wp2_with (go_at_call 119; refine (hSf.out _).mono ?_; rintro e w1 ⟨vs, rfl, hos, hb1⟩; obtain ⟨bs, cs, rfl⟩ := own_shape hos; have hz1' := hb1.size)
  obtain ⟨w0, hw0e⟩ : ∃ w0, w.alloc (.cells #[.int .i64 f.a, .int .i64 f.b, .int .i64 f.c] 32) = w0 := ⟨_, rfl⟩
  have hsz0 : w0.heap.size = w.heap.size + 1 := by rw [← hw0e]; simp
  have hbw0 : Below w.heap.size w w0 := by rw [← hw0e]; exact (by repeat (first | with_reducible exact Below.refl _ _ | with_reducible assumption | with_reducible apply Below.drew | with_reducible apply below_drewN | (with_reducible apply below_setp; (first | omega | (simp <;> omega))) | (with_reducible apply below_allocp; (first | omega | (simp <;> omega))) | (with_reducible refine below_viap (by assumption) ?_ ?_; (first | omega | (simp <;> omega)))))
  rw [hw0e] at hos hb1 hz1'
  obtain ⟨B2, hB2e⟩ : ∃ B2 : Nat, B2 = w0.heap.size := ⟨_, rfl⟩
  rw [← hB2e] at hos
  go_loopw [5, 12] (fun v vi wr => NbSt p S B2 (.slice bs S.length cs) w0 v vi wr) (fun _ vi _ => S.length - (intOf vi).toNat)
  case atStart => exact ⟨0, rfl, Nat.zero_le _, World.ownsRow_nil _ _ _ _, hos, apart_nil, hb1⟩
  case round =>
    clear hos hb1 hz1'
    obtain ⟨k, rfl, hk, hown, hos, hap, hbel⟩ := hrel
    have hz := hbel.size
    by_cases hlt : k < S.length
    · obtain ⟨gs, rfl, ls, d1, d2, d3⟩ := own_elem hos hlt
      have hft := filter_take (p := coB p) hlt
      have hql : (((S.take k).filter (coB p)).map fun g => red (dvF p g)).length ≤ 50 := by rw [List.length_map]; exact filter_len S k hSl
      obtain ⟨⟨ga1, ga2⟩, ⟨gb1, gb2⟩, ⟨gc1, gc2⟩⟩ := hBd.out _ (List.getElem_mem hlt)
      have hN := hNb.out _ (List.getElem_mem hlt)
      generalize S[k] = g at *
      have fa : Far g.a := ⟨by omega, by omega⟩
      have fb : Far g.b := ⟨by omega, by omega⟩
      have fc : Far g.c := ⟨by omega, by omega⟩
      have hC := Lib.hid (fun w => foContent_any g.a g.b g.c w fa fb fc)
      have hcb : ((Int.gcd g.a (Int.gcd g.b g.c) : Int) == p) = coB p g := rfl
      obtain ⟨q, hq⟩ : ∃ q : Int, (Int.gcd g.a (Int.gcd g.b g.c) : Int) = q := ⟨_, rfl⟩
      simp only [hq] at hC hcb
      clear hq fa fb fc
      by_cases hc : coB p g = true
      · have hx : ((S.take (k + 1)).filter (coB p)).map (fun g => red (dvF p g)) = ((S.take k).filter (coB p)).map (fun g => red (dvF p g)) ++ [red (dvF p g)] := by rw [hft, if_pos hc, List.map_append]; rfl
        have hG := hN hc
        rw [hc] at hcb
        generalize ((S.take k).filter (coB p)).map (fun g => red (dvF p g)) = Q at hown hx hql
        have hRd := Lib.hid (fun w => reClass_cf d (dvF p g) (red (dvF p g)) w hG.cf)
        obtain ⟨ea, eb, ec, _, ⟨ha1, ha2⟩, ⟨hb1, hb2⟩, ⟨hc1, hc2⟩, _, _, _⟩ := hG
        have Hx := Lib.hid hx
        clear hx hft hN hc
        generalize red (dvF p g) = r at *
        generalize dvF p g = h at *
        have t1 : Int.tdiv g.a p = h.a := by rw [ea]; exact Int.mul_tdiv_cancel_left _ e5
        have t2 : Int.tdiv g.b p = h.b := by rw [eb]; exact Int.mul_tdiv_cancel_left _ e5
        have t3 : Int.tdiv g.c p = h.c := by rw [ec]; exact Int.mul_tdiv_cancel_left _ e5
        have u1 : g.a / p = h.a := by rw [ea]; exact Int.mul_ediv_cancel_left _ e5
        have u2 : g.b / p = h.b := by rw [eb]; exact Int.mul_ediv_cancel_left _ e5
        have u3' : g.c / p = h.c := by rw [ec]; exact Int.mul_ediv_cancel_left _ e5
        have w1' : IntKind.i64.wrap h.a = h.a := IntWalk.i64_in _ (by omega)
        have w2' : IntKind.i64.wrap h.b = h.b := IntWalk.i64_in _ (by omega)
        have w3' : IntKind.i64.wrap h.c = h.c := IntWalk.i64_in _ (by omega)
        clear ea eb ec
        go_wp2_with (go_at_call 85; (with_reducible refine (hC.out _).mono ?_); rintro e v1 ⟨rfl, hB1⟩; have hZ1 := hB1.size; (try simp at hZ1); (try have zl1 : w.heap.size < v1.heap.size := by omega); (try have ze1 : w.heap.size ≤ v1.heap.size := by omega); (try have zn1 : ¬ w.heap.size = v1.heap.size := by omega); (try have zm1 : ¬ v1.heap.size = w.heap.size := by omega); have hA1 : Blk v1 (wr.heap.size) 32 #[.int .i64 g.a, .int .i64 g.b, .int .i64 g.c] := Blk.call (by (repeat (first | with_reducible assumption | (with_reducible apply Blk.new_at; (first | rfl | (simp; done))) | with_reducible apply Blk.store3 | with_reducible apply Blk.store4 | (with_reducible apply Blk.farp; (first | omega | (simp <;> omega))) | with_reducible apply Blk.allocp | with_reducible apply Blk.drew | with_reducible apply Blk.drewN))) hB1; have cA1 := hA1.cell; have fA1 := hA1.frozen; have lA1 := hA1.lt; have mA1 := Nat.ne_of_gt lA1; have nA1 := Nat.ne_of_lt lA1)
        have hbr3 : Below w0.heap.size w0 v1 := below_via (hbel.alloc hz _) hB1 (by simp; omega)
        have hon3 := Lib.hid (own_call hB1 (own_alloc (o := .cells #[.int .i64 g.a, .int .i64 g.b, .int .i64 g.c] 32) hown))
        have hos3 := Lib.hid (own_call hB1 (own_alloc (o := .cells #[.int .i64 g.a, .int .i64 g.b, .int .i64 g.c] 32) hos))
        go_region_law (first
          | (refine step_append_any (v4.alloc (.cells #[.int .i64 r.a, .int .i64 r.b, .int .i64 r.c] 32)) rfl (.tmp 20) (.tmp 35) 53 rfl w0.heap.size 32 i0 _ 3 24 Try.underlying53 hi hz0 hz1 hz2 rfl (by omega) u5 Q.length (cellsF Q) rfl (own_alloc hon4) (v4.heap.size + 1) (some ⟨v4.heap.size, 0, none⟩) 1 1 [.int .i64 r.a, .int .i64 r.b, .int .i64 r.c] rfl ⟨rfl, fun _ => ⟨_, rfl, (by simp), cells3 (Blk.new _ _ _)⟩⟩ (one3 _ _ _) (by unfold maxLen; omega) (by omega) (by simp; omega) ?_; intro x2 w2 hown2 hgr2 hloc2)
          | (go_simp; go_wp2_with (go_at_call 72; (with_reducible refine (hRd.out _).mono ?_); rintro e v4 ⟨rfl, hB4⟩; have hZ4 := hB4.size; (try simp at hZ4); have hon4 := own_call hB4 (own_drew hon3.out))))
        all_goals
          have hgs := hgr2.size
          simp at hgs
          have hoN := own_snoc Hx.out hown2
          have hb4 : Below w0.heap.size w0 v4 := below_via hbr3.drew hB4 (by simp; omega)
          have hbN : Below w0.heap.size w0 w2 := below_grown (own_ge hown) (by simp; omega) hgr2 (hb4.alloc (by omega) _)
          have hsB := own_alloc (o := .cells #[.int .i64 r.a, .int .i64 r.b, .int .i64 r.c] 32) (own_call hB4 (own_drew hos3.out))
          have hs2 := hsB.kept hgr2 hap
          have hap2 := apart_next hap hsB (Nat.le_refl _) hloc2
          clear hgr2 hown2 hon3 hon4 hown
          go_wp2
          exact ⟨⟨k + 1, rfl, hlt, hoN, hs2, hap2, hbN⟩, by simp [intOf]; omega⟩
      · have hx : ((S.take (k + 1)).filter (coB p)).map (fun g => red (dvF p g)) = ((S.take k).filter (coB p)).map (fun g => red (dvF p g)) := by rw [hft, if_neg hc, List.append_nil]
        have hcf : coB p g = false := by simpa using hc
        rw [hcf] at hcb
        have Hx := Lib.hid hx
        clear hx hft hN hc hcf
        go_wp2_with (go_at_call 85; (with_reducible refine (hC.out _).mono ?_); rintro e v1 ⟨rfl, hB1⟩; have hZ1 := hB1.size; (try simp at hZ1); (try have zl1 : w.heap.size < v1.heap.size := by omega); (try have ze1 : w.heap.size ≤ v1.heap.size := by omega); (try have zn1 : ¬ w.heap.size = v1.heap.size := by omega); (try have zm1 : ¬ v1.heap.size = w.heap.size := by omega); have hA1 : Blk v1 (wr.heap.size) 32 #[.int .i64 g.a, .int .i64 g.b, .int .i64 g.c] := Blk.call (by (repeat (first | with_reducible assumption | (with_reducible apply Blk.new_at; (first | rfl | (simp; done))) | with_reducible apply Blk.store3 | with_reducible apply Blk.store4 | (with_reducible apply Blk.farp; (first | omega | (simp <;> omega))) | with_reducible apply Blk.allocp | with_reducible apply Blk.drew | with_reducible apply Blk.drewN))) hB1; have cA1 := hA1.cell; have fA1 := hA1.frozen; have lA1 := hA1.lt; have mA1 := Nat.ne_of_gt lA1; have nA1 := Nat.ne_of_lt lA1)
        have hbr3 : Below w0.heap.size w0 v1 := below_via (hbel.alloc hz _) hB1 (by simp; omega)
        have hon3 := own_call hB1 (own_alloc (o := .cells #[.int .i64 g.a, .int .i64 g.b, .int .i64 g.c] 32) hown)
        have hos3 := own_call hB1 (own_alloc (o := .cells #[.int .i64 g.a, .int .i64 g.b, .int .i64 g.c] 32) hos)
        go_roundw
        case rel => exact ⟨k + 1, rfl, hlt, by rw [Hx.out]; exact hon3, hos3, hap, hbr3⟩
        case measure => simp [intOf]; omega
    · have e : k = S.length := by omega
      have hx : (S.take k).filter (coB p) = S.filter (coB p) := by rw [e, List.take_length]
      rw [hx] at hown
      clear hx
      subst e
      go_wp2
      go_ret
      exact ⟨_, rfl, own_base (by omega) hown, below_via hbw0 hbel (by omega)⟩
end Go.Proofs.Ytcijjnjgifoipaa
