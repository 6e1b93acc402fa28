/- Plain facts: the primitive points of all reduced forms are as many as the primitive forms that begin with the number, times the automorphs. -/
import Derived.Test.YtkpiiicefmkhcaaTP
import Derived.Test.YtkpiiicefmkhcaaTA
namespace Go.Proofs.Ytkpiiicefmkhcaa

open Classical in
theorem fib_sum {α β : Type} (key : α → β) (G : List β) (hG : G.Nodup) (w : Nat) : ∀ P : List α, (∀ x ∈ P, key x ∈ G) → P.length = (G.map fun g => (P.filter fun x => decide (key x = g)).length).sum
  | [], _ => by
    have : (G.map fun g => (([] : List α).filter fun x => decide (key x = g)).length) = G.map fun _ => 0 := by simp
    rw [this]
    have : ∀ G : List β, (G.map fun _ => 0).sum = 0 := by intro G; induction G with
      | nil => rfl
      | cons a G ih => simp [ih]
    rw [this]; rfl
  | x :: P, h => by
    have ih := fib_sum key G hG w P (fun y hy => h y (List.mem_cons_of_mem _ hy))
    have hx := h x (by simp)
    have step : ∀ G : List β, G.Nodup → (G.map fun g => ((x :: P).filter fun y => decide (key y = g)).length).sum = (G.map fun g => (P.filter fun y => decide (key y = g)).length).sum + if key x ∈ G then 1 else 0 := by
      intro G
      induction G with
      | nil => intro _; simp
      | cons a G ihG =>
        intro hnd
        rw [List.nodup_cons] at hnd
        rw [List.map_cons, List.sum_cons, List.map_cons, List.sum_cons, ihG hnd.2]
        by_cases e : key x = a
        · subst e
          rw [if_neg hnd.1, if_pos (by simp), List.filter_cons_of_pos (by simp), List.length_cons]
          omega
        · rw [List.filter_cons_of_neg (by simpa using e)]
          have : (key x ∈ a :: G) ↔ key x ∈ G := by simp [e]
          by_cases h2 : key x ∈ G
          · rw [if_pos h2, if_pos (this.2 h2)]; omega
          · rw [if_neg h2, if_neg (fun h => h2 (this.1 h))]; omega
    rw [step G hG, if_pos hx, List.length_cons, ih]
theorem sum_same {β : Type} (F : β → Nat) (w : Nat) : ∀ G : List β, (∀ g ∈ G, F g = w) → (G.map F).sum = w * G.length
  | [], _ => by simp
  | a :: G, h => by
    rw [List.map_cons, List.sum_cons, sum_same F w G (fun g hg => h g (List.mem_cons_of_mem _ hg)), h a (by simp), List.length_cons, Nat.mul_add, Nat.mul_one]
    omega
/-- The primitive points of a reduced form with the value n. -/
noncomputable def prL (d n : Int) (f : Fm) : List (Int × Int) := (ptsL d n f).filter prmP
theorem prL_mem {d n : Int} {f : Fm} (D : Dsc d) (hf : f ∈ clsL d) (hn : 1 ≤ n) (p : Int × Int) : p ∈ prL d n f ↔ Int.gcd p.1 p.2 = 1 ∧ f.a * p.1 * p.1 + f.b * p.1 * p.2 + f.c * p.2 * p.2 = n := by
  unfold prL
  rw [List.mem_filter, show p = (p.1, p.2) from rfl, ptsL_mem D hf hn]
  unfold prmP
  rw [decide_eq_true_eq]
  simp only
  constructor
  · rintro ⟨h1, h2⟩; exact ⟨by omega, h1⟩
  · rintro ⟨h1, h2⟩; exact ⟨h2, by omega⟩
/-- The forms that begin with n. -/
def IsLd (d n : Int) (g : Fm) : Prop := g.a = n ∧ (0 ≤ g.b ∧ g.b < 2 * n) ∧ disc g = d ∧ Int.gcd g.a (Int.gcd g.b g.c) = 1
theorem IsLd.def {d n : Int} {g : Fm} (D : Dsc d) (hn : 1 ≤ n ∧ n ≤ 10000) (h : IsLd d n g) : CF d g (red g) := by
  obtain ⟨ha, ⟨b0, b1⟩, hd, hg⟩ := h
  have d1 := D.lo
  have d2 := D.hi
  have hdd : g.b * g.b - 4 * g.a * g.c = d := hd
  rw [ha] at hdd
  have e2 : 4 * n * g.c = 4 * (n * g.c) := Int.mul_assoc _ _ _
  have hbb0 := Int.mul_nonneg b0 b0
  have hbb1 : g.b * g.b ≤ (2 * n) * (2 * n) := Int.mul_le_mul (by omega) (by omega) b0 (by omega)
  have hbb2 : (2 * n) * (2 * n) ≤ 20000 * 20000 := Int.mul_le_mul (by omega) (by omega) (by omega) (by omega)
  have c0 : 0 < g.c := by
    apply Int.not_le.1; intro hl
    have : n * g.c ≤ n * 0 := Int.mul_le_mul_of_nonneg_left hl (by omega)
    omega
  have c1 : g.c ≤ n * g.c := by
    have := Int.mul_le_mul_of_nonneg_right hn.1 (show 0 ≤ g.c by omega)
    omega
  have hD : Def M0 g := by
    unfold M0
    exact ⟨by omega, by omega, c0, by omega, by rw [ha]; omega⟩
  exact ⟨D, hD, rfl, mem_clsL_of d1 (red_def hD).a0 ((red_disc hD).trans hd) (red_isRed hD) (red_prm hD hg), hd, ⟨by omega, by omega⟩, ⟨by omega, by omega⟩, ⟨by rw [ha]; omega, by rw [ha]; omega⟩⟩
theorem act_prm {f : Fm} {x y q t : Int} (hdet : x * t - q * y = 1) (hprm : Int.gcd f.a (Int.gcd f.b f.c) = 1) : Int.gcd (actM f ⟨x, q, y, t⟩).a (Int.gcd (actM f ⟨x, q, y, t⟩).b (actM f ⟨x, q, y, t⟩).c) = 1 := by
  have k1 := back_a f.a f.b f.c x y q t
  have k2 := back_b f.a f.b f.c x y q t
  have k3 := back_c f.a f.b f.c x y q t
  have hA : (actM f ⟨x, q, y, t⟩).a = f.a * x * x + f.b * x * y + f.c * y * y := rfl
  have hB : (actM f ⟨x, q, y, t⟩).b = 2 * f.a * x * q + f.b * (x * t + q * y) + 2 * f.c * y * t := by unfold actM polF; simp only; grind
  have hC : (actM f ⟨x, q, y, t⟩).c = f.a * q * q + f.b * q * t + f.c * t * t := rfl
  rw [← hA, ← hB, ← hC, hdet] at k1 k2 k3
  generalize actM f ⟨x, q, y, t⟩ = g at *
  simp only [Int.mul_one] at k1 k2 k3
  obtain ⟨m, hm⟩ : ∃ m, Int.gcd g.a (Int.gcd g.b g.c) = m := ⟨_, rfl⟩
  rw [hm]
  have m1 : (m : Int) ∣ g.a := by rw [← hm]; exact Int.gcd_dvd_left ..
  have m2 : (m : Int) ∣ (Int.gcd g.b g.c : Int) := by rw [← hm]; exact Int.gcd_dvd_right ..
  have m3 : (m : Int) ∣ g.b := Int.dvd_trans m2 (Int.gcd_dvd_left ..)
  have m4 : (m : Int) ∣ g.c := Int.dvd_trans m2 (Int.gcd_dvd_right ..)
  have f1 : (m : Int) ∣ f.a := by rw [← k1]; exact Int.dvd_add (Int.dvd_sub (Int.dvd_mul_of_dvd_left m1) (Int.dvd_mul_of_dvd_left m3)) (Int.dvd_mul_of_dvd_left m4)
  have f2 : (m : Int) ∣ f.b := by rw [← k2]; exact Int.dvd_sub (Int.dvd_sub (Int.dvd_mul_of_dvd_left m3) (Int.dvd_mul_of_dvd_left (Int.dvd_mul_of_dvd_right m1))) (Int.dvd_mul_of_dvd_left (Int.dvd_mul_of_dvd_right m4))
  have f3 : (m : Int) ∣ f.c := by rw [← k3]; exact Int.dvd_add (Int.dvd_sub (Int.dvd_mul_of_dvd_left m1) (Int.dvd_mul_of_dvd_left m3)) (Int.dvd_mul_of_dvd_left m4)
  have f4 : (m : Int) ∣ (Int.gcd f.a (Int.gcd f.b f.c) : Int) := Int.dvd_coe_gcd f1 (Int.dvd_coe_gcd f2 f3)
  rw [hprm] at f4
  exact Nat.dvd_one.1 (Int.natCast_dvd_natCast.1 f4)
/-- Different automorphs take a point to different points. -/
theorem ptT_inj {d : Int} {f : Fm} {p : Int × Int} (D : Dsc d) (hd : disc f = d) (hv : 0 < f.a * p.1 * p.1 + f.b * p.1 * p.2 + f.c * p.2 * p.2) {τ σ : Int × Int} (he : ptT f p τ = ptT f p σ) (hτ : τ ∈ tuL d) (hσ : σ ∈ tuL d) : τ = σ := by
  obtain ⟨m, _, _, hm, h1⟩ := aut_pt D hd hτ
  obtain ⟨k, _, _, hk, h2⟩ := aut_pt D hd hσ
  rw [h1, h2] at he
  obtain ⟨e1, e2⟩ := Prod.mk.inj he
  obtain ⟨T, u⟩ := τ
  obtain ⟨S, v⟩ := σ
  obtain ⟨x, y⟩ := p
  simp only at *
  clear h1 h2 he
  have i1 : (m - k) * x = f.c * (u - v) * y := by
    have e : (m - k) * x - f.c * (u - v) * y = (m * x + -(f.c * u) * y) - (k * x + -(f.c * v) * y) := by grind
    omega
  have i2 : f.a * (u - v) * x + (m - k) * y + f.b * (u - v) * y = 0 := by
    have e : f.a * (u - v) * x + (m - k) * y + f.b * (u - v) * y = (f.a * u * x + (m + f.b * u) * y) - (f.a * v * x + (k + f.b * v) * y) := by grind
    omega
  have i3 : (u - v) * (f.a * x * x + f.b * x * y + f.c * y * y) = 0 := by
    have e : (f.a * (u - v) * x + (m - k) * y + f.b * (u - v) * y) * x - y * ((m - k) * x - f.c * (u - v) * y) = (u - v) * (f.a * x * x + f.b * x * y + f.c * y * y) := by grind
    rw [← e, i2, i1]; simp
  have huv : u = v := by
    rcases Int.mul_eq_zero.1 i3 with h | h <;> omega
  subst huv
  simp only [Int.sub_self, Int.mul_zero, Int.zero_mul, Int.zero_add, Int.add_zero] at i1 i2
  have hmk : m = k := by
    rcases Int.mul_eq_zero.1 i1 with h | h
    · omega
    · rcases Int.mul_eq_zero.1 i2 with h' | h'
      · omega
      · exfalso; rw [h, h'] at hv; simp at hv
  have : T = S := by omega
  rw [this]
open Classical in
noncomputable def keyP (n : Int) (x : Fm × (Int × Int)) : Fm := if h : ∃ g, Kf x.1 x.2 g ∧ g.a = n ∧ 0 ≤ g.b ∧ g.b < 2 * n then h.choose else ⟨0, 0, 0⟩
theorem keyP_spec {n : Int} {x : Fm × (Int × Int)} {g : Fm} (hn : 0 < n) (h : Kf x.1 x.2 g) (ha : g.a = n) (hb : 0 ≤ g.b ∧ g.b < 2 * n) : keyP n x = g := by
  have hex : ∃ g, Kf x.1 x.2 g ∧ g.a = n ∧ 0 ≤ g.b ∧ g.b < 2 * n := ⟨g, h, ha, hb⟩
  have hs := hex.choose_spec
  unfold keyP
  rw [dif_pos hex]
  exact Kf.uniq hn hs.1 h hs.2.1 hs.2.2 hb
/-- All primitive points with their forms. -/
noncomputable def allP (d n : Int) : List (Fm × (Int × Int)) := (clsL d).flatMap fun f => (prL d n f).map fun p => (f, p)
theorem allP_mem {d n : Int} (x : Fm × (Int × Int)) : x ∈ allP d n ↔ x.1 ∈ clsL d ∧ x.2 ∈ prL d n x.1 := by
  unfold allP
  rw [List.mem_flatMap]
  constructor
  · rintro ⟨f, hf, h⟩
    obtain ⟨p, hp, rfl⟩ := List.mem_map.1 h
    exact ⟨hf, hp⟩
  · rintro ⟨h1, h2⟩
    exact ⟨x.1, h1, List.mem_map.2 ⟨x.2, h2, rfl⟩⟩
theorem allP_nd {d n : Int} (D : Dsc d) : (allP d n).Nodup := by
  unfold allP List.Nodup
  rw [List.pairwise_flatMap]
  refine ⟨fun f hf => List.Pairwise.map _ (fun p q hpq he => hpq (Prod.mk.inj he).2) ((ptsL_nd D hf).filter _), (clsL_nodup d).imp ?_⟩
  intro f g hfg x hx y hy e
  obtain ⟨p, _, rfl⟩ := List.mem_map.1 hx
  obtain ⟨q, _, rfl⟩ := List.mem_map.1 hy
  exact hfg (Prod.mk.inj e).1
theorem allP_key {d n : Int} (D : Dsc d) (hn : 1 ≤ n) {x : Fm × (Int × Int)} (hx : x ∈ allP d n) : Kf x.1 x.2 (keyP n x) ∧ IsLd d n (keyP n x) := by
  obtain ⟨h1, h2⟩ := (allP_mem x).1 hx
  obtain ⟨hg, hv⟩ := (prL_mem D h1 hn x.2).1 h2
  obtain ⟨g, hk, ha, hb⟩ := Kf.ex (by omega) hg hv
  obtain ⟨⟨_, _, e3, _⟩, hprm⟩ := mem_clsL D.lo h1
  rw [keyP_spec (by omega) hk ha hb]
  refine ⟨hk, ha, hb, hk.disc.trans e3, ?_⟩
  obtain ⟨q, t, hdet, rfl⟩ := hk
  exact act_prm hdet hprm
open Classical in
/-- The fibre over a form: the points that the automorphs make of one. -/
theorem fibre {d n : Int} (D : Dsc d) (hn : 1 ≤ n ∧ n ≤ 10000) {g : Fm} (hg : IsLd d n g) : ((allP d n).filter fun x => decide (keyP n x = g)).length = wD d := by
  have cg := hg.def D hn
  obtain ⟨ha, hb, hd, hgp⟩ := hg
  have hr := cg.mem
  obtain ⟨⟨_, _, e3, _⟩, hprm⟩ := mem_clsL D.lo hr
  have ra : 0 < (red g).a := (red_def cg.df).a0
  -- one point of the fibre
  obtain ⟨p0, q0, t0, hdet0, hact0⟩ : ∃ p0 : Int × Int, ∃ q0 t0, p0.1 * t0 - q0 * p0.2 = 1 ∧ actM (red g) ⟨p0.1, q0, p0.2, t0⟩ = g := by
    obtain ⟨h1, h2⟩ := redM_act cg.df
    generalize redM g M4.one = m at *
    refine ⟨(m.s, -m.r), -m.q, m.p, ?_, ?_⟩
    · have e : m.s * m.p - -m.q * -m.r = m.det := by unfold M4.det; grind
      simp only
      rw [e, h2]
    · rw [← h1, act_mul]
      have e : m.mul ⟨m.s, -m.q, -m.r, m.p⟩ = M4.one := by
        unfold M4.det at h2
        unfold M4.mul M4.one
        simp only [M4.mk.injEq]
        refine ⟨?_, ?_, ?_, ?_⟩ <;> grind
      rw [e, act_one]
  have hk0 : Kf (red g) p0 g := ⟨q0, t0, hdet0, hact0⟩
  have hp0 := hk0.val
  have hnd : ((allP d n).filter fun x => decide (keyP n x = g)).Nodup := (allP_nd D).filter _
  have hnd2 : ((tuL d).map fun τ => (red g, ptT (red g) p0 τ)).Nodup := by
    unfold List.Nodup
    rw [List.pairwise_map]
    refine List.Pairwise.imp_of_mem ?_ (tuL_nd d)
    intro τ σ hτ hσ hne he
    exact hne (ptT_inj D e3 (show 0 < (red g).a * p0.1 * p0.1 + (red g).b * p0.1 * p0.2 + (red g).c * p0.2 * p0.2 by rw [hp0.2, ha]; omega) (Prod.mk.inj he).2 hτ hσ)
  rw [same_lenT hnd hnd2 ?_, List.length_map, tuL_len]
  rintro ⟨f, p⟩
  rw [List.mem_filter, decide_eq_true_eq, List.mem_map]
  constructor
  · rintro ⟨hx, hkey⟩
    have hk := (allP_key D hn.1 hx).1
    rw [hkey] at hk
    have hfm := ((allP_mem _).1 hx).1
    simp only at hk hfm
    obtain rfl := Kf.red D hfm cg.df hk
    obtain ⟨q, t, hdet, hact⟩ := hk
    -- the automorph
    have haut : actM (red g) ⟨p.1 * t0 - q * p0.2, -(p.1 * q0) + q * p0.1, p.2 * t0 - t * p0.2, -(p.2 * q0) + t * p0.1⟩ = red g := by
      have e : (⟨p.1 * t0 - q * p0.2, -(p.1 * q0) + q * p0.1, p.2 * t0 - t * p0.2, -(p.2 * q0) + t * p0.1⟩ : M4) = (⟨p.1, q, p.2, t⟩ : M4).mul ⟨t0, -q0, -p0.2, p0.1⟩ := by
        unfold M4.mul
        simp only [M4.mk.injEq]
        refine ⟨?_, ?_, ?_, ?_⟩ <;> grind
      rw [e, ← act_mul, hact]
      have hb := congrArg (fun h => actM h ⟨t0, -q0, -p0.2, p0.1⟩) hact0
      simp only [act_mul] at hb
      have e2 : (⟨p0.1, q0, p0.2, t0⟩ : M4).mul ⟨t0, -q0, -p0.2, p0.1⟩ = M4.one := by
        unfold M4.mul M4.one
        simp only [M4.mk.injEq]
        refine ⟨?_, ?_, ?_, ?_⟩ <;> grind
      rw [e2, act_one] at hb
      exact hb.symm
    have hdet2 : (p.1 * t0 - q * p0.2) * (-(p.2 * q0) + t * p0.1) - (-(p.1 * q0) + q * p0.1) * (p.2 * t0 - t * p0.2) = 1 := by
      have e : (p.1 * t0 - q * p0.2) * (-(p.2 * q0) + t * p0.1) - (-(p.1 * q0) + q * p0.1) * (p.2 * t0 - t * p0.2) = (p.1 * t - q * p.2) * (p0.1 * t0 - q0 * p0.2) := by grind
      rw [e, hdet, hdet0]; rfl
    obtain ⟨T, u, hτ, h1, h2, h3, h4⟩ := aut_all D e3 (by omega) hprm hdet2 haut
    refine ⟨(T, u), hτ, ?_⟩
    obtain ⟨m, _, _, hm, hpt⟩ := aut_pt D e3 hτ
    rw [hpt]
    simp only at hm
    have hmp : m = p.1 * t0 - q * p0.2 := by omega
    have y1 : m * p0.1 + -((red g).c * u) * p0.2 = p.1 := by
      rw [hmp, ← h2]
      have e : (p.1 * t0 - q * p0.2) * p0.1 + (-(p.1 * q0) + q * p0.1) * p0.2 = p.1 * (p0.1 * t0 - q0 * p0.2) := by grind
      rw [e, hdet0, Int.mul_one]
    have y2 : (red g).a * u * p0.1 + (m + (red g).b * u) * p0.2 = p.2 := by
      rw [← h3, show m + (red g).b * u = -(p.2 * q0) + t * p0.1 by omega]
      have e : (p.2 * t0 - t * p0.2) * p0.1 + (-(p.2 * q0) + t * p0.1) * p0.2 = p.2 * (p0.1 * t0 - q0 * p0.2) := by grind
      rw [e, hdet0, Int.mul_one]
    simp only
    rw [y1, y2]
  · rintro ⟨τ, hτ, he⟩
    obtain ⟨rfl, rfl⟩ := Prod.mk.inj he
    obtain ⟨m, hdm, ham, hm, hpt⟩ := aut_pt D e3 hτ
    have hkp : Kf (red g) (ptT (red g) p0 τ) g := by
      rw [hpt]
      exact Kf.mul hdm ham hk0
    refine ⟨(allP_mem _).2 ⟨hr, (prL_mem D hr hn.1 _).2 ⟨hkp.val.1, by rw [hkp.val.2, ha]⟩⟩, keyP_spec (by omega) hkp ha hb⟩
open Classical in
/-- The count. -/
theorem count_prim {d n : Int} (D : Dsc d) (hn : 1 ≤ n ∧ n ≤ 10000) {G : List Fm} (hG : G.Nodup) (hm : ∀ g, g ∈ G ↔ IsLd d n g) : ((clsL d).map fun f => (prL d n f).length).sum = wD d * G.length := by
  rw [← sum_same (fun g => ((allP d n).filter fun x => decide (keyP n x = g)).length) (wD d) G (fun g hg => fibre D hn ((hm g).1 hg)), ← fib_sum (keyP n) G hG 0 (allP d n) (fun x hx => (hm _).2 (allP_key D hn.1 hx).2)]
  unfold allP
  rw [List.length_flatMap]
  congr 1
  exact List.map_congr_left fun f _ => (List.length_map _).symm
end Go.Proofs.Ytkpiiicefmkhcaa
