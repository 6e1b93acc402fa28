/- Plain facts: a normal triple without a forbidding place has a solution within Holzer's bounds, and one with such a place has none. -/
import Derived.Test.YtdhennlanngjgaaJM
import Derived.Test.YtdhennlanngjgaaJG
namespace Go.Proofs.Ytdhennlanngjgaa

/-- What is asked of a triple for Legendre's theorem, in no order. -/
structure LgT (a b c : Int) : Prop where
  a0 : a ≠ 0
  b0 : b ≠ 0
  c0 : c ≠ 0
  ab : Cp a b
  ac : Cp a c
  bc : Cp b c
  sa : Sqf a
  sb : Sqf b
  sc : Sqf c
  ra : ∃ r, a ∣ r * r + b * c
  rb : ∃ r, b ∣ r * r + a * c
  rc : ∃ r, c ∣ r * r + a * b
def HzT (a b c : Int) : Prop := ∃ x y z : Int, a * (x * x) + b * (y * y) + c * (z * z) = 0 ∧ 0 ≤ x ∧ 0 ≤ y ∧ 0 ≤ z ∧
  x * x ≤ ((b * c).natAbs : Int) ∧ y * y ≤ ((a * c).natAbs : Int) ∧ z * z ≤ ((a * b).natAbs : Int) ∧ ∀ m : Int, m ∣ x → m ∣ y → m ∣ z → m ∣ 1
theorem Cp.negR {a b : Int} (h : Cp a b) : Cp a (-b) := h.symm.neg.symm
theorem Sqf.neg {a : Int} (h : Sqf a) : Sqf (-a) := fun q h2 h3 => h q h2 ((Int.dvd_neg).1 h3)
theorem LgT.neg {a b c : Int} (h : LgT a b c) : LgT (-a) (-b) (-c) := by
  obtain ⟨a0, b0, c0, ab, ac, bc, sa, sb, sc, ⟨r, hr⟩, ⟨s, hs⟩, ⟨t, ht⟩⟩ := h
  refine ⟨by omega, by omega, by omega, ab.neg.negR, ac.neg.negR, bc.neg.negR, sa.neg, sb.neg, sc.neg, ⟨r, ?_⟩, ⟨s, ?_⟩, ⟨t, ?_⟩⟩ <;> rw [Int.neg_mul_neg] <;> apply (Int.neg_dvd).2 <;> assumption
theorem LgT.swap {a b c : Int} (h : LgT a b c) : LgT b a c := by
  obtain ⟨a0, b0, c0, ab, ac, bc, sa, sb, sc, hr, hs, ⟨t, ht⟩⟩ := h
  exact ⟨b0, a0, c0, ab.symm, bc, ac, sb, sa, sc, hs, hr, t, by rw [Int.mul_comm b a]; exact ht⟩
theorem LgT.turn {a b c : Int} (h : LgT a b c) : LgT b c a := by
  obtain ⟨a0, b0, c0, ab, ac, bc, sa, sb, sc, hr, ⟨s, hs⟩, ⟨t, ht⟩⟩ := h
  exact ⟨b0, c0, a0, bc, ab.symm, ac.symm, sb, sc, sa, ⟨s, by rw [Int.mul_comm c a]; exact hs⟩, ⟨t, by rw [Int.mul_comm b a]; exact ht⟩, hr⟩
theorem HzT.neg {a b c : Int} (h : HzT a b c) : HzT (-a) (-b) (-c) := by
  obtain ⟨x, y, z, e, x0, y0, z0, hx, hy, hz, hm⟩ := h
  refine ⟨x, y, z, by rw [Int.neg_mul, Int.neg_mul, Int.neg_mul]; omega, x0, y0, z0, ?_, ?_, ?_, hm⟩ <;> rw [Int.neg_mul_neg] <;> assumption
theorem HzT.turn {a b c : Int} (h : HzT b c a) : HzT a b c := by
  obtain ⟨x, y, z, e, x0, y0, z0, hx, hy, hz, hm⟩ := h
  exact ⟨z, x, y, by omega, z0, x0, y0, hz, by rw [Int.mul_comm a c]; exact hx, by rw [Int.mul_comm a b]; exact hy, fun m h1 h2 h3 => hm m h2 h3 h1⟩
theorem lgT_pos {a b c : Int} (h : LgT a b c) (a1 : 0 < a) (b1 : 0 < b) (c1 : c < 0) : HzT a b c := by
  obtain ⟨a0, b0, c0, ab, ac, bc, sa, sb, sc, ⟨r, hr⟩, ⟨s, hs⟩, ⟨t, ht⟩⟩ := h
  obtain ⟨x, y, z, e, x0, y0, z0, hx, hy, hz, hg⟩ := leg_holz (a := a) (b := b) (c := -c) ⟨a1, b1, by omega, ab, ac.negR, bc.negR, sa, sb, sc.neg⟩
    (r := r) (s := s) (t := t) (by rw [Int.mul_neg, Int.sub_neg]; exact hr) (by rw [Int.mul_neg, Int.sub_neg]; exact hs) ((Int.neg_dvd).2 ht)
  have k1 : ∀ u v : Int, u * -v ≤ ((u * v).natAbs : Int) := fun u v => by rw [Int.mul_neg]; omega
  refine ⟨x, y, z, by rw [Int.neg_mul] at e; omega, x0, y0, z0, Int.le_trans hx (k1 b c), Int.le_trans hy (k1 a c), by omega, fun m h1 h2 _ => ?_⟩
  obtain ⟨u, v, huv⟩ := Cp.of hg
  rw [← huv]; exact Int.dvd_add (Int.dvd_mul_of_dvd_right h1) (Int.dvd_mul_of_dvd_right h2)
theorem lgT_all {a b c : Int} (h : LgT a b c) (hs : ¬ (a.sign = b.sign ∧ a.sign = c.sign)) : HzT a b c := by
  have key : ∀ {a b c : Int}, LgT a b c → 0 < a → ¬ (a.sign = b.sign ∧ a.sign = c.sign) → HzT a b c := by
    intro a b c h ha hs
    rw [Int.sign_eq_one_of_pos ha] at hs
    have hb := h.b0
    have hc := h.c0
    rcases Int.lt_or_gt_of_ne hb with b1 | b1 <;> rcases Int.lt_or_gt_of_ne hc with c1 | c1
    · -- + - -
      have := (lgT_pos h.neg.turn (by omega) (by omega) (by omega)).turn.neg
      simpa using this
    · -- + - +
      exact (lgT_pos h.turn.turn c1 ha b1).turn.turn
    · exact lgT_pos h ha b1 c1
    · exact absurd ⟨(Int.sign_eq_one_of_pos b1).symm, (Int.sign_eq_one_of_pos c1).symm⟩ hs
  rcases Int.lt_or_gt_of_ne h.a0 with a1 | a1
  · have := (key h.neg (by omega) (by rw [Int.sign_neg, Int.sign_neg, Int.sign_neg]; omega)).neg
    simpa using this
  · exact key h a1 hs
/-- A normal triple. -/
structure NrT (a b c : Int) : Prop where
  t : TrI a b c
  o : OneD a b c
  sa : Sqf a
  sb : Sqf b
  sc : Sqf c
theorem NrT.cp {a b c : Int} (h : NrT a b c) : Cp a b ∧ Cp a c ∧ Cp b c := by
  have k : ∀ q, PrI q → q ∣ a ∨ q ∣ b ∨ q ∣ c → q ∣ a * b * c := fun q _ h1 => by
    rcases h1 with h1 | h1 | h1
    · exact Int.dvd_mul_of_dvd_left (Int.dvd_mul_of_dvd_left h1)
    · exact Int.dvd_mul_of_dvd_left (Int.dvd_mul_of_dvd_right h1)
    · exact Int.dvd_mul_of_dvd_right h1
  refine ⟨cp_pr h.t.a0 fun q hq h1 h2 => ?_, cp_pr h.t.a0 fun q hq h1 h2 => ?_, cp_pr h.t.b0 fun q hq h1 h2 => ?_⟩
  · rcases h.o q hq (k q hq (.inl h1)) with h3 | h3 | h3
    · exact h3.2.1 h2
    · exact h3.1 h1
    · exact h3.1 h1
  · rcases h.o q hq (k q hq (.inl h1)) with h3 | h3 | h3
    · exact h3.2.2 h2
    · exact h3.1 h1
    · exact h3.1 h1
  · rcases h.o q hq (k q hq (.inr (.inl h1))) with h3 | h3 | h3
    · exact h3.2.1 h1
    · exact h3.2.2 h2
    · exact h3.2.1 h1
theorem rtB_iff {p k : Int} (hp : 2 ≤ p) : rtB p k = true ↔ ∃ r, p ∣ r * r + k := by
  unfold rtB
  rw [List.any_eq_true]
  constructor
  · rintro ⟨r, _, h⟩
    exact ⟨r, Int.dvd_of_emod_eq_zero (of_decide_eq_true h)⟩
  · rintro ⟨r, h⟩
    have h1 := Int.emod_nonneg r (show p ≠ 0 by omega)
    have h2 := Int.emod_lt_of_pos r (show 0 < p by omega)
    refine ⟨(r % p).toNat, List.mem_range.2 (by omega), decide_eq_true ?_⟩
    rw [Int.toNat_of_nonneg h1]
    have e := Int.emod_add_mul_ediv r p
    obtain ⟨m, hm⟩ := h
    apply Int.emod_eq_zero_of_dvd
    refine ⟨m - (r / p) * (2 * (r % p) + p * (r / p)), ?_⟩
    generalize r % p = s at *
    generalize r / p = q at *
    subst e
    grind
/-- The place is below 0 just if the signs differ and each odd prime of the product has its root. -/
theorem plG_neg {a b c : Int} (h : TrI a b c) : plG a b c < 0 ↔ ¬ (a.sign = b.sign ∧ a.sign = c.sign) ∧ ∀ p, PrI p → 2 < p → p ∣ a * b * c → ∃ r, p ∣ r * r + kkE a b c p := by
  unfold plG
  by_cases hs : a.sign = b.sign ∧ a.sign = c.sign
  · rw [if_pos hs]
    constructor
    · intro h; omega
    · intro h; exact absurd hs h.1
  rw [if_neg hs]
  unfold plE
  have hmem : ∀ x, x ∈ odP (prT a b c) ↔ (PrI x ∧ x ∣ a * b * c) ∧ 2 < x := fun x => by
    unfold odP
    rw [List.mem_filter, h.pr, decide_eq_true_eq]
  cases hf : (odP (prT a b c)).find? fun p => !rtB p (kkE a b c p) with
  | none =>
    rw [List.find?_eq_none] at hf
    constructor
    · intro _
      refine ⟨hs, fun p hp h2 hd => ?_⟩
      have := hf p ((hmem p).2 ⟨⟨hp, hd⟩, h2⟩)
      rw [← rtB_iff hp.1]
      simpa using this
    · intro _; show (-1 : Int) < 0; omega
  | some y =>
    have hy := List.mem_of_find?_eq_some hf
    have hn := List.find?_some hf
    obtain ⟨⟨hp, hd⟩, h2⟩ := (hmem y).1 hy
    constructor
    · intro h1
      have : y < 0 := h1
      omega
    · rintro ⟨_, h1⟩
      have := (rtB_iff hp.1).2 (h1 y hp h2 hd)
      rw [this] at hn
      exact absurd hn (by decide)
/-- What the place is, if it is one. -/
theorem plG_place {a b c : Int} (h : TrI a b c) (h0 : ¬ plG a b c < 0) : (plG a b c = 0 ∧ a.sign = b.sign ∧ a.sign = c.sign) ∨
    (PrI (plG a b c) ∧ plG a b c ∣ a * b * c ∧ 2 < plG a b c ∧ ¬ ∃ r, plG a b c ∣ r * r + kkE a b c (plG a b c)) := by
  unfold plG at *
  by_cases hs : a.sign = b.sign ∧ a.sign = c.sign
  · rw [if_pos hs]; exact .inl ⟨rfl, hs⟩
  rw [if_neg hs] at h0 ⊢
  right
  unfold plE at *
  cases hf : (odP (prT a b c)).find? fun p => !rtB p (kkE a b c p) with
  | none => rw [hf] at h0; exact absurd (show (-1 : Int) < 0 by omega) h0
  | some y =>
    have hy := List.mem_of_find?_eq_some hf
    have hn := List.find?_some hf
    unfold odP at hy
    rw [List.mem_filter, h.pr, decide_eq_true_eq] at hy
    obtain ⟨⟨hp, hd⟩, h2⟩ := hy
    refine ⟨hp, hd, h2, fun he => ?_⟩
    have he : ∃ r, y ∣ r * r + kkE a b c y := he
    rw [(rtB_iff hp.1).2 he] at hn
    exact absurd hn (by decide)
theorem NrT.lgT {a b c : Int} (h : NrT a b c) (hp : plG a b c < 0) : LgT a b c := by
  obtain ⟨c1, c2, c3⟩ := h.cp
  obtain ⟨hs, hr⟩ := (plG_neg h.t).1 hp
  have a0 := h.t.a0; have b0 := h.t.b0; have c0 := h.t.c0
  have key : ∀ {x k : Int}, x ≠ 0 → Sqf x → (∀ p, PrI p → 2 < p → p ∣ x → ∃ r, p ∣ r * r + k) → ∃ r, x ∣ r * r + k := fun {x k} hx sx hh => by
    have sx' : Sqf (x.natAbs : Int) := fun q h2 h3 => sx q h2 (Int.dvd_natAbs.1 h3)
    obtain ⟨r, hr⟩ := root_sqf k _ (x.natAbs : Int) rfl (by omega) sx' (fun p h2 hp hd => hh p ⟨by omega, hp⟩ h2 (Int.dvd_natAbs.1 hd))
    exact ⟨r, Int.natAbs_dvd.1 hr⟩
  refine ⟨a0, b0, c0, c1, c2, c3, h.sa, h.sb, h.sc, key a0 h.sa fun p hp h2 hd => ?_, key b0 h.sb fun p hp h2 hd => ?_, key c0 h.sc fun p hp h2 hd => ?_⟩
  · have := hr p hp h2 (Int.dvd_mul_of_dvd_left (Int.dvd_mul_of_dvd_left hd))
    rwa [kk1 hd] at this
  · have hd3 : p ∣ a * b * c := Int.dvd_mul_of_dvd_left (Int.dvd_mul_of_dvd_right hd)
    have := hr p hp h2 hd3
    have hn : ¬ p ∣ a := by
      rcases h.o p hp hd3 with h3 | h3 | h3
      · exact absurd hd h3.2.1
      · exact h3.1
      · exact h3.1
    rwa [kk2 hn hd] at this
  · have hd3 : p ∣ a * b * c := Int.dvd_mul_of_dvd_right hd
    have := hr p hp h2 hd3
    have hn : ¬ p ∣ a ∧ ¬ p ∣ b := by
      rcases h.o p hp hd3 with h3 | h3 | h3
      · exact absurd hd h3.2.2
      · exact absurd hd h3.2.2
      · exact ⟨h3.1, h3.2.1⟩
    rwa [kk3 hn.1 hn.2] at this
/-- Legendre and Holzer, for a normal triple. -/
theorem NrT.solve {a b c : Int} (h : NrT a b c) (hp : plG a b c < 0) : HzT a b c := lgT_all (h.lgT hp) ((plG_neg h.t).1 hp).1
theorem sol_root {a b c x y z p : Int} (hp : PrI p) (ha : p ∣ a) (sa : Sqf a) (a0 : a ≠ 0) (hb : ¬ p ∣ b) (_ : ¬ p ∣ c) (e : a * (x * x) + b * (y * y) + c * (z * z) = 0) (hm : ∀ m : Int, m ∣ x → m ∣ y → m ∣ z → m ∣ 1) : ∃ r, p ∣ r * r + b * c := by
  have hz : ¬ p ∣ z := fun hz => by
    have hy : p ∣ y := by
      have h1 : p ∣ b * (y * y) := by
        obtain ⟨k, hk⟩ := ha
        obtain ⟨l, hl⟩ := hz
        exact ⟨-(k * (x * x) + c * (l * z)), by grind⟩
      rcases pr_eu hp h1 with h2 | h2
      · exact absurd h2 hb
      · rcases pr_eu hp h2 with h2 | h2 <;> exact h2
    have hx : p ∣ x := by
      obtain ⟨k, hk⟩ := hy
      obtain ⟨l, hl⟩ := hz
      exact sa.root a0 (by have := hp.1; omega) ⟨-(b * (k * k) + c * (l * l)), by rw [hk, hl] at e; grind⟩
    have := Int.le_of_dvd (by omega) (hm p hx hy hz)
    have := hp.1
    omega
  obtain ⟨u, v, huv⟩ := cp_prime hp hz
  obtain ⟨k, hk⟩ := ha
  refine ⟨b * y * v, b * c * (u * (1 + v * z)) - b * (k * (x * x)) * (v * v), ?_⟩
  have e1 : b * (y * y) = -(c * (z * z)) - p * (k * (x * x)) := by rw [hk] at e; grind
  have e2 : 1 - v * z * (v * z) = p * (u * (1 + v * z)) := by
    have : 1 - v * z = p * u := by grind
    have e3 : 1 - v * z * (v * z) = (1 - v * z) * (1 + v * z) := by grind
    rw [e3, this]; grind
  have e4 : b * y * v * (b * y * v) = b * (b * (y * y)) * (v * v) := by grind
  rw [e4, e1]; grind
/-- A solution forbids all forbidding places. -/
theorem NrT.sound {a b c x y z : Int} (h : NrT a b c) (e : a * (x * x) + b * (y * y) + c * (z * z) = 0) (hm : ∀ m : Int, m ∣ x → m ∣ y → m ∣ z → m ∣ 1) : plG a b c < 0 := by
  rw [plG_neg h.t]
  have a0 := h.t.a0; have b0 := h.t.b0; have c0 := h.t.c0
  constructor
  · rintro ⟨h1, h2⟩
    have sx := sq_nn x
    have sy := sq_nn y
    have sz := sq_nn z
    have hz : x = 0 ∧ y = 0 ∧ z = 0 := by
      have pos : ∀ {a b c : Int}, 0 < a → 0 < b → 0 < c → a * (x * x) + b * (y * y) + c * (z * z) = 0 → x = 0 ∧ y = 0 ∧ z = 0 := fun {a b c} ha hb hc e => by
        have v1 := Int.mul_nonneg (show 0 ≤ a by omega) sx
        have v2 := Int.mul_nonneg (show 0 ≤ b by omega) sy
        have v3 := Int.mul_nonneg (show 0 ≤ c by omega) sz
        have k : ∀ {u v : Int}, 0 < u → u * (v * v) = 0 → v = 0 := fun {u v} hu h => by
          rcases Int.mul_eq_zero.1 h with h | h
          · omega
          · rcases Int.mul_eq_zero.1 h with h | h <;> exact h
        exact ⟨k ha (by omega), k hb (by omega), k hc (by omega)⟩
      rcases Int.lt_or_gt_of_ne a0 with a1 | a1
      · rw [Int.sign_eq_neg_one_of_neg a1] at h1 h2
        have b1 := Int.sign_eq_neg_one_iff_neg.1 h1.symm
        have c1 := Int.sign_eq_neg_one_iff_neg.1 h2.symm
        exact pos (a := -a) (b := -b) (c := -c) (by omega) (by omega) (by omega) (by rw [Int.neg_mul, Int.neg_mul, Int.neg_mul]; omega)
      · rw [Int.sign_eq_one_of_pos a1] at h1 h2
        exact pos a1 (Int.sign_eq_one_iff_pos.1 h1.symm) (Int.sign_eq_one_iff_pos.1 h2.symm) e
    obtain ⟨rfl, rfl, rfl⟩ := hz
    have := Int.le_of_dvd (by omega) (hm 2 (Int.dvd_zero _) (Int.dvd_zero _) (Int.dvd_zero _))
    omega
  · intro p hp _ hd
    rcases h.o p hp hd with ⟨h1, h2, h3⟩ | ⟨h1, h2, h3⟩ | ⟨h1, h2, h3⟩
    · rw [kk1 h1]; exact sol_root hp h1 h.sa a0 h2 h3 e hm
    · rw [kk2 h1 h2]; exact sol_root hp h2 h.sb b0 h1 h3 (by omega) (fun m k1 k2 k3 => hm m k2 k1 k3)
    · rw [kk3 h1 h2]; exact sol_root hp h3 h.sc c0 h1 h2 (by omega) (fun m k1 k2 k3 => hm m k2 k3 k1)
end Go.Proofs.Ytdhennlanngjgaa
