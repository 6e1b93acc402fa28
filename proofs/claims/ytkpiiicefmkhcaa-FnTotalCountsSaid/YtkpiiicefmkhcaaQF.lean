/- Plain facts: the points of all reduced forms with a value, over the square divisors of the value. No program in sight. -/
import Derived.Test.YtkpiiicefmkhcaaQY
import Derived.Test.YtkpiiicefmkhcaaTQ
namespace Go.Proofs.Ytkpiiicefmkhcaa

theorem SI_range (F : Nat → Nat) : ∀ N : Nat, ((((List.range N).map F).sum : Nat) : Int) = SI (fun k => (F k : Int)) N
  | 0 => rfl
  | N + 1 => by
    rw [List.range_succ, List.map_append, List.sum_append, Int.natCast_add, SI_range F N]
    show _ = SI (fun k => (F k : Int)) N + (F N : Int)
    simp
theorem SI_filter (P : Nat → Prop) [DecidablePred P] : ∀ N : Nat, ((((List.range N).filter fun k => decide (P k)).length : Nat) : Int) = SI (fun k => inD (P k)) N
  | 0 => rfl
  | N + 1 => by
    rw [List.range_succ, List.filter_append, List.length_append, Int.natCast_add, SI_filter P N]
    show _ = SI (fun k => inD (P k)) N + inD (P N)
    congr 1
    unfold inD
    by_cases h : P N <;> simp [h]
theorem fib_sumN {α : Type} (key : α → Nat) (G : List Nat) (hG : G.Nodup) (P : List α) (h : ∀ x ∈ P, key x ∈ G) : P.length = (G.map fun g => (P.filter fun x => decide (key x = g)).length).sum := by
  refine (fib_sum key G hG 0 P h).trans ?_
  congr 1
  refine List.map_congr_left fun g _ => ?_
  congr 1
  exact List.filter_congr fun x _ => decide_eq_decide.2 Iff.rfl
/-- The points with a value, by the greatest common divisor of their coordinates. -/
theorem pts_split {d : Int} {n : Nat} {f : Fm} (D : Dsc d) (hf : f ∈ clsL d) (hn : 1 ≤ n) :
    ((ptsL d n f).length : Int) = SI (fun t => if t * t ∣ n then ((prL d ((n / (t * t) : Nat) : Int) f).length : Int) else 0) (n + 1) := by
  have hkey : ∀ p ∈ ptsL d n f, Int.gcd p.1 p.2 * Int.gcd p.1 p.2 ∣ n ∧ 1 ≤ Int.gcd p.1 p.2 := by
    intro p hp
    have hv := (ptsL_mem D hf (by omega) p.1 p.2).1 hp
    have h1 : ((Int.gcd p.1 p.2 : Nat) : Int) ∣ p.1 := Int.gcd_dvd_left ..
    have h2 : ((Int.gcd p.1 p.2 : Nat) : Int) ∣ p.2 := Int.gcd_dvd_right ..
    refine ⟨?_, ?_⟩
    · obtain ⟨u, hu⟩ := h1
      obtain ⟨v, hv2⟩ := h2
      generalize Int.gcd p.1 p.2 = g at *
      have h3 : ((g * g : Nat) : Int) ∣ (n : Int) := ⟨f.a * u * u + f.b * u * v + f.c * v * v, by rw [← hv, hu, hv2, Int.natCast_mul]; grind⟩
      exact Int.natCast_dvd_natCast.1 h3
    · rcases Nat.eq_zero_or_pos (Int.gcd p.1 p.2) with h0 | h0
      · obtain ⟨e1, e2⟩ := Int.gcd_eq_zero_iff.1 h0
        rw [e1, e2] at hv
        simp at hv
        omega
      · exact h0
  rw [fib_sumN (fun p : Int × Int => Int.gcd p.1 p.2) (List.range (n + 1)) List.nodup_range (ptsL d n f) (fun p hp => List.mem_range.2 (by
    have := (hkey p hp).1
    have h1 := Nat.le_of_dvd (by omega) this
    have h2 := sq_ge (Int.gcd p.1 p.2)
    omega)), SI_range]
  refine SI_eq _ fun t _ => ?_
  by_cases ht : t * t ∣ n
  · rw [if_pos ht]
    obtain ⟨u, hu⟩ := ht
    have ht0 : 1 ≤ t := by
      rcases Nat.eq_zero_or_pos t with h0 | h0
      · rw [h0] at hu; omega
      · exact h0
    have htt : 0 < t * t := Nat.mul_pos ht0 ht0
    have hu2 : n / (t * t) = u := by rw [hu, Nat.mul_div_cancel_left _ htt]
    have hu1 : 1 ≤ u := by
      rcases Nat.eq_zero_or_pos u with h0 | h0
      · rw [h0] at hu; omega
      · exact h0
    rw [hu2]
    congr 1
    have hnd2 : ((prL d (u : Int) f).map fun p => ((t : Int) * p.1, (t : Int) * p.2)).Nodup := by
      unfold List.Nodup
      refine List.Pairwise.map _ (fun p q hpq he => hpq ?_) ((ptsL_nd D hf).filter _)
      obtain ⟨e1, e2⟩ := Prod.mk.inj he
      exact Prod.ext (Int.eq_of_mul_eq_mul_left (by omega) e1) (Int.eq_of_mul_eq_mul_left (by omega) e2)
    have hl := same_lenT ((ptsL_nd (n := (n : Int)) D hf).filter (fun p => decide (Int.gcd p.1 p.2 = t))) hnd2 (fun p => ?_)
    · rw [hl, List.length_map]
    · rw [List.mem_filter, List.mem_map, decide_eq_true_eq]
      constructor
      · rintro ⟨h1, h2⟩
        have hv := (ptsL_mem D hf (by omega) p.1 p.2).1 h1
        obtain ⟨x, hx⟩ : (t : Int) ∣ p.1 := by rw [← h2]; exact Int.gcd_dvd_left ..
        obtain ⟨y, hy⟩ : (t : Int) ∣ p.2 := by rw [← h2]; exact Int.gcd_dvd_right ..
        refine ⟨(x, y), (prL_mem D hf (by omega) _).2 ⟨?_, ?_⟩, ?_⟩
        · rw [hx, hy, Int.gcd_mul_left, Int.natAbs_natCast] at h2
          exact Nat.eq_of_mul_eq_mul_left ht0 (by rw [Nat.mul_one]; exact h2)
        · have e1 : ((t * t : Nat) : Int) * (f.a * x * x + f.b * x * y + f.c * y * y) = ((t * t : Nat) : Int) * u := by
            rw [← Int.natCast_mul, ← hu, ← hv, hx, hy, Int.natCast_mul]; grind
          exact Int.eq_of_mul_eq_mul_left (by omega) e1
        · exact Prod.ext hx.symm hy.symm
      · rintro ⟨q, hq, rfl⟩
        obtain ⟨h1, h2⟩ := (prL_mem D hf (by omega) q).1 hq
        refine ⟨(ptsL_mem D hf (by omega) _ _).2 ?_, ?_⟩
        · rw [hu, Int.natCast_mul, ← h2, Int.natCast_mul]; grind
        · show Int.gcd ((t : Int) * q.1) ((t : Int) * q.2) = t
          rw [Int.gcd_mul_left, h1, Int.natAbs_natCast, Nat.mul_one]
  · rw [if_neg ht]
    have : (ptsL d n f).filter (fun p => decide (Int.gcd p.1 p.2 = t)) = [] := by
      rw [List.filter_eq_nil_iff]
      intro p hp h1
      rw [decide_eq_true_eq] at h1
      exact ht (h1 ▸ (hkey p hp).1)
    rw [this]; rfl
/-- The forms that begin with m. -/
def ldsQ (s c : Int) (m : Nat) : List Fm := ((List.range m).filter fun x : Nat => decide ((m : Int) ∣ qx s c x)).map fun x : Nat => ⟨m, 2 * (x : Int) + s, qx s c x / m⟩
theorem ldsQ_len (s c : Int) (m : Nat) : ((ldsQ s c m).length : Int) = ZQ s c m := by
  unfold ldsQ ZQ
  rw [List.length_map]
  exact SI_filter (fun x : Nat => (m : Int) ∣ qx s c x) m
theorem ldsQ_nd (s c : Int) (m : Nat) : (ldsQ s c m).Nodup := by
  unfold ldsQ List.Nodup
  refine List.Pairwise.map _ (R := fun x y : Nat => x ≠ y) (fun x y hxy he => hxy ?_) (List.nodup_range.filter _)
  injection he with _ e2 _
  omega
theorem ldsQ_mem {d s c : Int} {m : Nat} (hs : s = 0 ∨ s = 1) (hd : s * s - 4 * c = d) (F : FunD d) (hm : 1 ≤ m) (g : Fm) : g ∈ ldsQ s c m ↔ IsLd d m g := by
  unfold ldsQ
  rw [List.mem_map]
  constructor
  · rintro ⟨x, hx, rfl⟩
    rw [List.mem_filter, List.mem_range, decide_eq_true_eq] at hx
    obtain ⟨h1, u, hu⟩ := hx
    have hq : qx s c x / (m : Int) = u := by rw [hu, Int.mul_ediv_cancel_left _ (by omega)]
    have hdi : disc ⟨m, 2 * (x : Int) + s, u⟩ = d := by
      show (2 * (x : Int) + s) * (2 * x + s) - 4 * m * u = d
      rw [← hd, Int.mul_assoc, ← hu]; unfold qx; grind
    refine ⟨rfl, by rcases hs with rfl | rfl <;> simp <;> omega, by rw [hq]; exact hdi, ?_⟩
    show Int.gcd (m : Int) (Int.gcd (2 * (x : Int) + s) (qx s c x / m) : Nat) = 1
    rw [hq]
    have d1 : ((Int.gcd (m : Int) (Int.gcd (2 * (x : Int) + s) u : Nat) : Nat) : Int) ∣ m := Int.gcd_dvd_left ..
    have d2 : ((Int.gcd (m : Int) (Int.gcd (2 * (x : Int) + s) u : Nat) : Nat) : Int) ∣ ((Int.gcd (2 * (x : Int) + s) u : Nat) : Int) := Int.gcd_dvd_right ..
    have d3 := Int.dvd_trans d2 (Int.gcd_dvd_left (2 * (x : Int) + s) u)
    have d4 := Int.dvd_trans d2 (Int.gcd_dvd_right (2 * (x : Int) + s) u)
    generalize Int.gcd (m : Int) (Int.gcd (2 * (x : Int) + s) u : Nat) = e at *
    have he0 : e ≠ 0 := fun h0 => by
      rw [h0] at d1
      obtain ⟨y, hy⟩ := d1
      have e0 : ((0 : Nat) : Int) * y = 0 := Int.zero_mul y
      omega
    by_cases he : 2 ≤ e
    · exfalso
      obtain ⟨a', ha⟩ := d1
      obtain ⟨b', hb⟩ := d3
      obtain ⟨c', hc⟩ := d4
      have e1 : d = (e : Int) * e * (b' * b' - 4 * a' * c') := by
        rw [← hdi]
        show (2 * (x : Int) + s) * (2 * x + s) - 4 * m * u = _
        rw [ha, hb, hc]; grind
      apply F e (by omega) ⟨_, e1⟩
      rw [e1, Int.mul_ediv_cancel_left _ (Int.mul_ne_zero (by omega) (by omega))]
      rcases (show b' % 2 = 0 ∨ b' % 2 = 1 by omega) with h5 | h5
      · obtain ⟨y, hy⟩ : ∃ y : Int, b' = 2 * y := ⟨b' / 2, by omega⟩
        have e3 : b' * b' - 4 * a' * c' = 4 * (y * y - a' * c') := by rw [hy]; grind
        omega
      · obtain ⟨y, hy⟩ : ∃ y : Int, b' = 2 * y + 1 := ⟨b' / 2, by omega⟩
        have e3 : b' * b' - 4 * a' * c' = 4 * (y * y + y - a' * c') + 1 := by rw [hy]; grind
        omega
    · omega
  · rintro ⟨h1, ⟨h2, h3⟩, h4, _⟩
    obtain ⟨a, b, e⟩ := g
    simp only at h1 h2 h3
    subst h1
    have h4' : b * b - 4 * m * e = d := h4
    have hpar : b % 2 = s % 2 := by
      rcases (show b % 2 = 0 ∨ b % 2 = 1 by omega) with h5 | h5
      · obtain ⟨y, hy⟩ : ∃ y : Int, b = 2 * y := ⟨b / 2, by omega⟩
        have e3 : b * b - 4 * m * e = 4 * (y * y - m * e) := by rw [hy]; grind
        rcases hs with rfl | rfl <;> omega
      · obtain ⟨y, hy⟩ : ∃ y : Int, b = 2 * y + 1 := ⟨b / 2, by omega⟩
        have e3 : b * b - 4 * m * e = 4 * (y * y + y - m * e) + 1 := by rw [hy]; grind
        rcases hs with rfl | rfl <;> omega
    obtain ⟨x, hx⟩ : ∃ x : Nat, b = 2 * (x : Int) + s := ⟨((b - s) / 2).toNat, by rcases hs with rfl | rfl <;> omega⟩
    have hq : qx s c x = m * e := by
      have : 4 * qx s c x = 4 * (m * e) := by
        have e5 : 4 * qx s c x = b * b - d := by rw [← hd, hx]; unfold qx; grind
        rw [e5, ← h4']; grind
      omega
    refine ⟨x, List.mem_filter.2 ⟨List.mem_range.2 (by rcases hs with rfl | rfl <;> omega), by rw [decide_eq_true_eq, hq]; exact Int.dvd_mul_right _ _⟩, ?_⟩
    rw [hq, Int.mul_ediv_cancel_left _ (by omega), ← hx]
theorem sum_swap_cls (L : List Fm) (F : Nat → Fm → Int) (N : Nat) : (L.map fun f => SI (fun t => F t f) N).sum = SI (fun t => (L.map fun f => F t f).sum) N := by
  induction L with
  | nil => simp [SI_zero]
  | cons f L ih =>
    rw [List.map_cons, List.sum_cons, ih, ← SI_add]
    exact SI_eq _ fun t _ => by rw [List.map_cons, List.sum_cons]
theorem cast_sum (L : List Fm) (F : Fm → Nat) : (((L.map F).sum : Nat) : Int) = (L.map fun f => (F f : Int)).sum := by
  induction L with
  | nil => rfl
  | cons f L ih => rw [List.map_cons, List.map_cons, List.sum_cons, List.sum_cons, Int.natCast_add, ih]
/-- The count of all points. -/
theorem total_count {d s c : Int} {n : Nat} (D : Dsc d) (hs : s = 0 ∨ s = 1) (hd : s * s - 4 * c = d) (F : FunD d) (h1 : 1 ≤ n) (h2 : n ≤ 10000) :
    (((((clsL d).map fun f => (ptsL d n f).length).sum : Nat)) : Int) = wD d * XS (fun k => kroN d k) n := by
  rw [cast_sum, List.map_congr_left (fun f hf => pts_split D hf h1), sum_swap_cls, ← roots_chars hs hd F h1 h2]
  unfold RS
  rw [← SI_mul]
  refine SI_eq _ fun t _ => ?_
  by_cases ht : t * t ∣ n
  · simp only [if_pos ht]
    obtain ⟨u, hu⟩ := ht
    have htt : 0 < t * t := by
      rcases Nat.eq_zero_or_pos (t * t) with h0 | h0
      · rw [h0] at hu; omega
      · exact h0
    have hu2 : n / (t * t) = u := by rw [hu, Nat.mul_div_cancel_left _ htt]
    have hu1 : 1 ≤ u := by
      rcases Nat.eq_zero_or_pos u with h0 | h0
      · rw [h0] at hu; omega
      · exact h0
    have hu3 : u ≤ n := by have := Nat.mul_le_mul_right u htt; omega
    rw [hu2, ← ldsQ_len, ← cast_sum, count_prim D ⟨by omega, by omega⟩ (ldsQ_nd s c u) (fun g => ldsQ_mem hs hd F hu1 g), Int.natCast_mul]
  · simp only [if_neg ht, Int.mul_zero]
    induction clsL d with
    | nil => rfl
    | cons f L ih => rw [List.map_cons, List.sum_cons, ih]; rfl
end Go.Proofs.Ytkpiiicefmkhcaa
