/- Parts OA OB laid together by tp.py. -/
import Derived.Test.YtblcmkhkbgikoaaGreatVP
namespace Go.Proofs.YtblcmkhkbgikoaaGreat
section

def dtP (p q : Int × Int) : Int := p.1 * q.2 - p.2 * q.1
def ltP (p q : Int × Int) : Bool := decide (p.1 < q.1) || (decide (p.1 = q.1) && decide (p.2 < q.2))
def canP (x y : Int) : Int × Int := if x < 0 ∨ (x = 0 ∧ y < 0) then (-x, -y) else (x, y)
structure Nd where
  u : Int × Int
  v : Int × Int
  w : Int × Int
/-- A region, as a point without bounds. -/
structure PrG (p : Int × Int) : Prop where
  g : Int.gcd p.1 p.2 = 1
  c : 0 < p.1 ∨ (p.1 = 0 ∧ p.2 = 1)
/-- The three points of a node, in some order. -/
def Is3 (n : Nd) (p q r : Int × Int) : Prop :=
  (n.u = p ∧ n.v = q ∧ n.w = r) ∨ (n.u = p ∧ n.v = r ∧ n.w = q) ∨ (n.u = q ∧ n.v = p ∧ n.w = r) ∨ (n.u = q ∧ n.v = r ∧ n.w = p) ∨ (n.u = r ∧ n.v = p ∧ n.w = q) ∨ (n.u = r ∧ n.v = q ∧ n.w = p)
structure NdG (p q r : Int × Int) : Prop where
  gp : PrG p
  gq : PrG q
  gr : PrG r
  pq : dtP p q = 1 ∨ dtP p q = -1
  pr : dtP p r = 1 ∨ dtP p r = -1
  qr : dtP q r = 1 ∨ dtP q r = -1
theorem dt_sw (p q : Int × Int) : dtP q p = -dtP p q := by
  unfold dtP
  have h1 := Int.mul_comm q.1 p.2
  have h2 := Int.mul_comm q.2 p.1
  omega
theorem NdG.s1 {p q r : Int × Int} (h : NdG p q r) : NdG q p r := ⟨h.gq, h.gp, h.gr, by have := h.pq; have := dt_sw p q; omega, h.qr, h.pr⟩
theorem NdG.s2 {p q r : Int × Int} (h : NdG p q r) : NdG p r q := ⟨h.gp, h.gr, h.gq, h.pr, h.pq, by have := h.qr; have := dt_sw q r; omega⟩
theorem Is3.good {n : Nd} {p q r : Int × Int} (h : Is3 n p q r) (g : NdG n.u n.v n.w) : NdG p q r := by
  rcases h with ⟨h1, h2, h3⟩ | ⟨h1, h2, h3⟩ | ⟨h1, h2, h3⟩ | ⟨h1, h2, h3⟩ | ⟨h1, h2, h3⟩ | ⟨h1, h2, h3⟩ <;> rw [h1, h2, h3] at g
  · exact g
  · exact g.s2
  · exact g.s1
  · exact g.s2.s1
  · exact g.s1.s2
  · exact g.s1.s2.s1
theorem Is3.bad {n : Nd} {p q r : Int × Int} (h : Is3 n p q r) (g : NdG p q r) : NdG n.u n.v n.w := by
  rcases h with ⟨h1, h2, h3⟩ | ⟨h1, h2, h3⟩ | ⟨h1, h2, h3⟩ | ⟨h1, h2, h3⟩ | ⟨h1, h2, h3⟩ | ⟨h1, h2, h3⟩ <;> rw [h1, h2, h3]
  · exact g
  · exact g.s2
  · exact g.s1
  · exact g.s1.s2
  · exact g.s2.s1
  · exact g.s1.s2.s1
theorem can_cases (x y : Int) : canP x y = (x, y) ∨ canP x y = (-x, -y) := by unfold canP; split <;> simp
theorem can_good {x y : Int} (h : Int.gcd x y = 1) : PrG (canP x y) := by
  refine ⟨?_, ?_⟩
  · rcases can_cases x y with e | e <;> rw [e]
    · exact h
    · simp only [Int.neg_gcd, Int.gcd_neg]; exact h
  · unfold canP
    by_cases h0 : x = 0
    · subst h0
      have h : y.natAbs = 1 := by simpa using h
      split
      · show 0 < -(0 : Int) ∨ -(0 : Int) = 0 ∧ -y = 1; omega
      · show 0 < (0 : Int) ∨ (0 : Int) = 0 ∧ y = 1; omega
    · split
      · show 0 < -x ∨ -x = 0 ∧ -y = 1; omega
      · show 0 < x ∨ x = 0 ∧ y = 1; omega
theorem can_self {p : Int × Int} (h : PrG p) : canP p.1 p.2 = p := by
  have := h.c
  unfold canP
  rw [if_neg (by omega)]
theorem can_neg {p : Int × Int} (h : PrG p) : canP (-p.1) (-p.2) = p := by
  have := h.c
  unfold canP
  rw [if_pos (by omega)]
  simp
/-- The point on the other side of an edge. -/
def nwP (p q o : Int × Int) : Int × Int := if canP (p.1 + q.1) (p.2 + q.2) = o then canP (p.1 - q.1) (p.2 - q.2) else canP (p.1 + q.1) (p.2 + q.2)
theorem old_pm {p q o : Int × Int} (h : NdG p q o) : o = canP (p.1 + q.1) (p.2 + q.2) ∨ o = canP (p.1 - q.1) (p.2 - q.2) := by
  have e1 : dtP p q * o.1 = -dtP q o * p.1 + dtP p o * q.1 := by unfold dtP; grind
  have e2 : dtP p q * o.2 = -dtP q o * p.2 + dtP p o * q.2 := by unfold dtP; grind
  have hs := can_self h.gr
  have hn := can_neg h.gr
  rcases h.pq with a | a <;> rcases h.pr with b | b <;> rcases h.qr with c | c <;> rw [a, b, c] at e1 e2
  · right; rw [show p.1 - q.1 = -o.1 by omega, show p.2 - q.2 = -o.2 by omega]; exact hn.symm
  · left; rw [show p.1 + q.1 = o.1 by omega, show p.2 + q.2 = o.2 by omega]; exact hs.symm
  · left; rw [show p.1 + q.1 = -o.1 by omega, show p.2 + q.2 = -o.2 by omega]; exact hn.symm
  · right; rw [show p.1 - q.1 = o.1 by omega, show p.2 - q.2 = o.2 by omega]; exact hs.symm
  · right; rw [show p.1 - q.1 = o.1 by omega, show p.2 - q.2 = o.2 by omega]; exact hs.symm
  · left; rw [show p.1 + q.1 = -o.1 by omega, show p.2 + q.2 = -o.2 by omega]; exact hn.symm
  · left; rw [show p.1 + q.1 = o.1 by omega, show p.2 + q.2 = o.2 by omega]; exact hs.symm
  · right; rw [show p.1 - q.1 = -o.1 by omega, show p.2 - q.2 = -o.2 by omega]; exact hn.symm
/-- The old and the new point are p + q and p - q, but for signs. -/
theorem nw_pm {p q o : Int × Int} (h : NdG p q o) : (o = canP (p.1 + q.1) (p.2 + q.2) ∧ nwP p q o = canP (p.1 - q.1) (p.2 - q.2)) ∨ (o = canP (p.1 - q.1) (p.2 - q.2) ∧ nwP p q o = canP (p.1 + q.1) (p.2 + q.2)) := by
  unfold nwP
  by_cases e : canP (p.1 + q.1) (p.2 + q.2) = o
  · rw [if_pos e]; exact .inl ⟨e.symm, rfl⟩
  · rw [if_neg e]
    rcases old_pm h with h1 | h1
    · exact absurd h1.symm e
    · exact .inr ⟨h1, rfl⟩
theorem gcd_of_dt {p r : Int × Int} (h : dtP p r = 1 ∨ dtP p r = -1) : Int.gcd r.1 r.2 = 1 := by
  have hd1 : (Int.gcd r.1 r.2 : Int) ∣ r.1 := Int.gcd_dvd_left ..
  have hd2 : (Int.gcd r.1 r.2 : Int) ∣ r.2 := Int.gcd_dvd_right ..
  have hd : (Int.gcd r.1 r.2 : Int) ∣ dtP p r := by
    unfold dtP
    exact Int.dvd_sub (Int.dvd_trans hd2 (Int.dvd_mul_left _ _)) (Int.dvd_trans hd1 (Int.dvd_mul_left _ _))
  have : (Int.gcd r.1 r.2 : Int) ∣ 1 := by
    rcases h with h | h
    · rw [h] at hd; exact hd
    · rw [h] at hd; exact Int.dvd_neg.1 hd
  have := Int.le_of_dvd (by omega) this
  have h0 : Int.gcd r.1 r.2 ≠ 0 := by
    intro e
    rw [e] at hd
    have := Int.zero_dvd.1 hd
    omega
  omega
theorem can_dt {p : Int × Int} {x y : Int} (h : dtP p (x, y) = 1 ∨ dtP p (x, y) = -1) : dtP p (canP x y) = 1 ∨ dtP p (canP x y) = -1 := by
  rcases can_cases x y with e | e <;> rw [e]
  · exact h
  · have : dtP p (-x, -y) = -dtP p (x, y) := by unfold dtP; simp only; rw [Int.mul_neg, Int.mul_neg]; omega
    omega
theorem nw_good {p q o : Int × Int} (h : NdG p q o) : NdG p q (nwP p q o) := by
  have hpq := h.pq
  have a1 : dtP p (p.1 + q.1, p.2 + q.2) = dtP p q := by unfold dtP; grind
  have a2 : dtP p (p.1 - q.1, p.2 - q.2) = -dtP p q := by unfold dtP; grind
  have a3 : dtP q (p.1 + q.1, p.2 + q.2) = -dtP p q := by unfold dtP; grind
  have a4 : dtP q (p.1 - q.1, p.2 - q.2) = -dtP p q := by unfold dtP; grind
  rcases nw_pm h with ⟨_, e⟩ | ⟨_, e⟩ <;> rw [e]
  · exact ⟨h.gp, h.gq, can_good (gcd_of_dt (p := p) (r := (p.1 - q.1, p.2 - q.2)) (by omega)), hpq, can_dt (by omega), can_dt (by omega)⟩
  · exact ⟨h.gp, h.gq, can_good (gcd_of_dt (p := p) (r := (p.1 + q.1, p.2 + q.2)) (by omega)), hpq, can_dt (by omega), can_dt (by omega)⟩
/-- The value of a form at a point. -/
def vF (a b c : Int) (p : Int × Int) : Int := atF a b c p.1 p.2
theorem v_can (a b c x y : Int) : vF a b c (canP x y) = vF a b c (x, y) := by
  rcases can_cases x y with e | e <;> rw [e]
  unfold vF atF; simp only; grind
theorem v_par {p q o : Int × Int} (a b c : Int) (h : NdG p q o) : vF a b c (nwP p q o) + vF a b c o = 2 * vF a b c p + 2 * vF a b c q := by
  have e : vF a b c (p.1 + q.1, p.2 + q.2) + vF a b c (p.1 - q.1, p.2 - q.2) = 2 * vF a b c p + 2 * vF a b c q := by unfold vF atF; simp only; grind
  rcases nw_pm h with ⟨h1, h2⟩ | ⟨h1, h2⟩
  · rw [h2, h1, v_can, v_can]; omega
  · rw [h2, h1, v_can, v_can]; omega
theorem v_pos {a b c : Int} {p : Int × Int} (ha : 0 < a) (hd : b * b < 4 * (a * c)) (h : PrG p) : 0 < vF a b c p := by
  have key : 4 * a * vF a b c p = (2 * a * p.1 + b * p.2) * (2 * a * p.1 + b * p.2) + (4 * (a * c) - b * b) * (p.2 * p.2) := by unfold vF atF; grind
  have h1 := sq_nn (2 * a * p.1 + b * p.2)
  have h2 := sq_nn p.2
  have h3 : 0 < 4 * a * vF a b c p := by
    rw [key]
    by_cases hy : p.2 = 0
    · have hx : 0 < p.1 := by have := h.c; omega
      rw [hy]
      have : 0 < (2 * a * p.1 + b * 0) * (2 * a * p.1 + b * 0) := by
        have e : 2 * a * p.1 + b * 0 = 2 * (a * p.1) := by rw [Int.mul_zero, Int.mul_assoc]; omega
        have := Int.mul_pos ha hx
        rw [e]; exact Int.mul_pos (by omega) (by omega)
      omega
    · have hy2 : 0 < p.2 * p.2 := by
        rcases Int.lt_or_gt_of_ne hy with hl | hl
        · exact Int.mul_pos_of_neg_of_neg hl hl
        · exact Int.mul_pos hl hl
      have := Int.mul_pos (show 0 < 4 * (a * c) - b * b by omega) hy2
      omega
  have h4 : 0 < 4 * a := by omega
  exact Int.not_le.1 (fun hle => by have := Int.mul_nonpos_of_nonneg_of_nonpos (Int.le_of_lt h4) hle; omega)
/-- Which value is greater than the two others together. -/
def stpI (x y z : Int) : Nat := if 2 * x > x + y + z then 1 else if 2 * y > x + y + z then 2 else if 2 * z > x + y + z then 3 else 0
def stpN (a b c : Int) (n : Nd) : Nat := stpI (vF a b c n.u) (vF a b c n.v) (vF a b c n.w)
def spP (n : Nd) (i : Nat) : Int × Int := if i = 1 then n.v else n.u
def spQ (n : Nd) (i : Nat) : Int × Int := if i = 1 then n.w else if i = 2 then n.w else n.v
def spO (n : Nd) (i : Nat) : Int × Int := if i = 1 then n.u else if i = 2 then n.v else n.w
/-- Three points in their order. -/
def srt3 (a b c : Int × Int) : Nd :=
  if ltP b a then (if ltP c a then (if ltP c b then ⟨c, b, a⟩ else ⟨b, c, a⟩) else ⟨b, a, c⟩)
  else (if ltP c b then (if ltP c a then ⟨c, a, b⟩ else ⟨a, c, b⟩) else ⟨a, b, c⟩)
theorem srt3_is (a b c : Int × Int) : Is3 (srt3 a b c) a b c := by
  unfold srt3 Is3
  split
  · split
    · split <;> simp
    · simp
  · split
    · split <;> simp
    · simp
def nxN (n : Nd) (i : Nat) : Nd := srt3 (spP n i) (spQ n i) (nwP (spP n i) (spQ n i) (spO n i))
theorem sp_is (n : Nd) (i : Nat) (h1 : 1 ≤ i) (h3 : i ≤ 3) : Is3 n (spP n i) (spQ n i) (spO n i) := by
  unfold spP spQ spO Is3
  rcases (show i = 1 ∨ i = 2 ∨ i = 3 by omega) with rfl | rfl | rfl <;> simp
theorem stp_le (x y z : Int) : stpI x y z ≤ 3 := by unfold stpI; split <;> (try split) <;> (try split) <;> omega
theorem stp_old {a b c : Int} {n : Nd} (h : stpN a b c n ≠ 0) : vF a b c (spP n (stpN a b c n)) + vF a b c (spQ n (stpN a b c n)) < vF a b c (spO n (stpN a b c n)) := by
  unfold stpN stpI at *
  by_cases h1 : 2 * vF a b c n.u > vF a b c n.u + vF a b c n.v + vF a b c n.w
  · rw [if_pos h1]; unfold spP spQ spO; simp; omega
  · rw [if_neg h1] at h ⊢
    by_cases h2 : 2 * vF a b c n.v > vF a b c n.u + vF a b c n.v + vF a b c n.w
    · rw [if_pos h2]; unfold spP spQ spO; simp; omega
    · rw [if_neg h2] at h ⊢
      by_cases h3 : 2 * vF a b c n.w > vF a b c n.u + vF a b c n.v + vF a b c n.w
      · rw [if_pos h3]; unfold spP spQ spO; simp; omega
      · rw [if_neg h3] at h; exact absurd rfl h
theorem stp_well {a b c : Int} {n : Nd} (h : stpN a b c n = 0) {p q r : Int × Int} (hi : Is3 n p q r) : vF a b c r ≤ vF a b c p + vF a b c q := by
  unfold stpN stpI at h
  by_cases h1 : 2 * vF a b c n.u > vF a b c n.u + vF a b c n.v + vF a b c n.w
  · rw [if_pos h1] at h; omega
  · rw [if_neg h1] at h
    by_cases h2 : 2 * vF a b c n.v > vF a b c n.u + vF a b c n.v + vF a b c n.w
    · rw [if_pos h2] at h; omega
    · rw [if_neg h2] at h
      by_cases h3 : 2 * vF a b c n.w > vF a b c n.u + vF a b c n.v + vF a b c n.w
      · rw [if_pos h3] at h; omega
      · rcases hi with ⟨e1, e2, e3⟩ | ⟨e1, e2, e3⟩ | ⟨e1, e2, e3⟩ | ⟨e1, e2, e3⟩ | ⟨e1, e2, e3⟩ | ⟨e1, e2, e3⟩ <;> rw [e1, e2, e3] at h1 h2 h3 <;> omega
theorem Is3.sum {n : Nd} {p q r : Int × Int} (h : Is3 n p q r) (a b c : Int) : vF a b c n.u + vF a b c n.v + vF a b c n.w = vF a b c p + vF a b c q + vF a b c r := by
  rcases h with ⟨e1, e2, e3⟩ | ⟨e1, e2, e3⟩ | ⟨e1, e2, e3⟩ | ⟨e1, e2, e3⟩ | ⟨e1, e2, e3⟩ | ⟨e1, e2, e3⟩ <;> rw [e1, e2, e3] <;> omega
theorem Is3.all {n : Nd} {p q r : Int × Int} (h : Is3 n p q r) {P : Int × Int → Prop} : (P n.u ∧ P n.v ∧ P n.w) ↔ (P p ∧ P q ∧ P r) := by
  rcases h with ⟨e1, e2, e3⟩ | ⟨e1, e2, e3⟩ | ⟨e1, e2, e3⟩ | ⟨e1, e2, e3⟩ | ⟨e1, e2, e3⟩ | ⟨e1, e2, e3⟩ <;> rw [e1, e2, e3] <;> constructor <;> (rintro ⟨x, y, z⟩; refine ⟨?_, ?_, ?_⟩ <;> assumption)
/-- The path down, with a bound of its length. -/
def pthN (a b c : Int) : Nat → Nd → List Nd
  | 0, n => [n]
  | k + 1, n => if stpN a b c n = 0 then [n] else n :: pthN a b c k (nxN n (stpN a b c n))
def szN (a b c : Int) (n : Nd) : Nat := (vF a b c n.u + vF a b c n.v + vF a b c n.w).toNat
structure DefV (a b c : Int) : Prop where
  a0 : 0 < a
  d : b * b < 4 * (a * c)
/-- The data of one step down. -/
theorem step_data {a b c : Int} {n : Nd} (_ : DefV a b c) (g : NdG n.u n.v n.w) (h : stpN a b c n ≠ 0) : ∃ p q o, Is3 n p q o ∧ NdG p q o ∧ Is3 (nxN n (stpN a b c n)) p q (nwP p q o) ∧ vF a b c p + vF a b c q < vF a b c o ∧ vF a b c (nwP p q o) < vF a b c p + vF a b c q := by
  have h3 := stp_le (vF a b c n.u) (vF a b c n.v) (vF a b c n.w)
  have hi := sp_is n (stpN a b c n) (by omega) h3
  have hg := hi.good g
  have ho := stp_old h
  have hp := v_par a b c hg
  exact ⟨_, _, _, hi, hg, srt3_is _ _ _, ho, by omega⟩
theorem nx_good {a b c : Int} {n : Nd} (hf : DefV a b c) (g : NdG n.u n.v n.w) (h : stpN a b c n ≠ 0) : NdG (nxN n (stpN a b c n)).u (nxN n (stpN a b c n)).v (nxN n (stpN a b c n)).w := by
  obtain ⟨p, q, o, _, hg, hi, _, _⟩ := step_data hf g h
  exact hi.bad (nw_good hg)
theorem nx_lt {a b c : Int} {n : Nd} (hf : DefV a b c) (g : NdG n.u n.v n.w) (h : stpN a b c n ≠ 0) : szN a b c (nxN n (stpN a b c n)) < szN a b c n := by
  obtain ⟨p, q, o, h0, hg, hi, h1, h2⟩ := step_data hf g h
  unfold szN
  rw [hi.sum, h0.sum]
  have k1 := v_pos hf.a0 hf.d hg.gp
  have k2 := v_pos hf.a0 hf.d hg.gq
  omega
theorem pthN_more {a b c : Int} (hf : DefV a b c) : ∀ (k j : Nat) (n : Nd), NdG n.u n.v n.w → szN a b c n ≤ k → szN a b c n ≤ j → pthN a b c k n = pthN a b c j n := by
  have stop : ∀ n : Nd, NdG n.u n.v n.w → szN a b c n = 0 → False := by
    intro n g h
    have k1 := v_pos hf.a0 hf.d g.gp
    have k2 := v_pos hf.a0 hf.d g.gq
    have k3 := v_pos hf.a0 hf.d g.gr
    unfold szN at h
    omega
  intro k
  induction k with
  | zero => intro j n g h1; exact (stop n g (by omega)).elim
  | succ k ih =>
    intro j n g h1 h2
    cases j with
    | zero => exact (stop n g (by omega)).elim
    | succ j =>
      unfold pthN
      by_cases h0 : stpN a b c n = 0
      · rw [if_pos h0, if_pos h0]
      · rw [if_neg h0, if_neg h0]
        have := nx_lt hf g h0
        rw [ih j _ (nx_good hf g h0) (by omega) (by omega)]
/-- The path down. -/
def path (a b c : Int) (n : Nd) : List Nd := pthN a b c (szN a b c n) n
theorem path_end {a b c : Int} {n : Nd} (h : stpN a b c n = 0) : path a b c n = [n] := by
  unfold path
  cases szN a b c n with
  | zero => rfl
  | succ k => unfold pthN; rw [if_pos h]
theorem path_step {a b c : Int} {n : Nd} (hf : DefV a b c) (g : NdG n.u n.v n.w) (h : stpN a b c n ≠ 0) : path a b c n = n :: path a b c (nxN n (stpN a b c n)) := by
  have hl := nx_lt hf g h
  unfold path
  obtain ⟨k, hk⟩ : ∃ k, szN a b c n = k + 1 := ⟨szN a b c n - 1, by omega⟩
  rw [hk]
  conv => lhs; unfold pthN
  rw [if_neg h, pthN_more hf k (szN a b c (nxN n (stpN a b c n))) _ (nx_good hf g h) (by omega) (Nat.le_refl _)]
/-- Induction down a path. -/
theorem path_ind {a b c : Int} (hf : DefV a b c) {P : Nd → Prop} (h0 : ∀ n, NdG n.u n.v n.w → stpN a b c n = 0 → P n) (h1 : ∀ n, NdG n.u n.v n.w → stpN a b c n ≠ 0 → P (nxN n (stpN a b c n)) → P n) (n : Nd) (g : NdG n.u n.v n.w) : P n := by
  have : ∀ (k : Nat) (n : Nd), NdG n.u n.v n.w → szN a b c n ≤ k → P n := by
    intro k
    induction k with
    | zero =>
      intro n g hk
      by_cases e : stpN a b c n = 0
      · exact h0 n g e
      · have := nx_lt hf g e; omega
    | succ k ih =>
      intro n g hk
      by_cases e : stpN a b c n = 0
      · exact h0 n g e
      · exact h1 n g e (ih _ (nx_good hf g e) (by have := nx_lt hf g e; omega))
  exact this _ n g (Nat.le_refl _)
/-- A well. -/
structure Well (a b c : Int) (n : Nd) : Prop where
  g : NdG n.u n.v n.w
  s : stpN a b c n = 0
theorem path_last {a b c : Int} (hf : DefV a b c) (n : Nd) (g : NdG n.u n.v n.w) : ∃ m, Well a b c m ∧ (path a b c n).getLast? = some m := by
  refine path_ind hf (P := fun n => ∃ m, Well a b c m ∧ (path a b c n).getLast? = some m) ?_ ?_ n g
  · intro n g h; exact ⟨n, ⟨g, h⟩, by rw [path_end h]; rfl⟩
  · rintro n g h ⟨m, hm, hl⟩
    refine ⟨m, hm, ?_⟩
    rw [path_step hf g h]
    cases hp : path a b c (nxN n (stpN a b c n)) with
    | nil => rw [hp] at hl; cases hl
    | cons y L => rw [hp] at hl; rw [List.getLast?_cons_cons]; exact hl
theorem path_good {a b c : Int} (hf : DefV a b c) (n : Nd) (g : NdG n.u n.v n.w) : ∀ m ∈ path a b c n, NdG m.u m.v m.w := by
  refine path_ind hf (P := fun n => ∀ m ∈ path a b c n, NdG m.u m.v m.w) ?_ ?_ n g
  · intro n g h m hm; rw [path_end h, List.mem_singleton] at hm; rw [hm]; exact g
  · intro n g h ih m hm
    rw [path_step hf g h] at hm
    rcases List.mem_cons.1 hm with e | hm
    · rw [e]; exact g
    · exact ih m hm
theorem path_head (a b c : Int) (n : Nd) : n ∈ path a b c n := by
  unfold path
  cases szN a b c n with
  | zero => exact List.mem_singleton.2 rfl
  | succ k => unfold pthN; split; exact List.mem_singleton.2 rfl; exact List.mem_cons_self ..
/-- All three points of a node are below a bound, for a measure of points. -/
def Lo (G : Int × Int → Int) (B : Int) (n : Nd) : Prop := G n.u ≤ B ∧ G n.v ≤ B ∧ G n.w ≤ B
theorem path_out {a b c : Int} (hf : DefV a b c) {G : Int × Int → Int} (hG : ∀ p q o, NdG p q o → G (nwP p q o) + G o = 2 * G p + 2 * G q) (h0 : ∀ p, 0 ≤ G p) {B : Int} (n : Nd) (g : NdG n.u n.v n.w) :
    (∃ p q r, Is3 n p q r ∧ G p + G q < G r ∧ vF a b c r < vF a b c p + vF a b c q) → (∀ m, (path a b c n).getLast? = some m → Lo G B m) → ∀ m ∈ path a b c n, Lo G B m := by
  refine path_ind hf (P := fun n => (∃ p q r, Is3 n p q r ∧ G p + G q < G r ∧ vF a b c r < vF a b c p + vF a b c q) → (∀ m, (path a b c n).getLast? = some m → Lo G B m) → ∀ m ∈ path a b c n, Lo G B m) ?_ ?_ n g
  · intro n g h _ hl m hm
    rw [path_end h, List.mem_singleton] at hm
    rw [hm]
    exact hl n (by rw [path_end h]; rfl)
  · rintro n g h ih ⟨p, q, r, hi, hGr, hFr⟩ hl m hm
    obtain ⟨p', q', o, h1, hg, h2, h3, h4⟩ := step_data hf g h
    have hGn := hG _ _ _ hg
    -- the old point is not r
    have key : G o < G p' + G q' ∧ (G o ≤ G p' ∨ G o ≤ G q') := by
      have a1 := h0 p; have a2 := h0 q; have a3 := h0 r
      have b1 := v_pos hf.a0 hf.d hg.gp
      have b2 := v_pos hf.a0 hf.d hg.gq
      rcases hi with ⟨e1, e2, e3⟩ | ⟨e1, e2, e3⟩ | ⟨e1, e2, e3⟩ | ⟨e1, e2, e3⟩ | ⟨e1, e2, e3⟩ | ⟨e1, e2, e3⟩ <;>
        rcases h1 with ⟨f1, f2, f3⟩ | ⟨f1, f2, f3⟩ | ⟨f1, f2, f3⟩ | ⟨f1, f2, f3⟩ | ⟨f1, f2, f3⟩ | ⟨f1, f2, f3⟩ <;>
        (rw [e1] at f1; rw [e2] at f2; rw [e3] at f3; subst f1; subst f2; subst f3; omega)
    have hn' : ∀ m ∈ path a b c (nxN n (stpN a b c n)), Lo G B m := by
      refine ih ⟨p', q', _, h2, by omega, h4⟩ ?_
      intro m hm
      refine hl m ?_
      rw [path_step hf g h]
      cases hp : path a b c (nxN n (stpN a b c n)) with
      | nil => rw [hp] at hm; cases hm
      | cons y L => rw [hp] at hm; rw [List.getLast?_cons_cons]; exact hm
    rw [path_step hf g h] at hm
    rcases List.mem_cons.1 hm with e | hm
    · have hh := hn' _ (path_head _ _ _ _)
      have hx := (h2.all (P := fun x => G x ≤ B)).1 hh
      rw [e]
      exact (h1.all (P := fun x => G x ≤ B)).2 ⟨hx.1, hx.2.1, by rcases key.2 with k | k <;> omega⟩
    · exact hn' m hm
theorem path_lo {a b c : Int} (hf : DefV a b c) {G : Int × Int → Int} (hG : ∀ p q o, NdG p q o → G (nwP p q o) + G o = 2 * G p + 2 * G q) (h0 : ∀ p, 0 ≤ G p) {B : Int} (n : Nd) (g : NdG n.u n.v n.w) :
    Lo G B n → (∀ m, (path a b c n).getLast? = some m → Lo G B m) → ∀ m ∈ path a b c n, Lo G B m := by
  refine path_ind hf (P := fun n => Lo G B n → (∀ m, (path a b c n).getLast? = some m → Lo G B m) → ∀ m ∈ path a b c n, Lo G B m) ?_ ?_ n g
  · intro n g h hL hl m hm
    rw [path_end h, List.mem_singleton] at hm
    rw [hm]; exact hL
  · intro n g h ih hL hl m hm
    obtain ⟨p', q', o, h1, hg, h2, h3, h4⟩ := step_data hf g h
    have hGn := hG _ _ _ hg
    have hx := (h1.all (P := fun x => G x ≤ B)).1 hL
    have hl' : ∀ m, (path a b c (nxN n (stpN a b c n))).getLast? = some m → Lo G B m := by
      intro m hm
      refine hl m ?_
      rw [path_step hf g h]
      cases hp : path a b c (nxN n (stpN a b c n)) with
      | nil => rw [hp] at hm; cases hm
      | cons y L => rw [hp] at hm; rw [List.getLast?_cons_cons]; exact hm
    have hn' : ∀ m ∈ path a b c (nxN n (stpN a b c n)), Lo G B m := by
      by_cases hc : G p' + G q' < G (nwP p' q' o)
      · exact path_out hf hG h0 _ (nx_good hf g h) ⟨p', q', _, h2, hc, h4⟩ hl'
      · refine ih ((h2.all (P := fun x => G x ≤ B)).2 ⟨hx.1, hx.2.1, by omega⟩) hl'
    rw [path_step hf g h] at hm
    rcases List.mem_cons.1 hm with e | hm
    · rw [e]; exact hL
    · exact hn' m hm
end

section

/-- A form with |b| ≤ a ≤ c. -/
structure SmF (g : Fm) : Prop where
  a0 : 0 < g.a
  b1 : -g.a ≤ g.b
  b2 : g.b ≤ g.a
  ac : g.a ≤ g.c
theorem sm_c {g : Fm} (h : SmF g) {x y : Int} (hy : y ≠ 0) : g.c ≤ atF g.a g.b g.c x y := by
  have a0 := h.a0; have b1 := h.b1; have b2 := h.b2; have ac := h.ac
  unfold atF
  have hxy := sq_nn (x.natAbs - y.natAbs : Int)
  obtain ⟨u, hu⟩ : ∃ u : Int, u = x.natAbs := ⟨_, rfl⟩
  obtain ⟨v, hv⟩ : ∃ v : Int, v = y.natAbs := ⟨_, rfl⟩
  have u0 : 0 ≤ u := by omega
  have v0 : 1 ≤ v := by omega
  have xx : x * x = u * u := by rw [hu]; exact (Int.natAbs_mul_self' x).symm
  have yy : y * y = v * v := by rw [hv]; exact (Int.natAbs_mul_self' y).symm
  have xy : -(u * v) ≤ x * y ∧ x * y ≤ u * v := by
    have : ((x * y).natAbs : Int) = u * v := by rw [hu, hv, Int.natAbs_mul, Int.natCast_mul]
    omega
  have buv : -(g.a * (u * v)) ≤ g.b * (x * y) := by
    have h1 : 0 ≤ u * v := Int.mul_nonneg u0 (by omega)
    have := mul_bd (a := g.b) (x := x * y) (A := g.a) (X := u * v) b1 b2 xy.1 xy.2
    exact this.1
  have e1 : g.a * x * x + g.b * x * y + g.c * y * y = g.a * (u * u) + g.b * (x * y) + g.c * (v * v) := by rw [← xx, ← yy]; grind
  rw [e1]
  have k1 : 0 ≤ (g.c - g.a) * (v * v - 1) := Int.mul_nonneg (by omega) (by have := Int.mul_le_mul v0 v0 (by omega) (by omega); omega)
  have k2 : g.a ≤ g.a * (u * u - u * v + v * v) := by
    have : 1 ≤ u * u - u * v + v * v := by
      rcases Int.le_total u v with hl | hl
      · have q1 : u * v ≤ v * v := Int.mul_le_mul_of_nonneg_right hl (by omega)
        by_cases hu0 : u = 0
        · have := Int.mul_le_mul v0 v0 (by omega) (by omega); rw [hu0]; omega
        · have := Int.mul_le_mul (show 1 ≤ u by omega) (show 1 ≤ u by omega) (by omega) (by omega); omega
      · have q1 : u * v ≤ u * u := Int.mul_le_mul_of_nonneg_left hl (by omega)
        have := Int.mul_le_mul v0 v0 (by omega) (by omega); omega
    have := Int.mul_le_mul_of_nonneg_left this (Int.le_of_lt a0)
    omega
  have e2 : (g.c - g.a) * (v * v - 1) = g.c * (v * v) - g.c - g.a * (v * v) + g.a := by grind
  have e3 : g.a * (u * u - u * v + v * v) = g.a * (u * u) - g.a * (u * v) + g.a * (v * v) := by grind
  omega
theorem sm_a {g : Fm} (h : SmF g) {x y : Int} (hn : ¬ (x = 0 ∧ y = 0)) : g.a ≤ atF g.a g.b g.c x y := by
  by_cases hy : y = 0
  · have hx : x ≠ 0 := fun e => hn ⟨e, hy⟩
    have a0 := h.a0
    unfold atF
    rw [hy]
    have : 1 ≤ x * x := by
      have := Int.mul_pos (show (0 : Int) < x.natAbs by omega) (show (0 : Int) < x.natAbs by omega)
      rw [Int.natAbs_mul_self'] at this; omega
    have := Int.mul_le_mul_of_nonneg_left this (Int.le_of_lt a0)
    have e : g.a * x * x + g.b * x * 0 + g.c * 0 * 0 = g.a * (x * x) := by grind
    omega
  · have := sm_c h (x := x) hy
    have := h.ac; omega
theorem sm_le {g h : Fm} {N : M4} (hg : SmF g) (hh : SmF h) (hd : N.det = 1) (e : actM g N = h) : g.a ≤ h.a ∧ g.c ≤ h.c := by
  have e1 : atF g.a g.b g.c N.p N.r = h.a := congrArg Fm.a e
  have e2 : atF g.a g.b g.c N.q N.s = h.c := congrArg Fm.c e
  unfold M4.det at hd
  have n1 : ¬ (N.p = 0 ∧ N.r = 0) := by rintro ⟨a, b⟩; rw [a, b] at hd; simp at hd
  have n2 : ¬ (N.q = 0 ∧ N.s = 0) := by rintro ⟨a, b⟩; rw [a, b] at hd; simp at hd
  have h1 := sm_a hg n1
  have h2 := sm_a hg n2
  refine ⟨by omega, ?_⟩
  by_cases hs : N.s = 0
  · have hr : N.r ≠ 0 := by intro hr; rw [hs, hr] at hd; simp at hd
    have := sm_c hg (x := N.p) hr
    have := hh.ac; omega
  · have := sm_c hg (x := N.q) hs; omega
theorem disc_act1 {f : Fm} {m : M4} (h : m.det = 1) : disc (actM f m) = disc f := by
  unfold disc actM atF polF
  unfold M4.det at h
  simp only
  have e : (2 * f.a * m.p * m.q + f.b * (m.p * m.s + m.r * m.q) + 2 * f.c * m.r * m.s) * (2 * f.a * m.p * m.q + f.b * (m.p * m.s + m.r * m.q) + 2 * f.c * m.r * m.s) - 4 * (f.a * m.p * m.p + f.b * m.p * m.r + f.c * m.r * m.r) * (f.a * m.q * m.q + f.b * m.q * m.s + f.c * m.s * m.s) = (f.b * f.b - 4 * f.a * f.c) * ((m.p * m.s - m.q * m.r) * (m.p * m.s - m.q * m.r)) := by grind
  rw [e, h]; simp
theorem sm_eq {g h : Fm} {N : M4} (hg : SmF g) (hh : SmF h) (hd : N.det = 1) (e : actM g N = h) : g.a = h.a ∧ g.c = h.c ∧ (g.b = h.b ∨ g.b = -h.b) := by
  have e' : actM h N.inv = g := by rw [← e, act_mul, mul_inv4 hd, act_one]
  obtain ⟨h1, h2⟩ := sm_le hg hh hd e
  obtain ⟨h3, h4⟩ := sm_le hh hg (det_inv4 hd) e'
  have ea : g.a = h.a := by omega
  have ec : g.c = h.c := by omega
  refine ⟨ea, ec, ?_⟩
  have hdd := disc_act1 (f := g) hd
  rw [e] at hdd
  unfold disc at hdd
  rw [ea, ec] at hdd
  have hbb : h.b * h.b = g.b * g.b := by omega
  have : (g.b - h.b) * (g.b + h.b) = 0 := by
    have : (g.b - h.b) * (g.b + h.b) = g.b * g.b - h.b * h.b := by grind
    omega
  rcases Int.mul_eq_zero.1 this with k | k
  · left; omega
  · right; omega
theorem pol_sq {p q r : Int × Int} (a b c : Int) (h : NdG p q r) : vF a b c r - vF a b c p - vF a b c q = polF a b c p.1 p.2 q.1 q.2 ∨ vF a b c r - vF a b c p - vF a b c q = -polF a b c p.1 p.2 q.1 q.2 := by
  rcases old_pm h with e | e <;> rw [e, v_can]
  · left; unfold vF atF polF; simp only; grind
  · right; unfold vF atF polF; simp only; grind
/-- The form in the basis of two points of a node. -/
theorem basis_form {p q r : Int × Int} {f : Fm} (h : NdG p q r) : ∃ (M : M4) (s : Int), M.det = 1 ∧ (s = 1 ∨ s = -1) ∧ actM f M = ⟨vF f.a f.b f.c p, s * (vF f.a f.b f.c r - vF f.a f.b f.c p - vF f.a f.b f.c q), vF f.a f.b f.c q⟩ := by
  have hps := pol_sq f.a f.b f.c h
  rcases h.pq with e | e
  · have key : (actM f ⟨p.1, q.1, p.2, q.2⟩) = ⟨vF f.a f.b f.c p, polF f.a f.b f.c p.1 p.2 q.1 q.2, vF f.a f.b f.c q⟩ := rfl
    rcases hps with k | k
    · exact ⟨⟨p.1, q.1, p.2, q.2⟩, 1, by unfold M4.det; unfold dtP at e; simp only; rw [Int.mul_comm q.1 p.2]; exact e, .inl rfl, by rw [key, k]; simp⟩
    · exact ⟨⟨p.1, q.1, p.2, q.2⟩, -1, by unfold M4.det; unfold dtP at e; simp only; rw [Int.mul_comm q.1 p.2]; exact e, .inr rfl, by rw [key, k]; simp⟩
  · have key : (actM f ⟨p.1, -q.1, p.2, -q.2⟩) = ⟨vF f.a f.b f.c p, -polF f.a f.b f.c p.1 p.2 q.1 q.2, vF f.a f.b f.c q⟩ := by
      unfold actM vF atF polF; simp only [Fm.mk.injEq]; refine ⟨trivial, ?_, ?_⟩ <;> grind
    have hdet : (⟨p.1, -q.1, p.2, -q.2⟩ : M4).det = 1 := by
      unfold M4.det; unfold dtP at e; simp only; rw [Int.neg_mul, Int.mul_neg, Int.mul_comm q.1 p.2]; omega
    rcases hps with k | k
    · exact ⟨_, -1, hdet, .inr rfl, by rw [key, k]; simp⟩
    · exact ⟨_, 1, hdet, .inl rfl, by rw [key, k]; simp⟩
theorem Is3.sorted (n : Nd) (F : Int × Int → Int) : ∃ p q r, Is3 n p q r ∧ F p ≤ F q ∧ F q ≤ F r := by
  unfold Is3
  rcases Int.le_total (F n.u) (F n.v) with h1 | h1 <;> rcases Int.le_total (F n.v) (F n.w) with h2 | h2 <;> rcases Int.le_total (F n.u) (F n.w) with h3 | h3
  · exact ⟨n.u, n.v, n.w, by simp, h1, h2⟩
  · exact ⟨n.u, n.v, n.w, by simp, h1, h2⟩
  · exact ⟨n.u, n.w, n.v, by simp, h3, h2⟩
  · exact ⟨n.w, n.u, n.v, by simp, h3, h1⟩
  · exact ⟨n.v, n.u, n.w, by simp, h1, h3⟩
  · exact ⟨n.v, n.w, n.u, by simp, h2, h3⟩
  · exact ⟨n.w, n.v, n.u, by simp, h2, h1⟩
  · exact ⟨n.w, n.v, n.u, by simp, h2, h1⟩
/-- What holds at a well. -/
structure WellD (f : Fm) (n : Nd) (p q r : Int × Int) : Prop where
  is : Is3 n p q r
  a : vF f.a f.b f.c p = (red f).a
  c : vF f.a f.b f.c q = (red f).c
  t : vF f.a f.b f.c r = (red f).a + (red f).c - (red f).b.natAbs
theorem well_data {f : Fm} {n : Nd} (h : Def 1000000 f) (hw : Well f.a f.b f.c n) : ∃ p q r, WellD f n p q r := by
  obtain ⟨p, q, r, hi, h1, h2⟩ := Is3.sorted n (vF f.a f.b f.c)
  have hg := hi.good hw.g
  have hle := stp_well hw.s hi
  obtain ⟨M, s, hd, hs, hM⟩ := basis_form (f := f) hg
  have hp := v_pos h.a0 h.d hg.gp
  obtain ⟨hm, hdm⟩ := redM_act (def_mono h (by decide))
  have hr := (isRed_iff _ _ _).1 (red_isRed h)
  have hra := (red_def h).a0
  have hN : actM (red f) ((redM f M4.one).inv.mul M) = actM f M := by
    rw [← act_mul, ← hm, act_mul f, mul_inv4 hdm, act_one]
  rw [hM] at hN
  generalize hgE : red f = g at *
  have hsg : SmF g := ⟨hra, by omega, by omega, by omega⟩
  have hsh : SmF ⟨vF f.a f.b f.c p, s * (vF f.a f.b f.c r - vF f.a f.b f.c p - vF f.a f.b f.c q), vF f.a f.b f.c q⟩ := by
    refine ⟨hp, ?_, ?_, h1⟩ <;> simp only <;> rcases hs with rfl | rfl <;> omega
  obtain ⟨k1, k2, k3⟩ := sm_eq hsg hsh (by rw [det_mul, det_inv4 hdm, hd]; rfl) hN
  simp only at k1 k2 k3
  refine ⟨p, q, r, hi, by rw [hgE]; exact k1.symm, by rw [hgE]; exact k2.symm, ?_⟩
  rw [hgE]
  rcases hs with rfl | rfl <;> rcases k3 with k | k <;> omega
theorem well_bd {f : Fm} {n : Nd} (h : Def 1000000 f) (hw : Well f.a f.b f.c n) : ∀ x, (x = n.u ∨ x = n.v ∨ x = n.w) → (-2000 ≤ x.1 ∧ x.1 ≤ 2000) ∧ (-2000 ≤ x.2 ∧ x.2 ≤ 2000) := by
  obtain ⟨p, q, r, hi, h1, h2, h3⟩ := well_data h hw
  have hr := (isRed_iff _ _ _).1 (red_isRed h)
  have hra := (red_def h).a0
  have hdc := red_disc h
  have hdd := h.d
  have a0 := h.a0; have aM := h.aM; have c0 := h.c0; have cM := h.cM
  have D : 4 * (f.a * f.c) - f.b * f.b = 4 * ((red f).a * (red f).c) - (red f).b * (red f).b := by
    unfold disc at hdc
    rw [Int.mul_assoc, Int.mul_assoc] at hdc
    omega
  generalize red f = g at *
  have kb : g.b * g.b ≤ g.a * g.a := by
    have := mul_bd (a := g.b) (x := g.b) (A := g.a) (X := g.a) (by omega) (by omega) (by omega) (by omega)
    omega
  have k2 : g.a * g.a ≤ g.a * g.c := Int.mul_le_mul_of_nonneg_left (by omega) (by omega)
  have k3 : 1 * g.c ≤ g.a * g.c := Int.mul_le_mul_of_nonneg_right (by omega) (by omega)
  obtain ⟨DD, hDD⟩ : ∃ x, 4 * (f.a * f.c) - f.b * f.b = x := ⟨_, rfl⟩
  rw [hDD] at D
  have k5 : 3 * g.c ≤ DD := by omega
  have hDp : 0 < DD := by omega
  have all : (3 * vF f.a f.b f.c n.u ≤ 2 * DD) ∧ (3 * vF f.a f.b f.c n.v ≤ 2 * DD) ∧ (3 * vF f.a f.b f.c n.w ≤ 2 * DD) := by
    refine (hi.all (P := fun x => 3 * vF f.a f.b f.c x ≤ 2 * DD)).2 ⟨?_, ?_, ?_⟩
    · rw [h1]; omega
    · rw [h2]; omega
    · rw [h3]; omega
  have fin : ∀ (z t v : Int), 0 < t → t ≤ 1000000 → 3 * v ≤ 2 * DD → DD * (z * z) ≤ 4 * (t * v) → -2000 ≤ z ∧ z ≤ 2000 := by
    intro z t v t0 t1 hv hz
    refine abs_of_sq (by omega) ?_
    have m1 : t * (3 * v) ≤ t * (2 * DD) := Int.mul_le_mul_of_nonneg_left hv (by omega)
    have m2 : t * DD ≤ 1000000 * DD := Int.mul_le_mul_of_nonneg_right t1 (by omega)
    have m3 : t * (3 * v) = 3 * (t * v) := Int.mul_left_comm _ _ _
    have m5 : t * (2 * DD) = 2 * (t * DD) := Int.mul_left_comm _ _ _
    have m6 : 3 * (DD * (z * z)) ≤ 8000000 * DD := by omega
    apply Int.not_lt.1
    intro hl
    have := Int.mul_le_mul_of_nonneg_left (show 4000001 ≤ z * z by omega) (Int.le_of_lt hDp)
    omega
  intro x hx
  have hv : 3 * vF f.a f.b f.c x ≤ 2 * DD := by rcases hx with rfl | rfl | rfl; exact all.1; exact all.2.1; exact all.2.2
  obtain ⟨b1, b2⟩ := ent_bd (f := f) (x := x.1) (y := x.2) (v := vF f.a f.b f.c x) rfl
  rw [hDD] at b1 b2
  exact ⟨fin _ _ _ c0 cM hv b2, fin _ _ _ a0 aM hv b1⟩
/-- All nodes on the way down have numbers of the program. -/
def numN (n : Nd) : Prop := ((-1000000 ≤ n.u.1 ∧ n.u.1 ≤ 1000000) ∧ (-1000000 ≤ n.u.2 ∧ n.u.2 ≤ 1000000)) ∧ ((-1000000 ≤ n.v.1 ∧ n.v.1 ≤ 1000000) ∧ (-1000000 ≤ n.v.2 ∧ n.v.2 ≤ 1000000)) ∧ ((-1000000 ≤ n.w.1 ∧ n.w.1 ≤ 1000000) ∧ (-1000000 ≤ n.w.2 ∧ n.w.2 ≤ 1000000))
theorem nw_par {p q o : Int × Int} (h : NdG p q o) : (nwP p q o).1 * (nwP p q o).1 + o.1 * o.1 = 2 * (p.1 * p.1) + 2 * (q.1 * q.1) ∧ (nwP p q o).2 * (nwP p q o).2 + o.2 * o.2 = 2 * (p.2 * p.2) + 2 * (q.2 * q.2) := by
  have c1 : ∀ x y : Int, (canP x y).1 * (canP x y).1 = x * x := by intro x y; rcases can_cases x y with e | e <;> rw [e] <;> (simp only; grind)
  have c2 : ∀ x y : Int, (canP x y).2 * (canP x y).2 = y * y := by intro x y; rcases can_cases x y with e | e <;> rw [e] <;> (simp only; grind)
  rcases nw_pm h with ⟨h1, h2⟩ | ⟨h1, h2⟩ <;> rw [h2, h1, c1, c1, c2, c2] <;> constructor <;> grind
theorem path_num {f : Fm} {n : Nd} (h : Def 1000000 f) (g : NdG n.u n.v n.w) (hn : numN n) : ∀ m ∈ path f.a f.b f.c n, numN m := by
  have hf : DefV f.a f.b f.c := ⟨h.a0, h.d⟩
  have sq : ∀ x : Int, -1000000 ≤ x ∧ x ≤ 1000000 → x * x ≤ 1000000 * 1000000 := by
    intro x hx
    have := mul_bd (a := x) (x := x) (A := 1000000) (X := 1000000) hx.1 hx.2 hx.1 hx.2
    omega
  obtain ⟨⟨u1, u2⟩, ⟨v1, v2⟩, ⟨w1, w2⟩⟩ := hn
  have last : ∀ m, (path f.a f.b f.c n).getLast? = some m → ∀ x, (x = m.u ∨ x = m.v ∨ x = m.w) → (-2000 ≤ x.1 ∧ x.1 ≤ 2000) ∧ (-2000 ≤ x.2 ∧ x.2 ≤ 2000) := by
    intro m hm
    obtain ⟨m', hw, hl⟩ := path_last hf n g
    rw [hm] at hl
    injection hl with hl
    rw [hl]
    exact well_bd h hw
  have sm : ∀ x : Int, -2000 ≤ x ∧ x ≤ 2000 → x * x ≤ 1000000 * 1000000 := fun x hx => sq x (by omega)
  have l1 := path_lo hf (G := fun x => x.1 * x.1) (fun p q o hg => (nw_par hg).1) (fun p => sq_nn p.1) (B := 1000000 * 1000000) n g ⟨sq _ u1, sq _ v1, sq _ w1⟩ (fun m hm => ⟨sm _ (last m hm _ (.inl rfl)).1, sm _ (last m hm _ (.inr (.inl rfl))).1, sm _ (last m hm _ (.inr (.inr rfl))).1⟩)
  have l2 := path_lo hf (G := fun x => x.2 * x.2) (fun p q o hg => (nw_par hg).2) (fun p => sq_nn p.2) (B := 1000000 * 1000000) n g ⟨sq _ u2, sq _ v2, sq _ w2⟩ (fun m hm => ⟨sm _ (last m hm _ (.inl rfl)).2, sm _ (last m hm _ (.inr (.inl rfl))).2, sm _ (last m hm _ (.inr (.inr rfl))).2⟩)
  intro m hm
  obtain ⟨a1, a2, a3⟩ := l1 m hm
  obtain ⟨b1, b2, b3⟩ := l2 m hm
  exact ⟨⟨abs_of_sq (by omega) a1, abs_of_sq (by omega) b1⟩, ⟨abs_of_sq (by omega) a2, abs_of_sq (by omega) b2⟩, ⟨abs_of_sq (by omega) a3, abs_of_sq (by omega) b3⟩⟩
end
end Go.Proofs.YtblcmkhkbgikoaaGreat
