/- Parts WA WB WC laid together by tp.py. -/
import Derived.Test.YtkpiiicefmkhcaaVP
import Derived.Test.YtkpiiicefmkhcaaN5
import Derived.Test.YtkpiiicefmkhcaaNA
import Derived.Test.YtkpiiicefmkhcaaVC
namespace Go.Proofs.Ytkpiiicefmkhcaa
section

def swM : M4 := ⟨0, -1, 1, 0⟩
def tM (e : Int) : M4 := ⟨1, e, 0, 1⟩
/-- The matrix of the rest of a word, from m on. -/
def evW (m : M4) : List Int → M4
  | [] => m
  | e :: L => evW ((m.mul swM).mul (tM e)) L
/-- The matrix of a word (without its sign). -/
def wordM : List Int → M4
  | [] => M4.one
  | e :: L => evW (tM e) L
theorem one_mul4 (m : M4) : M4.one.mul m = m := by unfold M4.mul M4.one; refine M4.ext4 ?_ ?_ ?_ ?_ <;> simp
theorem mul_one4 (m : M4) : m.mul M4.one = m := by unfold M4.mul M4.one; refine M4.ext4 ?_ ?_ ?_ ?_ <;> simp
theorem evW_mul : ∀ (L : List Int) (k m : M4), evW (k.mul m) L = k.mul (evW m L)
  | [], k, m => rfl
  | e :: L, k, m => by
    simp only [evW]
    rw [mul_assoc4 k m swM, mul_assoc4 k (m.mul swM) (tM e), evW_mul L k]
theorem evW_eq (m : M4) (L : List Int) : evW m L = m.mul (evW M4.one L) := by
  rw [← evW_mul, mul_one4]
theorem evW_snoc : ∀ (L : List Int) (m : M4) (e : Int), evW m (L ++ [e]) = ((evW m L).mul swM).mul (tM e)
  | [], m, e => rfl
  | x :: L, m, e => by
    simp only [List.cons_append, evW]
    exact evW_snoc L _ e
theorem wordM_snoc {L : List Int} (h : L ≠ []) (e : Int) : wordM (L ++ [e]) = ((wordM L).mul swM).mul (tM e) := by
  cases L with
  | nil => exact absurd rfl h
  | cons x L => simp only [List.cons_append, wordM]; exact evW_snoc L _ e
theorem wordM_cons (x : Int) {L : List Int} (h : L ≠ []) : wordM (x :: L) = (tM x).mul (swM.mul (wordM L)) := by
  cases L with
  | nil => exact absurd rfl h
  | cons y L =>
    simp only [wordM, evW]
    rw [mul_assoc4 (tM x) swM (tM y), evW_mul L (tM x), evW_mul L swM]
theorem tM_add (x y : Int) : (tM x).mul (tM y) = tM (x + y) := by unfold M4.mul tM; refine M4.ext4 ?_ ?_ ?_ ?_ <;> simp; omega
theorem det_tM (x : Int) : (tM x).det = 1 := by unfold M4.det tM; simp
theorem det_swM : swM.det = 1 := by unfold M4.det swM; simp
theorem evW_det : ∀ (L : List Int) (m : M4), (evW m L).det = m.det
  | [], m => rfl
  | e :: L, m => by
    simp only [evW]
    rw [evW_det L, det_mul, det_mul, det_tM, det_swM]; simp
theorem wordM_det (L : List Int) : (wordM L).det = 1 := by
  cases L with
  | nil => rfl
  | cons x L => simp only [wordM]; rw [evW_det, det_tM]
/-- A product of words. -/
theorem wordM_prod : ∀ (A : List Int) (x y : Int) (B : List Int), wordM (A ++ (x + y) :: B) = (wordM (A ++ [x])).mul (wordM (y :: B))
  | [], x, y, B => by
    simp only [List.nil_append, wordM, evW]
    rw [← tM_add, evW_mul]
  | a :: A, x, y, B => by
    have h1 : A ++ (x + y) :: B ≠ [] := by simp
    have h2 : A ++ [x] ≠ [] := by simp
    rw [List.cons_append, List.cons_append, wordM_cons a h1, wordM_cons a h2, wordM_prod A x y B, mul_assoc4, mul_assoc4]
def sgM (s : Int) (m : M4) : M4 := ⟨s * m.p, s * m.q, s * m.r, s * m.s⟩
theorem sgM_mul (s t : Int) (m n : M4) : (sgM s m).mul (sgM t n) = sgM (s * t) (m.mul n) := by
  unfold sgM M4.mul
  refine M4.ext4 ?_ ?_ ?_ ?_ <;> simp only <;> grind
theorem sgM_one (m : M4) : sgM 1 m = m := by unfold sgM; simp
/-- The inverse word. -/
def invL (L : List Int) : List Int := (L.reverse).map fun e => -e
theorem invL_cons (e : Int) (L : List Int) : invL (e :: L) = invL L ++ [-e] := by simp [invL]
theorem inv_mul {a b : M4} (ha : a.det = 1) (hb : b.det = 1) : (a.mul b).inv = b.inv.mul a.inv := by
  have hab : (a.mul b).det = 1 := by rw [det_mul, ha, hb]; rfl
  rw [M4.inv1 ha, M4.inv1 hb, M4.inv1 hab]
  unfold M4.mul
  refine M4.ext4 ?_ ?_ ?_ ?_ <;> simp only <;> grind
def pmL (L : List Int) : Int := if L.length % 2 = 0 then -1 else 1
theorem pmL_cons (e : Int) (L : List Int) : pmL (e :: L) = -pmL L := by
  unfold pmL
  rw [List.length_cons]
  rcases Nat.mod_two_eq_zero_or_one L.length with h | h
  · rw [if_pos h, if_neg (by omega)]; rfl
  · rw [if_pos (by omega), if_neg (by omega)]
theorem wordM_inv : ∀ (L : List Int), L ≠ [] → sgM (pmL L) (wordM (invL L)) = (wordM L).inv
  | [], h => absurd rfl h
  | [e], _ => by
    show sgM 1 (tM (-e)) = (tM e).inv
    rw [M4.inv1 (det_tM e), sgM_one]
    unfold tM
    refine M4.ext4 ?_ ?_ ?_ ?_ <;> simp
  | e :: x :: L, _ => by
    have ih := wordM_inv (x :: L) (by simp)
    have hne : invL (x :: L) ≠ [] := by simp [invL]
    rw [wordM_cons e (by simp : x :: L ≠ []), invL_cons, wordM_snoc hne, pmL_cons, inv_mul (det_tM e) (by rw [det_mul, det_swM, wordM_det]; rfl), inv_mul det_swM (wordM_det _), ← ih]
    generalize wordM (invL (x :: L)) = m
    generalize pmL (x :: L) = s
    rw [M4.inv1 (det_tM e), M4.inv1 det_swM]
    unfold sgM M4.mul tM swM
    refine M4.ext4 ?_ ?_ ?_ ?_ <;> simp only <;> grind
/-- One step of the word of a matrix: the exponent and what is left. -/
def rsO (p r : Int) : Int := if 2 * (p % (r.natAbs : Int)) > (r.natAbs : Int) then p % (r.natAbs : Int) - (r.natAbs : Int) else p % (r.natAbs : Int)
def quO (p r : Int) : Int := (p - rsO p r) / r
def stO (m : M4) : M4 := ⟨m.r, m.s, quO m.p m.r * m.r - m.p, quO m.p m.r * m.s - m.q⟩
theorem rsO_bd {p r : Int} (h : r ≠ 0) : 2 * rsO p r ≤ r.natAbs ∧ -(r.natAbs : Int) < 2 * rsO p r ∧ r ∣ p - rsO p r := by
  have h0 : (0 : Int) < r.natAbs := by omega
  have h1 := Int.emod_nonneg p (show (r.natAbs : Int) ≠ 0 by omega)
  have h2 := Int.emod_lt_of_pos p h0
  have h3 : (r.natAbs : Int) ∣ p - p % r.natAbs := Int.dvd_self_sub_emod
  have h4 : r ∣ (r.natAbs : Int) := Int.dvd_natAbs.2 (Int.dvd_refl r)
  unfold rsO
  split
  · refine ⟨by omega, by omega, ?_⟩
    have : p - (p % (r.natAbs : Int) - r.natAbs) = (p - p % (r.natAbs : Int)) + r.natAbs := by omega
    rw [this]
    exact Int.dvd_add (Int.dvd_trans h4 h3) h4
  · exact ⟨by omega, by omega, Int.dvd_trans h4 h3⟩
theorem quO_mul {p r : Int} (h : r ≠ 0) : quO p r * r = p - rsO p r := by
  unfold quO
  exact Int.ediv_mul_cancel (rsO_bd h).2.2
theorem stO_r {m : M4} (h : m.r ≠ 0) : (stO m).r = -rsO m.p m.r := by
  unfold stO; simp only; rw [quO_mul h]; omega
theorem stO_lt {m : M4} (h : m.r ≠ 0) : (stO m).r.natAbs < m.r.natAbs ∧ 2 * (stO m).r.natAbs ≤ m.r.natAbs := by
  rw [stO_r h]
  have := rsO_bd (p := m.p) h
  omega
theorem stO_det {m : M4} : (stO m).det = m.det := by
  unfold stO M4.det; simp only; grind
/-- The exponents of the word of a matrix (n rounds at most). -/
def wO : Nat → M4 → List Int
  | 0, m => [m.p * m.q]
  | n + 1, m => if m.r = 0 then [m.p * m.q] else quO m.p m.r :: wO n (stO m)
/-- The sign of the word of a matrix. -/
def sO : Nat → M4 → Int
  | 0, m => m.p
  | n + 1, m => if m.r = 0 then m.p else sO n (stO m)
theorem wO_ne : ∀ (n : Nat) (m : M4), wO n m ≠ []
  | 0, m => by simp [wO]
  | n + 1, m => by unfold wO; split <;> simp
theorem end_pm {m : M4} (h : m.det = 1) (hr : m.r = 0) : (m.p = 1 ∧ m.s = 1) ∨ (m.p = -1 ∧ m.s = -1) := by
  unfold M4.det at h
  rw [hr, Int.mul_zero, Int.sub_zero] at h
  have hn : m.p.natAbs = 1 := Nat.dvd_one.1 ⟨m.s.natAbs, by rw [← Int.natAbs_mul, h]; rfl⟩
  rcases (show m.p = 1 ∨ m.p = -1 by omega) with e | e
  · left; rw [e] at h; exact ⟨e, by omega⟩
  · right; rw [e] at h; exact ⟨e, by omega⟩
theorem wO_val : ∀ (n : Nat) (m : M4), m.det = 1 → m.r.natAbs < 2 ^ n → sgM (sO n m) (wordM (wO n m)) = m ∧ (sO n m = 1 ∨ sO n m = -1) := by
  have base : ∀ m : M4, m.det = 1 → m.r = 0 → sgM m.p (wordM [m.p * m.q]) = m ∧ (m.p = 1 ∨ m.p = -1) := by
    intro m hd hr
    have hpm := end_pm hd hr
    refine ⟨?_, by omega⟩
    show sgM m.p (tM (m.p * m.q)) = m
    unfold sgM tM
    rcases hpm with ⟨e1, e2⟩ | ⟨e1, e2⟩ <;> refine M4.ext4 ?_ ?_ ?_ ?_ <;> simp only <;> rw [e1] <;> omega
  intro n
  induction n with
  | zero =>
    intro m hd hr
    exact base m hd (by omega)
  | succ n ih =>
    intro m hd hr
    unfold wO sO
    by_cases h0 : m.r = 0
    · rw [if_pos h0, if_pos h0]; exact base m hd h0
    · rw [if_neg h0, if_neg h0]
      have hl := stO_lt h0
      rw [Nat.pow_succ] at hr
      obtain ⟨h1, h2⟩ := ih (stO m) (by rw [stO_det]; exact hd) (by omega)
      refine ⟨?_, h2⟩
      rw [wordM_cons _ (wO_ne n _)]
      have e : sgM (sO n (stO m)) ((tM (quO m.p m.r)).mul (swM.mul (wordM (wO n (stO m))))) = (tM (quO m.p m.r)).mul (swM.mul (sgM (sO n (stO m)) (wordM (wO n (stO m))))) := by
        generalize wordM (wO n (stO m)) = x
        generalize sO n (stO m) = s
        unfold sgM M4.mul tM swM
        refine M4.ext4 ?_ ?_ ?_ ?_ <;> simp only <;> grind
      rw [e, h1]
      unfold stO M4.mul tM swM
      refine M4.ext4 ?_ ?_ ?_ ?_ <;> simp only <;> grind
/-- Bounds along the way. -/
structure BdO (m : M4) : Prop where
  det : m.det = 1
  p : -1000000 ≤ m.p ∧ m.p ≤ 1000000
  q : -1000000 ≤ m.q ∧ m.q ≤ 1000000
  r : -1000000 ≤ m.r ∧ m.r ≤ 1000000
  s : -1000000 ≤ m.s ∧ m.s ≤ 1000000
theorem quO_bd {p r : Int} (h : r ≠ 0) (hp : -1000000 ≤ p ∧ p ≤ 1000000) : -1000000 ≤ quO p r ∧ quO p r ≤ 1000000 := by
  have hq := quO_mul (p := p) h
  have hb := rsO_bd (p := p) h
  generalize rsO p r = t at *
  generalize quO p r = q at *
  by_cases h1 : r.natAbs = 1
  · have ht : t = 0 := by omega
    rcases (show r = 1 ∨ r = -1 by omega) with e | e <;> rw [e] at hq <;> omega
  · constructor
    · apply Int.not_lt.1
      intro hlt
      rcases (show 2 ≤ r ∨ r ≤ -2 by omega) with e | e
      · have : q * r ≤ -1000001 * r := Int.mul_le_mul_of_nonneg_right (by omega) (by omega)
        omega
      · have : -1000001 * r ≤ q * r := Int.mul_le_mul_of_nonpos_right (by omega) (by omega)
        omega
    · apply Int.not_lt.1
      intro hlt
      rcases (show 2 ≤ r ∨ r ≤ -2 by omega) with e | e
      · have : 1000001 * r ≤ q * r := Int.mul_le_mul_of_nonneg_right (by omega) (by omega)
        omega
      · have : q * r ≤ 1000001 * r := Int.mul_le_mul_of_nonpos_right (by omega) (by omega)
        omega
theorem BdO.step {m : M4} (h : BdO m) (hr : m.r ≠ 0) : BdO (stO m) := by
  have hdet : (stO m).det = 1 := by rw [stO_det]; exact h.det
  have hl := stO_lt hr
  have h3 := h.r; have h4 := h.s
  have e1 : (stO m).p = m.r := rfl
  have e2 : (stO m).q = m.s := rfl
  refine ⟨hdet, by rw [e1]; exact h3, by rw [e2]; exact h4, by omega, ?_⟩
  unfold M4.det at hdet
  rw [e1, e2] at hdet
  generalize (stO m).s = S at *
  generalize (stO m).r = R at *
  -- m.r * S = 1 + m.s * R, 2|R| ≤ |m.r|
  have hmr := h3
  have hR : -(500000 : Int) ≤ R ∧ R ≤ 500000 := by omega
  constructor
  · apply Int.not_lt.1
    intro hlt
    rcases (show 1 ≤ m.r ∨ m.r ≤ -1 by omega) with e | e
    · have k1 : m.r * S ≤ m.r * -1000001 := Int.mul_le_mul_of_nonneg_left (by omega) (by omega)
      have k2 := mul_bd (a := m.s) (x := 2 * R) (A := 1000000) (X := m.r) (by omega) (by omega) (by omega) (by omega)
      rw [Int.mul_left_comm] at k2
      omega
    · have k1 : m.r * -1000001 ≤ m.r * S := Int.mul_le_mul_of_nonpos_left (by omega) (by omega)
      have k2 := mul_bd (a := m.s) (x := 2 * R) (A := 1000000) (X := -m.r) (by omega) (by omega) (by omega) (by omega)
      rw [Int.mul_left_comm] at k2
      omega
  · apply Int.not_lt.1
    intro hlt
    rcases (show 1 ≤ m.r ∨ m.r ≤ -1 by omega) with e | e
    · have k1 : m.r * 1000001 ≤ m.r * S := Int.mul_le_mul_of_nonneg_left (by omega) (by omega)
      have k2 := mul_bd (a := m.s) (x := 2 * R) (A := 1000000) (X := m.r) (by omega) (by omega) (by omega) (by omega)
      rw [Int.mul_left_comm] at k2
      omega
    · have k1 : m.r * S ≤ m.r * 1000001 := Int.mul_le_mul_of_nonpos_left (by omega) (by omega)
      have k2 := mul_bd (a := m.s) (x := 2 * R) (A := 1000000) (X := -m.r) (by omega) (by omega) (by omega) (by omega)
      rw [Int.mul_left_comm] at k2
      omega
theorem wO_bd : ∀ (n : Nat) (m : M4), BdO m → m.r.natAbs < 2 ^ n → (∀ e ∈ wO n m, -1000000 ≤ e ∧ e ≤ 1000000) ∧ (wO n m).length ≤ n + 1 := by
  have base : ∀ m : M4, BdO m → m.r = 0 → ∀ e ∈ [m.p * m.q], -1000000 ≤ e ∧ e ≤ 1000000 := by
    intro m h hr e he
    rw [List.mem_singleton] at he
    have hq := h.q
    rcases end_pm h.det hr with ⟨e1, _⟩ | ⟨e1, _⟩ <;> rw [he, e1] <;> omega
  intro n
  induction n with
  | zero =>
    intro m h hr
    exact ⟨base m h (by omega), by simp [wO]⟩
  | succ n ih =>
    intro m h hr
    unfold wO
    by_cases h0 : m.r = 0
    · rw [if_pos h0]; exact ⟨base m h h0, by simp⟩
    · rw [if_neg h0]
      have hl := stO_lt h0
      rw [Nat.pow_succ] at hr
      obtain ⟨h1, h2⟩ := ih (stO m) (h.step h0) (by omega)
      refine ⟨?_, by simp; exact h2⟩
      intro e he
      rcases List.mem_cons.1 he with rfl | he
      · exact quO_bd h0 h.p
      · exact h1 e he
theorem wO_more : ∀ (n k : Nat) (m : M4), m.r.natAbs < 2 ^ n → m.r.natAbs < 2 ^ k → wO n m = wO k m ∧ sO n m = sO k m := by
  intro n
  induction n with
  | zero =>
    intro k m h1 h2
    have h0 : m.r = 0 := by omega
    cases k with
    | zero => exact ⟨rfl, rfl⟩
    | succ k => simp [wO, sO, h0]
  | succ n ih =>
    intro k m h1 h2
    by_cases h0 : m.r = 0
    · cases k with
      | zero => simp [wO, sO, h0]
      | succ k => simp [wO, sO, h0]
    · have hl := stO_lt h0
      cases k with
      | zero => omega
      | succ k =>
        rw [Nat.pow_succ] at h1 h2
        have := ih k (stO m) (by omega) (by omega)
        simp [wO, sO, h0, this.1, this.2]
/-- The word of a matrix. -/
def wordL (m : M4) : List Int := wO m.r.natAbs m
def wordS (m : M4) : Int := sO m.r.natAbs m
theorem wordL_end {m : M4} (h : m.r = 0) : wordL m = [m.p * m.q] ∧ wordS m = m.p := by
  unfold wordL wordS; rw [h]; exact ⟨rfl, rfl⟩
theorem wordL_step {m : M4} (h : m.r ≠ 0) : wordL m = quO m.p m.r :: wordL (stO m) ∧ wordS m = wordS (stO m) := by
  have hl := stO_lt h
  obtain ⟨n, hn⟩ : ∃ n, m.r.natAbs = n + 1 := ⟨m.r.natAbs - 1, by omega⟩
  unfold wordL wordS
  have k1 : n < 2 ^ n := Nat.lt_two_pow_self
  have := wO_more n (stO m).r.natAbs (stO m) (by omega) Nat.lt_two_pow_self
  rw [hn]
  simp [wO, sO, h, this.1, this.2]
theorem wordL_val {m : M4} (h : m.det = 1) : sgM (wordS m) (wordM (wordL m)) = m ∧ (wordS m = 1 ∨ wordS m = -1) := wO_val _ m h Nat.lt_two_pow_self
theorem wordL_bd {m : M4} (h : BdO m) : (∀ e ∈ wordL m, -1000000 ≤ e ∧ e ≤ 1000000) ∧ (wordL m).length ≤ 21 ∧ wordL m ≠ [] := by
  have hr := h.r
  have hlt : m.r.natAbs < 2 ^ 20 := by omega
  have h1 := wO_bd 20 m h hlt
  rw [(wO_more 20 m.r.natAbs m hlt Nat.lt_two_pow_self).1] at h1
  exact ⟨h1.1, h1.2, wO_ne _ _⟩
end

section
open Go.RowKit Go

/-- Whether a sign and exponents make a word. -/
def isWd (s : Int) (L : List Int) : Bool := decide (s.natAbs = 1) && (decide (1 ≤ L.length) && (decide (L.length ≤ 40) && L.all isNum))
theorem isWd_yes {s : Int} {L : List Int} (h : isWd s L = true) : s.natAbs = 1 ∧ 1 ≤ L.length ∧ L.length ≤ 40 ∧ L.all isNum = true := by
  unfold isWd at h
  simp only [Bool.and_eq_true, decide_eq_true_eq] at h
  exact h
def sgn64 (s : Int) : Prop := -4000000000000000000 ≤ s ∧ s ≤ 4000000000000000000
/-- The exponents lie in a row of their own. -/
def OwnE (w : World) (B : Nat) (v : Value) (L : List Int) : Prop := L.length ≤ 1000000 ∧ w.ownsRow B 3 1 v L.length (cellsI L)

end

section
open Go.RowKit Go

/-- A word and a verdict, the exponents in new memory. -/
def RetW (s : Int) (L : List Int) (ok : Bool) (w : World) (e : Ending) (w' : World) : Prop := ∃ v, e = .returned (.tuple #[.agg #[.int .i64 s, v], .bool ok]) ∧ w'.ownsRow w.heap.size 3 1 v L.length (cellsI L) ∧ Below w.heap.size w w'
theorem isWd_wordL {m : M4} (h : BdO m) : isWd (wordS m) (wordL m) = true := by
  obtain ⟨h1, h2, h3⟩ := wordL_bd h
  have hs := (wordL_val h.det).2
  unfold isWd
  simp only [Bool.and_eq_true, decide_eq_true_eq, List.all_eq_true]
  refine ⟨by omega, ?_, by omega, fun e he => (isNum_iff e).2 (h1 e he)⟩
  cases hL : wordL m with
  | nil => exact absurd hL h3
  | cons => simp
theorem own_nqv {w : World} {B2 k sz : Nat} {e : TypeId} {u x : Value} {xs : List Value} {p : Addr} (hne : ∀ q, u.ownBlock = some q → q ≠ p.block) (h : w.ownsRow B2 e sz u k xs) : (w.setCell p x).ownsRow B2 e sz u k xs :=
  h.kept (row := some p.block) ⟨rfl, rfl, rfl, by simp, fun k _ hn => Below.heap_setCell w p x k (fun e => hn (by rw [e]))⟩ (by
    cases hq : u.ownBlock with
    | none => exact .inl rfl
    | some q => exact .inr (fun he => by injection he with he; exact hne q hq he))
theorem one1v (u : Int) : ∀ x ∈ ([.int .i64 u] : List Value), x.oneCell' = true := by
  intro x hx; rw [List.mem_singleton] at hx; subst hx; rfl
theorem quO_tdiv {p r : Int} (h : r ≠ 0) : (p - rsO p r).tdiv r = quO p r := by
  unfold quO
  exact Int.tdiv_eq_ediv_of_dvd (rsO_bd h).2.2

end
end Go.Proofs.Ytkpiiicefmkhcaa
