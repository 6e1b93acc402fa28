/- Plain facts: the points at which a reduced form has its least value; sorted lists of points. No program in sight. -/
import Derived.Test.YtblcmkhkbgikoaaGreatOX
namespace Go.Proofs.YtblcmkhkbgikoaaGreat

theorem sqn (x : Int) : 0 ≤ x * x := by
  rcases Int.le_total 0 x with h | h
  · exact Int.mul_nonneg h h
  · exact Int.mul_nonneg_of_nonpos_of_nonpos h h
theorem sq_le_one {y : Int} (h : 3 * (y * y) ≤ 4) : -1 ≤ y ∧ y ≤ 1 := by
  constructor
  · apply Int.not_lt.1; intro hl
    have := Int.mul_le_mul (show (2 : Int) ≤ -y by omega) (show (2 : Int) ≤ -y by omega) (by omega) (by omega)
    rw [Int.neg_mul_neg] at this
    omega
  · apply Int.not_lt.1; intro hl
    have := Int.mul_le_mul (show (2 : Int) ≤ y by omega) (show (2 : Int) ≤ y by omega) (by omega) (by omega)
    omega
theorem mul_le_pos {a u v : Int} (ha : 0 < a) (h : a * u ≤ a * v) : u ≤ v := Int.le_of_mul_le_mul_left h ha
/-- The points with the value a lie in the box. -/
theorem least_box {a b c x y : Int} (ha : 0 < a) (hb : -a ≤ b ∧ b ≤ a) (hac : a ≤ c) (hv : a * x * x + b * x * y + c * y * y = a) : (-1 ≤ x ∧ x ≤ 1) ∧ (-1 ≤ y ∧ y ≤ 1) := by
  have hyy := sqn y
  have hcy : a * (y * y) ≤ c * (y * y) := Int.mul_le_mul_of_nonneg_right hac hyy
  have e : a * x * x + b * x * y + c * y * y = a * (x * x) + b * (x * y) + c * (y * y) := by grind
  rw [e] at hv
  have key : (a * (4 * (x * x) - 4 * (x * y) + 4 * (y * y)) ≤ a * 4) ∨ (a * (4 * (x * x) + 4 * (x * y) + 4 * (y * y)) ≤ a * 4) := by
    rcases Int.le_total 0 (x * y) with h | h
    · left
      have hbz : -a * (x * y) ≤ b * (x * y) := Int.mul_le_mul_of_nonneg_right hb.1 h
      have e1 : a * (4 * (x * x) - 4 * (x * y) + 4 * (y * y)) = 4 * (a * (x * x)) + 4 * (-a * (x * y)) + 4 * (a * (y * y)) := by grind
      omega
    · right
      have hbz : a * (x * y) ≤ b * (x * y) := by
        have := Int.mul_le_mul_of_nonneg_right hb.2 (show 0 ≤ -(x * y) by omega)
        rw [Int.mul_neg, Int.mul_neg] at this
        omega
      have e1 : a * (4 * (x * x) + 4 * (x * y) + 4 * (y * y)) = 4 * (a * (x * x)) + 4 * (a * (x * y)) + 4 * (a * (y * y)) := by grind
      omega
  rcases key with h | h
  · have h1 := mul_le_pos ha h
    have s1 := sqn (2 * x - y); have s2 := sqn (2 * y - x)
    have e1 : (2 * x - y) * (2 * x - y) = 4 * (x * x) - 4 * (x * y) + y * y := by grind
    have e2 : (2 * y - x) * (2 * y - x) = 4 * (y * y) - 4 * (x * y) + x * x := by grind
    exact ⟨sq_le_one (by omega), sq_le_one (by omega)⟩
  · have h1 := mul_le_pos ha h
    have s1 := sqn (2 * x + y); have s2 := sqn (2 * y + x)
    have e1 : (2 * x + y) * (2 * x + y) = 4 * (x * x) + 4 * (x * y) + y * y := by grind
    have e2 : (2 * y + x) * (2 * y + x) = 4 * (y * y) + 4 * (x * y) + x * x := by grind
    exact ⟨sq_le_one (by omega), sq_le_one (by omega)⟩
/-- The nine points, as the reference takes them. -/
def box9 : List (Int × Int) := [(-1, -1), (-1, 0), (-1, 1), (0, -1), (0, 0), (0, 1), (1, -1), (1, 0), (1, 1)]
theorem box9_mem {x y : Int} (hx : -1 ≤ x ∧ x ≤ 1) (hy : -1 ≤ y ∧ y ≤ 1) : (x, y) ∈ box9 := by
  rcases (show x = -1 ∨ x = 0 ∨ x = 1 by omega) with rfl | rfl | rfl <;> rcases (show y = -1 ∨ y = 0 ∨ y = 1 by omega) with rfl | rfl | rfl <;> decide
/-- The points of the reference. -/
def shL (a b c : Int) : List (Int × Int) := box9.filter fun p => decide (a * p.1 * p.1 + b * p.1 * p.2 + c * p.2 * p.2 = a)
theorem shL_mem {a b c : Int} (ha : 0 < a) (hb : -a ≤ b ∧ b ≤ a) (hac : a ≤ c) (p : Int × Int) : p ∈ shL a b c ↔ a * p.1 * p.1 + b * p.1 * p.2 + c * p.2 * p.2 = a := by
  unfold shL
  rw [List.mem_filter, decide_eq_true_eq]
  constructor
  · exact fun h => h.2
  · intro h
    obtain ⟨h1, h2⟩ := least_box ha hb hac h
    exact ⟨box9_mem h1 h2, h⟩
theorem shL_nd (a b c : Int) : (shL a b c).Nodup := List.Pairwise.filter _ (by decide)
theorem ltP_iff {p q : Int × Int} : ltP p q = true ↔ p.1 < q.1 ∨ (p.1 = q.1 ∧ p.2 < q.2) := by
  unfold ltP
  simp only [Bool.or_eq_true, Bool.and_eq_true, decide_eq_true_eq]
theorem ltP_irr (p : Int × Int) : ltP p p = false := by
  apply Bool.eq_false_iff.2
  intro h
  rw [ltP_iff] at h
  omega
theorem ltP_tr {p q r : Int × Int} (h : ltP p q = true) (k : ltP q r = true) : ltP p r = true := by
  rw [ltP_iff] at *
  omega
theorem ltP_tot {p q : Int × Int} (h : ltP p q = false) (k : ltP q p = false) : p = q := by
  have h1 : ¬ (ltP p q = true) := by rw [h]; decide
  have k1 : ¬ (ltP q p = true) := by rw [k]; decide
  rw [ltP_iff] at h1 k1
  obtain ⟨a, b⟩ := p
  obtain ⟨c, d⟩ := q
  simp only at h1 k1
  have : a = c := by omega
  have : b = d := by omega
  subst a b
  rfl
/-- Two lists in order with the same members are one. -/
theorem srt_uniq : ∀ {L K : List (Int × Int)}, L.Pairwise (fun p q => ltP p q = true) → K.Pairwise (fun p q => ltP p q = true) → (∀ p, p ∈ L ↔ p ∈ K) → L = K
  | [], [], _, _, _ => rfl
  | [], q :: K, _, _, h => absurd ((h q).2 (by simp)) (by simp)
  | p :: L, [], _, _, h => absurd ((h p).1 (by simp)) (by simp)
  | p :: L, q :: K, hL, hK, h => by
    rw [List.pairwise_cons] at hL hK
    have e : p = q := by
      have h1 := (h p).1 (by simp)
      have h2 := (h q).2 (by simp)
      rw [List.mem_cons] at h1 h2
      rcases h1 with h1 | h1
      · exact h1
      · rcases h2 with h2 | h2
        · exact h2.symm
        · have k1 := hK.1 _ h1
          have k2 := hL.1 _ h2
          have := ltP_tr k1 k2
          rw [ltP_irr] at this
          cases this
    subst e
    have hn : ∀ {X : List (Int × Int)}, (∀ a ∈ X, ltP p a = true) → p ∉ X := fun hX hm => by
      have := hX _ hm
      rw [ltP_irr] at this
      cases this
    rw [srt_uniq hL.2 hK.2 fun r => ?_]
    have := h r
    rw [List.mem_cons, List.mem_cons] at this
    constructor
    · intro hr
      rcases this.1 (.inr hr) with e | e
      · subst e; exact absurd hr (hn hL.1)
      · exact e
    · intro hr
      rcases this.2 (.inr hr) with e | e
      · subst e; exact absurd hr (hn hK.1)
      · exact e
end Go.Proofs.YtblcmkhkbgikoaaGreat
