/- Plain: the points at which a form has a value, found row by row. -/
import Derived.Test.YtohgccgbbipjjaaGreatE1
import Derived.Test.YtohgccgbbipjjaaGreatTA
namespace Go.Proofs.YtohgccgbbipjjaaGreat

def vlP (a b c : Int) (p : Int × Int) : Int := a * p.1 * p.1 + b * p.1 * p.2 + c * p.2 * p.2
def twP (a b : Int) (p : Int × Int) : Int := 2 * a * p.1 + b * p.2
theorem tw_id (a b c : Int) (p : Int × Int) : twP a b p * twP a b p = (b * b - 4 * a * c) * p.2 * p.2 + 4 * a * vlP a b c p := by
  unfold twP vlP; grind
theorem tw_iff {a b c d n : Int} (ha : 0 < a) (hd : b * b - 4 * a * c = d) (p : Int × Int) : vlP a b c p = n ↔ twP a b p * twP a b p = d * p.2 * p.2 + 4 * a * n := by
  have h := tw_id a b c p
  rw [hd] at h
  constructor
  · intro e; rw [h, e]
  · intro e
    have : 4 * a * vlP a b c p = 4 * a * n := by omega
    exact Int.eq_of_mul_eq_mul_left (by omega) this
/-- The state of the search: what is in the list, and which of the points are. -/
structure PtI (a b c n : Int) (D : Int × Int → Prop) (L : List (Int × Int)) : Prop where
  nd : L.Nodup
  sound : ∀ p ∈ L, vlP a b c p = n
  full : ∀ p, vlP a b c p = n → D p → p ∈ L
theorem PtI.same {a b c n : Int} {D E : Int × Int → Prop} {L : List (Int × Int)} (h : PtI a b c n D L) (hD : ∀ q, vlP a b c q = n → E q → D q) : PtI a b c n E L :=
  ⟨h.nd, h.sound, fun p hp he => h.full p hp (hD p hp he)⟩
theorem PtI.got {a b c n : Int} {D E : Int × Int → Prop} {L : List (Int × Int)} {p : Int × Int} (h : PtI a b c n D L) (hp : p ∈ L) (hD : ∀ q, vlP a b c q = n → E q → D q ∨ q = p) : PtI a b c n E L :=
  ⟨h.nd, h.sound, fun q hq he => by rcases hD q hq he with h1 | rfl; exact h.full q hq h1; exact hp⟩
theorem PtI.add {a b c n : Int} {D E : Int × Int → Prop} {L K : List (Int × Int)} {p : Int × Int} (h : PtI a b c n D L) (hp : p ∉ L) (hv : vlP a b c p = n) (hK : K.Perm (p :: L)) (hD : ∀ q, vlP a b c q = n → E q → D q ∨ q = p) : PtI a b c n E K :=
  ⟨hK.symm.nodup (List.nodup_cons.2 ⟨hp, h.nd⟩), fun q hq => by
    rcases List.mem_cons.1 (hK.mem_iff.1 hq) with rfl | hq
    · exact hv
    · exact h.sound q hq, fun q hq he => hK.mem_iff.2 (by
    rcases hD q hq he with h1 | rfl
    · exact List.mem_cons_of_mem _ (h.full q hq h1)
    · exact List.mem_cons_self)⟩
/-- The points that are done in the row y: those of the rows before, of the first i signs of y, of the first j signs of the root. -/
def dnP (a b y s : Int) (i j : Nat) (q : Int × Int) : Prop :=
  (q.2.natAbs : Int) < y ∨ (1 ≤ i ∧ q.2 = y) ∨ (2 ≤ i ∧ q.2 = -y) ∨ ((i = 0 ∧ q.2 = y ∨ i = 1 ∧ q.2 = -y) ∧ (1 ≤ j ∧ twP a b q = s ∨ 2 ≤ j ∧ twP a b q = -s))
section
variable {a b c d n y s : Int} {L K : List (Int × Int)}
theorem PtI.start : PtI a b c n (fun q => (q.2.natAbs : Int) < 0) [] :=
  ⟨List.nodup_nil, fun p hp => by simp at hp, fun p _ h => by omega⟩
theorem PtI.into (h : PtI a b c n (fun q => (q.2.natAbs : Int) < y) L) : PtI a b c n (dnP a b y s 0 0) L :=
  h.same fun q _ he => by unfold dnP at he; omega
theorem PtI.leave (h : PtI a b c n (dnP a b y s 2 0) L) : PtI a b c n (fun q => (q.2.natAbs : Int) < y + 1) L :=
  h.same fun q _ he => by unfold dnP; omega
theorem sq_two {t s : Int} (h : t * t = s * s) : t = s ∨ t = -s := by
  have : (t - s) * (t + s) = 0 := by grind
  rcases Int.mul_eq_zero.1 this with h | h
  · exact .inl (by omega)
  · exact .inr (by omega)
theorem PtI.turn {i : Nat} (h : PtI a b c n (dnP a b y s i 2) L) (ha : 0 < a) (hd : b * b - 4 * a * c = d) (hs : s * s = d * y * y + 4 * a * n) (hi : i < 2) : PtI a b c n (dnP a b y s (i + 1) 0) L :=
  h.same fun q hq he => by
    have h1 := (tw_iff ha hd q).1 hq
    have h2 : q.2 = y ∨ q.2 = -y → twP a b q = s ∨ twP a b q = -s := fun e => sq_two (by
      rw [h1, hs]
      rcases e with e | e <;> rw [e] <;> grind)
    unfold dnP at he ⊢
    omega
/-- A row without points. -/
theorem PtI.skip (h : PtI a b c n (fun q => (q.2.natAbs : Int) < y) L) (ha : 0 < a) (hd : b * b - 4 * a * c = d) (hs : ∀ t : Int, t * t = d * y * y + 4 * a * n → False) : PtI a b c n (fun q => (q.2.natAbs : Int) < y + 1) L :=
  h.same fun q hq he => by
    have h1 := (tw_iff ha hd q).1 hq
    apply Decidable.byContradiction
    intro h2
    have h3 : q.2 = y ∨ q.2 = -y := by omega
    exact hs (twP a b q) (by rw [h1]; rcases h3 with e | e <;> rw [e] <;> grind)
theorem tw_in {v r q : Int} (ha : 0 < a) : (r - b * v).tmod (2 * a) = 0 → (q = (r - b * v).tdiv (2 * a) ↔ 2 * a * q + b * v = r) := by
  intro h
  have h1 := Int.mul_tdiv_add_tmod (r - b * v) (2 * a)
  rw [h] at h1
  constructor
  · intro e; rw [e]; omega
  · intro e
    have : 2 * a * q = 2 * a * (r - b * v).tdiv (2 * a) := by omega
    exact Int.eq_of_mul_eq_mul_left (by omega) this
theorem tw_no {v r q : Int} (h : ¬ (r - b * v).tmod (2 * a) = 0) : ¬ 2 * a * q + b * v = r := by
  intro e
  apply h
  rw [show r - b * v = 2 * a * q by omega, Int.mul_tmod_right]
/-- The value of the sign. -/
def sgV (i : Nat) (y : Int) : Int := if i = 0 then y else -y
theorem dn_next {i j : Nat} (hi : i < 2) (hj : j < 2) (q : Int × Int) (h : dnP a b y s i (j + 1) q) : dnP a b y s i j q ∨ (q.2 = sgV i y ∧ 2 * a * q.1 + b * q.2 = sgV j s) := by
  unfold dnP twP at *
  unfold sgV
  obtain rfl | rfl : i = 0 ∨ i = 1 := by omega
  all_goals
    obtain rfl | rfl : j = 0 ∨ j = 1 := by omega
    all_goals (simp at h ⊢; omega)
theorem PtI.none {i j : Nat} (h : PtI a b c n (dnP a b y s i j) L) (hi : i < 2) (hj : j < 2) (hn : ¬ (sgV j s - b * sgV i y).tmod (2 * a) = 0) : PtI a b c n (dnP a b y s i (j + 1)) L :=
  h.same fun q _ he => by
    rcases dn_next hi hj q he with h1 | ⟨h1, h2⟩
    · exact h1
    · rw [h1] at h2; exact absurd h2 (tw_no hn)
theorem PtI.point {i j : Nat} (ha : 0 < a) (hd : b * b - 4 * a * c = d) (hs : s * s = d * y * y + 4 * a * n) (hi : i < 2) (hj : j < 2) (hn : (sgV j s - b * sgV i y).tmod (2 * a) = 0) :
    vlP a b c ((sgV j s - b * sgV i y).tdiv (2 * a), sgV i y) = n ∧ ∀ q, dnP a b y s i (j + 1) q → dnP a b y s i j q ∨ q = ((sgV j s - b * sgV i y).tdiv (2 * a), sgV i y) := by
  refine ⟨(tw_iff ha hd _).2 ?_, fun q he => ?_⟩
  · have h1 := (tw_in (b := b) ha hn).1 rfl
    unfold twP
    dsimp only
    rw [h1]
    have e1 : sgV j s * sgV j s = s * s := by unfold sgV; split <;> grind
    have e2 : d * sgV i y * sgV i y = d * y * y := by unfold sgV; split <;> grind
    rw [e1, e2, hs]
  · rcases dn_next hi hj q he with h1 | ⟨h1, h2⟩
    · exact .inl h1
    · rw [h1] at h2
      exact .inr (Prod.ext ((tw_in (b := b) ha hn).2 h2) h1)
theorem PtI.fin {L : List (Int × Int)} (h : PtI a b c n (fun q => (q.2.natAbs : Int) < y) L) (ha : 0 < a) (hd : b * b - 4 * a * c = d) (hd0 : d < 0) (hy : 0 ≤ y) (he : 4 * a * n < -d * y * y) (p : Int × Int) : p ∈ L ↔ vlP a b c p = n := by
  refine ⟨h.sound p, fun hp => h.full p hp ?_⟩
  apply Int.not_le.1
  intro hle
  have h1 := (tw_iff ha hd p).1 hp
  have h2 : 0 ≤ twP a b p * twP a b p := by rcases Int.le_total 0 (twP a b p) with h | h; exact Int.mul_nonneg h h; exact Int.mul_nonneg_of_nonpos_of_nonpos h h
  have h3 : y * y ≤ (p.2.natAbs : Int) * (p.2.natAbs : Int) := Int.mul_le_mul hle hle hy (by omega)
  have h4 : (p.2.natAbs : Int) * (p.2.natAbs : Int) = p.2 * p.2 := by
    rcases Int.le_total 0 p.2 with e | e
    · rw [Int.natAbs_of_nonneg e]
    · rw [Int.ofNat_natAbs_of_nonpos e, Int.neg_mul_neg]
  have h5 := Int.mul_le_mul_of_nonneg_left (show y * y ≤ p.2 * p.2 by omega) (show 0 ≤ -d by omega)
  have e1 : -d * y * y = -d * (y * y) := Int.mul_assoc _ _ _
  have e2 : d * p.2 * p.2 = -(-d * (p.2 * p.2)) := by grind
  omega
end
theorem len_sub {α : Type} {L K : List α} (h1 : L.Nodup) (h2 : ∀ x ∈ L, x ∈ K) : L.length ≤ K.length :=
  h1.length_le_of_subset h2
end Go.Proofs.YtohgccgbbipjjaaGreat
