/- Parts QA QB QC QD QE laid together by tp.py. -/
import Derived.Test.YtdhennlanngjgaaMM
import Derived.Test.YtdhennlanngjgaaN1
import Derived.Test.YtdhennlanngjgaaKN
namespace Go.Proofs.Ytdhennlanngjgaa
section

/-- A map of the first h numbers into themselves that takes no two to one turns their order alone. -/
theorem range_perm {h : Nat} {f : Nat → Nat} (hf : ∀ i, i < h → f i < h) (hi : ∀ i j, i < h → j < h → f i = f j → i = j) : ((List.range h).map f).Perm (List.range h) := by
  have hnd : ((List.range h).map f).Nodup := by
    refine List.Pairwise.map _ (R := fun i j => i < j ∧ j < h) ?_ ?_
    · rintro i j ⟨h1, h2⟩ he
      exact absurd (hi i j (by omega) h2 he) (by omega)
    · exact List.Pairwise.imp_of_mem (fun {i j} _ hj h => ⟨h, by simpa using hj⟩) List.pairwise_lt_range
  have hs : ∀ x ∈ (List.range h).map f, x ∈ List.range h := by
    intro x hx
    obtain ⟨i, h1, rfl⟩ := List.mem_map.1 hx
    exact List.mem_range.2 (hf i (List.mem_range.1 h1))
  refine (List.perm_ext_iff_of_nodup hnd List.nodup_range).2 fun j => ⟨hs j, fun hj => ?_⟩
  apply Classical.byContradiction
  intro hn
  have h1 : (j :: (List.range h).map f).Nodup := List.nodup_cons.2 ⟨hn, hnd⟩
  have h2 : (j :: (List.range h).map f) ⊆ List.range h := by
    intro x hx
    rcases List.mem_cons.1 hx with rfl | hx
    · exact hj
    · exact hs x hx
  have := h1.length_le_of_subset h2
  simp at this
  omega

/-- Products over the first k numbers. -/
def PR (F : Nat → Int) : Nat → Int
  | 0 => 1
  | k + 1 => PR F k * F k
theorem PR_eq {F F' : Nat → Int} : ∀ h : Nat, (∀ k, k < h → F k = F' k) → PR F h = PR F' h
  | 0, _ => rfl
  | h + 1, e => by unfold PR; rw [PR_eq h fun k hk => e k (by omega), e h (by omega)]
theorem PR_mul (F F' : Nat → Int) : ∀ h : Nat, PR (fun k => F k * F' k) h = PR F h * PR F' h
  | 0 => rfl
  | h + 1 => by
    show PR (fun k => F k * F' k) h * (F h * F' h) = PR F h * F h * (PR F' h * F' h)
    rw [PR_mul F F' h]; grind
theorem PR_const (a : Int) : ∀ h : Nat, PR (fun _ => a) h = a ^ h
  | 0 => by simp [PR]
  | h + 1 => by unfold PR; rw [PR_const a h, Int.pow_succ]
def prdQ (F : Nat → Int) : List Nat → Int
  | [] => 1
  | x :: L => F x * prdQ F L
theorem prdQ_app (F : Nat → Int) : ∀ L K : List Nat, prdQ F (L ++ K) = prdQ F L * prdQ F K
  | [], K => by simp [prdQ]
  | x :: L, K => by rw [List.cons_append, prdQ, prdQ, prdQ_app F L K]; grind
theorem prdQ_perm (F : Nat → Int) {L K : List Nat} (h : L.Perm K) : prdQ F L = prdQ F K := by
  induction h with
  | nil => rfl
  | cons x _ ih => unfold prdQ; rw [ih]
  | swap x y l => simp only [prdQ]; grind
  | trans _ _ h1 h2 => exact h1.trans h2
theorem PR_list (F : Nat → Int) : ∀ h : Nat, PR F h = prdQ F (List.range h)
  | 0 => rfl
  | h + 1 => by rw [List.range_succ, prdQ_app, PR, PR_list F h]; simp [prdQ]
theorem prdQ_map (F : Nat → Int) (f : Nat → Nat) : ∀ L : List Nat, prdQ F (L.map f) = prdQ (fun k => F (f k)) L
  | [] => rfl
  | x :: L => by simp only [List.map_cons, prdQ]; rw [prdQ_map F f L]
theorem PR_perm (F : Nat → Int) {h : Nat} {f : Nat → Nat} (hf : ∀ i, i < h → f i < h) (hi : ∀ i j, i < h → j < h → f i = f j → i = j) : PR (fun k => F (f k)) h = PR F h := by
  rw [PR_list, PR_list, ← prdQ_map]
  exact prdQ_perm F (range_perm hf hi)
theorem PR_swap (F : Nat → Nat → Int) (j : Nat) : ∀ h : Nat, PR (fun k => PR (fun l => F l k) j) h = PR (fun l => PR (fun k => F l k) h) j
  | 0 => by
    show 1 = PR (fun _ => 1) j
    rw [PR_const, Int.one_pow]
  | h + 1 => by
    rw [PR, PR_swap F j h, ← PR_mul]
    rfl
theorem PR_dvd {p : Int} {F F' : Nat → Int} : ∀ h : Nat, (∀ k, k < h → p ∣ F k - F' k) → p ∣ PR F h - PR F' h
  | 0, _ => ⟨0, by rw [Int.mul_zero]; rfl⟩
  | h + 1, e => by
    obtain ⟨x, hx⟩ := PR_dvd h fun k hk => e k (by omega)
    obtain ⟨y, hy⟩ := e h (by omega)
    refine ⟨x * F h + PR F' h * y, ?_⟩
    show PR F h * F h - PR F' h * F' h = _
    have e1 : F h = F' h + p * y := by omega
    have e2 : PR F h = PR F' h + p * x := by omega
    rw [e1, e2]; grind

/-- The sign of a number. -/
def sgn (k : Nat) : Int := if k % 2 = 0 then 1 else -1
theorem sgn_add (a b : Nat) : sgn (a + b) = sgn a * sgn b := by
  unfold sgn
  split <;> split <;> split <;> first | rfl | omega
theorem sgn_sq (a : Nat) : sgn a * sgn a = 1 := by unfold sgn; split <;> rfl
theorem sgn_pm (a : Nat) : sgn a = 1 ∨ sgn a = -1 := by unfold sgn; split <;> simp
theorem sgn_mod {a b : Nat} (h : a % 2 = b % 2) : sgn a = sgn b := by unfold sgn; rw [h]
theorem PR_pm {F : Nat → Int} : ∀ h : Nat, (∀ k, k < h → F k = 1 ∨ F k = -1) → PR F h = 1 ∨ PR F h = -1
  | 0, _ => .inl rfl
  | h + 1, e => by
    unfold PR
    rcases PR_pm h fun k hk => e k (by omega) with h1 | h1 <;> rcases e h (by omega) with h2 | h2 <;> rw [h1, h2] <;> simp

theorem neg_powQ : ∀ h : Nat, (-1 : Int) ^ h = sgn h
  | 0 => rfl
  | h + 1 => by
    rw [Int.pow_succ, neg_powQ h]
    unfold sgn
    split <;> split <;> first | rfl | omega

/-- The rest of a multiple by an odd number 2*h+1, its sign and its place in the half system. -/
def rsQ (a h k : Nat) : Nat := a * (k + 1) % (2 * h + 1)
def epQ (a h k : Nat) : Int := if h < rsQ a h k then -1 else 1
def pkQ (a h k : Nat) : Nat := (if h < rsQ a h k then 2 * h + 1 - rsQ a h k else rsQ a h k) - 1
def GQ (a h : Nat) : Int := PR (epQ a h) h
def CopQ (a h : Nat) : Prop := Nat.gcd a (2 * h + 1) = 1
theorem CopQ.ne {a h x : Nat} (c : CopQ a h) (h1 : 1 ≤ x) (h2 : x ≤ 2 * h) : a * x % (2 * h + 1) ≠ 0 := fun e => by
  have hd : (2 * h + 1) ∣ a * x := Nat.dvd_of_mod_eq_zero e
  have hc : Nat.Coprime (2 * h + 1) a := by unfold CopQ at c; rw [Nat.Coprime, Nat.gcd_comm]; exact c
  have := Nat.le_of_dvd (by omega) (hc.dvd_of_dvd_mul_left hd)
  omega
theorem epQ_pm (a h k : Nat) : epQ a h k = 1 ∨ epQ a h k = -1 := by unfold epQ; split <;> simp
theorem GQ_pm (a h : Nat) : GQ a h = 1 ∨ GQ a h = -1 := PR_pm h fun k _ => epQ_pm a h k
theorem pkQ_lt {a h k : Nat} (c : CopQ a h) (hk : k < h) : pkQ a h k < h ∧ (h < rsQ a h k ∧ epQ a h k = -1 ∧ pkQ a h k + 1 + rsQ a h k = 2 * h + 1 ∨ rsQ a h k ≤ h ∧ epQ a h k = 1 ∧ pkQ a h k + 1 = rsQ a h k) := by
  have h0 : rsQ a h k ≠ 0 := c.ne (by omega) (by omega)
  have h1 : rsQ a h k < 2 * h + 1 := Nat.mod_lt _ (by omega)
  unfold epQ pkQ
  split <;> simp <;> omega
/-- A multiple is a signed member of the half system. -/
def RpQ (x : Int) (h t : Nat) (e : Int) : Prop := (e = 1 ∨ e = -1) ∧ t < h ∧ ((2 * h + 1 : Nat) : Int) ∣ x - e * ((t : Int) + 1)
theorem RpQ.uniq {x y : Int} {h t t' : Nat} {e e' : Int} (h1 : RpQ x h t e) (h2 : RpQ y h t' e') (hd : ((2 * h + 1 : Nat) : Int) ∣ x - y) : t = t' ∧ e = e' := by
  obtain ⟨a1, a2, a3⟩ := h1
  obtain ⟨b1, b2, b3⟩ := h2
  have hd2 : ((2 * h + 1 : Nat) : Int) ∣ e * ((t : Int) + 1) - e' * ((t' : Int) + 1) := by
    have := Int.dvd_sub (Int.dvd_add hd b3) a3
    have e0 : x - y + (y - e' * ((t' : Int) + 1)) - (x - e * ((t : Int) + 1)) = e * ((t : Int) + 1) - e' * ((t' : Int) + 1) := by omega
    rw [e0] at this; exact this
  have hz : e * ((t : Int) + 1) - e' * ((t' : Int) + 1) = 0 := by
    apply Int.eq_zero_of_dvd_of_natAbs_lt_natAbs hd2
    rcases a1 with rfl | rfl <;> rcases b1 with rfl | rfl <;> omega
  rcases a1 with rfl | rfl <;> rcases b1 with rfl | rfl <;> omega
theorem RpQ.of {a h k : Nat} (c : CopQ a h) (hk : k < h) : RpQ ((a : Int) * ((k : Int) + 1)) h (pkQ a h k) (epQ a h k) := by
  obtain ⟨h1, h2⟩ := pkQ_lt c hk
  refine ⟨epQ_pm a h k, h1, ?_⟩
  have hm := Nat.div_add_mod (a * (k + 1)) (2 * h + 1)
  have hm2 : ((2 * h + 1 : Nat) : Int) * ((a * (k + 1) / (2 * h + 1) : Nat) : Int) + (rsQ a h k : Int) = (a : Int) * ((k : Int) + 1) := by
    have := congrArg (fun n : Nat => (n : Int)) hm
    simpa [rsQ] using this
  rcases h2 with ⟨_, e1, e2⟩ | ⟨_, e1, e2⟩
  · refine ⟨((a * (k + 1) / (2 * h + 1) : Nat) : Int) + 1, ?_⟩
    have e3 : (rsQ a h k : Int) = ((2 * h + 1 : Nat) : Int) - ((pkQ a h k : Int) + 1) := by omega
    rw [e1, ← hm2, e3]; grind
  · refine ⟨((a * (k + 1) / (2 * h + 1) : Nat) : Int), ?_⟩
    have e3 : (rsQ a h k : Int) = (pkQ a h k : Int) + 1 := by omega
    rw [e1, ← hm2, e3]; grind
theorem RpQ.mul {x : Int} {h t : Nat} {e : Int} (r : RpQ x h t e) {s : Int} (hs : s = 1 ∨ s = -1) : RpQ (s * x) h t (s * e) := by
  obtain ⟨a1, a2, a3⟩ := r
  refine ⟨by rcases hs with rfl | rfl <;> rcases a1 with rfl | rfl <;> simp, a2, ?_⟩
  obtain ⟨y, hy⟩ := a3
  refine ⟨s * y, ?_⟩
  have : x = e * ((t : Int) + 1) + ((2 * h + 1 : Nat) : Int) * y := by omega
  rw [this]; grind
theorem pkQ_inj {a h : Nat} (c : CopQ a h) : ∀ i j, i < h → j < h → pkQ a h i = pkQ a h j → i = j := by
  intro i j hi hj he
  have r1 := RpQ.of c hi
  have r2 := RpQ.of c hj
  obtain ⟨a1, a2, x, hx⟩ := r1
  obtain ⟨b1, b2, y, hy⟩ := r2
  rw [he] at hx
  -- a (i+1) = ± a (j+1)
  have hc : Nat.Coprime (2 * h + 1) a := by unfold CopQ at c; rw [Nat.Coprime, Nat.gcd_comm]; exact c
  have key : ∀ s : Int, epQ a h i = s * epQ a h j → ((2 * h + 1 : Nat) : Int) ∣ (a : Int) * (((i : Int) + 1) - s * ((j : Int) + 1)) := by
    intro s hs
    refine ⟨x - s * y, ?_⟩
    rw [hs] at hx
    have e1 : (a : Int) * ((i : Int) + 1) = s * epQ a h j * ((pkQ a h j : Int) + 1) + ((2 * h + 1 : Nat) : Int) * x := by omega
    have e2 : (a : Int) * ((j : Int) + 1) = epQ a h j * ((pkQ a h j : Int) + 1) + ((2 * h + 1 : Nat) : Int) * y := by omega
    have e3 : (a : Int) * (((i : Int) + 1) - s * ((j : Int) + 1)) = (a : Int) * ((i : Int) + 1) - s * ((a : Int) * ((j : Int) + 1)) := by grind
    rw [e3, e1, e2]; grind
  have zer : ∀ z : Int, ((2 * h + 1 : Nat) : Int) ∣ (a : Int) * z → z.natAbs < 2 * h + 1 → z = 0 := by
    intro z hz hl
    have h3 := Int.natAbs_dvd_natAbs.2 hz
    rw [Int.natAbs_mul, Int.natAbs_natCast, Int.natAbs_natCast] at h3
    have h4 := hc.dvd_of_dvd_mul_left h3
    rcases Nat.eq_zero_or_pos z.natAbs with h0 | h0
    · omega
    · have := Nat.le_of_dvd h0 h4
      omega
  by_cases hs : epQ a h i = epQ a h j
  · have := zer _ (key 1 (by rw [hs]; simp)) (by omega)
    omega
  · have hs2 : epQ a h i = -1 * epQ a h j := by
      rcases a1 with h1 | h1 <;> rcases b1 with h2 | h2 <;> rw [h1, h2] at hs ⊢ <;> simp at hs ⊢
    have := zer _ (key (-1) hs2) (by omega)
    omega
theorem pkQ_PR {a h : Nat} (c : CopQ a h) (F : Nat → Int) : PR (fun k => F (pkQ a h k)) h = PR F h := PR_perm F (fun _ hi => (pkQ_lt c hi).1) (pkQ_inj c)
theorem GQ_mod {a b h : Nat} (e : a % (2 * h + 1) = b % (2 * h + 1)) : GQ a h = GQ b h := by
  unfold GQ
  refine PR_eq h fun k _ => ?_
  have : rsQ a h k = rsQ b h k := by unfold rsQ; rw [Nat.mul_mod, e, ← Nat.mul_mod]
  unfold epQ; rw [this]
theorem CopQ.mul {a b h : Nat} (ca : CopQ a h) (cb : CopQ b h) : CopQ (a * b) h := Nat.Coprime.mul_left ca cb
theorem GQ_mul {a b h : Nat} (ca : CopQ a h) (cb : CopQ b h) : GQ (a * b) h = GQ a h * GQ b h := by
  have e1 : ∀ k, k < h → epQ (a * b) h k = epQ a h (pkQ b h k) * epQ b h k := by
    intro k hk
    have r1 := RpQ.of (ca.mul cb) hk
    have r2 := (RpQ.of ca (pkQ_lt cb hk).1).mul (epQ_pm b h k)
    have r3 := RpQ.of cb hk
    obtain ⟨_, _, z, hz⟩ := r3
    have := (RpQ.uniq r1 r2 ⟨a * z, by
      have e0 : (b : Int) * ((k : Int) + 1) = epQ b h k * ((pkQ b h k : Int) + 1) + ((2 * h + 1 : Nat) : Int) * z := by omega
      have e1 : ((a * b : Nat) : Int) * ((k : Int) + 1) = (a : Int) * ((b : Int) * ((k : Int) + 1)) := by
        rw [Int.natCast_mul]; grind
      rw [e1, e0]; grind⟩).2
    rw [this, Int.mul_comm]
  unfold GQ
  rw [PR_eq h e1, PR_mul, pkQ_PR cb]
/-- Gauss's sum of quotients. -/
theorem GQ_floor {a h : Nat} (c : CopQ a h) (ha : a % 2 = 1) : GQ a h = PR (fun k => sgn (a * (k + 1) / (2 * h + 1))) h := by
  have e1 : ∀ k, k < h → sgn (k + 1) = (sgn (a * (k + 1) / (2 * h + 1)) * sgn (pkQ a h k + 1)) * epQ a h k := by
    intro k hk
    have hm := Nat.div_add_mod (a * (k + 1)) (2 * h + 1)
    have hp : (a * (k + 1)) % 2 = (k + 1) % 2 := by rw [Nat.mul_mod, ha]; simp
    have hq : ((2 * h + 1) * (a * (k + 1) / (2 * h + 1))) % 2 = (a * (k + 1) / (2 * h + 1)) % 2 := by
      rw [Nat.mul_mod, show (2 * h + 1) % 2 = 1 by omega]; simp
    obtain ⟨_, h2⟩ := pkQ_lt c hk
    have hr : a * (k + 1) % (2 * h + 1) = rsQ a h k := rfl
    rw [hr] at hm
    rw [← sgn_add]
    rcases h2 with ⟨_, e1, e2⟩ | ⟨_, e1, e2⟩
    · rw [e1]
      generalize a * (k + 1) / (2 * h + 1) = q at *
      generalize (2 * h + 1) * q = u at *
      generalize a * (k + 1) = v at *
      generalize pkQ a h k = t at *
      generalize rsQ a h k = r at *
      unfold sgn
      split <;> split <;> first | rfl | omega
    · rw [e1, Int.mul_one]
      generalize a * (k + 1) / (2 * h + 1) = q at *
      generalize (2 * h + 1) * q = u at *
      generalize a * (k + 1) = v at *
      exact sgn_mod (by omega)
  have e2 := PR_eq h e1
  rw [PR_mul, PR_mul, pkQ_PR c (fun k => sgn (k + 1))] at e2
  have hs : PR (fun k => sgn (k + 1)) h = 1 ∨ PR (fun k => sgn (k + 1)) h = -1 := PR_pm h fun k _ => sgn_pm _
  have hf : PR (fun k => sgn (a * (k + 1) / (2 * h + 1))) h = 1 ∨ PR (fun k => sgn (a * (k + 1) / (2 * h + 1))) h = -1 := PR_pm h fun k _ => sgn_pm _
  have hg := GQ_pm a h
  have e3 : PR (epQ a h) h = GQ a h := rfl
  rw [e3] at e2
  rcases hs with h1 | h1 <;> rcases hf with h2 | h2 <;> rcases hg with h3 | h3 <;> rw [h1, h2, h3] at e2 <;> rw [h2, h3] <;> simp at e2 ⊢
theorem sgn_tri : ∀ h : Nat, PR (fun k => sgn (k + 1)) h = if h % 4 = 0 ∨ h % 4 = 3 then 1 else -1
  | 0 => rfl
  | h + 1 => by
    rw [PR, sgn_tri h]
    unfold sgn
    split <;> split <;> split <;> first | rfl | omega
theorem GQ_two (h : Nat) : GQ 2 h = if h % 4 = 0 ∨ h % 4 = 3 then 1 else -1 := by
  have c : CopQ 2 h := by
    unfold CopQ
    have : Nat.gcd 2 (2 * h + 1) = Nat.gcd 2 1 := by rw [Nat.add_comm, Nat.gcd_add_mul_left_right]
    rw [this]; decide
  have e1 : ∀ k, k < h → epQ 2 h k = sgn (pkQ 2 h k + 1) := by
    intro k hk
    obtain ⟨_, h2⟩ := pkQ_lt c hk
    have hr : rsQ 2 h k = 2 * (k + 1) := Nat.mod_eq_of_lt (by omega)
    rw [hr] at h2
    rcases h2 with ⟨_, e1, e2⟩ | ⟨_, e1, e2⟩
    · rw [e1]; unfold sgn; rw [if_neg (by omega)]
    · rw [e1]; unfold sgn; rw [if_pos (by omega)]
  unfold GQ
  rw [PR_eq h e1, pkQ_PR c (fun k => sgn (k + 1)), sgn_tri]
/-- The points below a line. -/
theorem col_sgn {m x : Nat} (hm : 0 < m) (hx : x % m ≠ 0) : ∀ j : Nat, PR (fun l => if m * (l + 1) < x then -1 else 1) j = sgn (min j (x / m))
  | 0 => by simp [PR, sgn]
  | j + 1 => by
    rw [PR, col_sgn hm hx j]
    have hd := Nat.div_add_mod x m
    have hr := Nat.mod_lt x hm
    by_cases hl : j + 1 ≤ x / m
    · have h1 : m * (j + 1) ≤ m * (x / m) := Nat.mul_le_mul_left m hl
      rw [if_pos (by omega), Nat.min_eq_left (by omega), Nat.min_eq_left hl, sgn_add]
      rfl
    · have h1 : m * (x / m + 1) ≤ m * (j + 1) := Nat.mul_le_mul_left m (by omega)
      rw [Nat.mul_add] at h1
      rw [if_neg (by omega), Nat.min_eq_right (by omega), Nat.min_eq_right (by omega), Int.mul_one]
theorem GQ_cols {j h : Nat} (c : CopQ (2 * j + 1) h) : GQ (2 * j + 1) h = PR (fun k => PR (fun l => if (2 * h + 1) * (l + 1) < (2 * j + 1) * (k + 1) then -1 else 1) j) h := by
  rw [GQ_floor c (by omega)]
  refine PR_eq h fun k hk => ?_
  rw [col_sgn (by omega) (c.ne (by omega) (by omega))]
  rw [Nat.min_eq_right]
  have h1 : (2 * j + 1) * (k + 1) ≤ (2 * j + 1) * h := Nat.mul_le_mul_left _ (by omega)
  have h2 : (2 * j + 1) * (k + 1) / (2 * h + 1) < j + 1 := by
    rw [Nat.div_lt_iff_lt_mul (by omega)]
    have e1 : (2 * j + 1) * h = 2 * (j * h) + h := by grind
    have e2 : (j + 1) * (2 * h + 1) = 2 * (j * h) + j + 2 * h + 1 := by grind
    omega
  omega
/-- The law of reciprocity. -/
theorem GQ_rec {j h : Nat} (c : CopQ (2 * j + 1) h) : GQ (2 * j + 1) h * GQ (2 * h + 1) j = sgn (j * h) := by
  have c' : CopQ (2 * h + 1) j := by unfold CopQ at *; rw [Nat.gcd_comm]; exact c
  rw [GQ_cols c, GQ_cols c', PR_swap, ← PR_mul]
  have e : ∀ l, l < j → PR (fun k => if (2 * h + 1) * (l + 1) < (2 * j + 1) * (k + 1) then -1 else 1) h * PR (fun k => if (2 * j + 1) * (k + 1) < (2 * h + 1) * (l + 1) then -1 else 1) h = sgn h := by
    intro l hl
    rw [← PR_mul]
    have e2 : ∀ k, k < h → (if (2 * h + 1) * (l + 1) < (2 * j + 1) * (k + 1) then -1 else 1) * (if (2 * j + 1) * (k + 1) < (2 * h + 1) * (l + 1) then -1 else 1) = (-1 : Int) := by
      intro k hk
      have hne : (2 * j + 1) * (k + 1) ≠ (2 * h + 1) * (l + 1) := fun e => by
        have := c.ne (x := k + 1) (by omega) (by omega)
        rw [e, Nat.mul_mod_right] at this
        exact this rfl
      split <;> split <;> first | rfl | omega
    rw [PR_eq h e2, PR_const, neg_powQ]
  rw [PR_eq j e, PR_const]
  clear e c c'
  induction j with
  | zero => simp [sgn]
  | succ j ih => rw [Int.pow_succ, ih, ← sgn_add, Nat.add_mul, Nat.one_mul]
end

section

def EuI (p : Int) : Prop := ∀ a b : Int, p ∣ a * b → p ∣ a ∨ p ∣ b
theorem PR_ndvd {h : Nat} (hp : EuI ((2 * h + 1 : Nat) : Int)) (h1 : 1 ≤ h) : ∀ n : Nat, n ≤ h → ¬ ((2 * h + 1 : Nat) : Int) ∣ PR (fun k => (k : Int) + 1) n
  | 0, _ => by
    intro hd
    have := Int.eq_one_of_dvd_one (by omega) hd
    omega
  | n + 1, hn => by
    intro hd
    unfold PR at hd
    rcases hp _ _ hd with h2 | h2
    · exact PR_ndvd hp h1 n (by omega) h2
    · have := Int.le_of_dvd (by omega) h2
      omega
theorem euler_GQ {a h : Nat} (c : CopQ a h) (h1 : 1 ≤ h) (hp : EuI ((2 * h + 1 : Nat) : Int)) : ((2 * h + 1 : Nat) : Int) ∣ (a : Int) ^ h - GQ a h := by
  have e1 := PR_dvd (p := ((2 * h + 1 : Nat) : Int)) (F := fun k => (a : Int) * ((k : Int) + 1)) (F' := fun k => epQ a h k * ((pkQ a h k : Int) + 1)) h (fun k hk => (RpQ.of c hk).2.2)
  rw [PR_mul, PR_mul, PR_const, pkQ_PR c (fun k => (k : Int) + 1)] at e1
  have e2 : ((2 * h + 1 : Nat) : Int) ∣ ((a : Int) ^ h - GQ a h) * PR (fun k => (k : Int) + 1) h := by rw [Int.sub_mul]; exact e1
  rcases hp _ _ e2 with h2 | h2
  · exact h2
  · exact absurd h2 (PR_ndvd hp h1 h (Nat.le_refl _))
theorem CopQ.mod {a b h : Nat} (e : a % (2 * h + 1) = b % (2 * h + 1)) (c : CopQ a h) : CopQ b h := by
  unfold CopQ at *
  rw [Nat.gcd_comm, Nat.gcd_rec] at c ⊢
  rw [← e]; exact c
theorem GQ_sq {a y h : Nat} (c : CopQ a h) (e : (y * y) % (2 * h + 1) = a % (2 * h + 1)) : GQ a h = 1 := by
  have c2 : CopQ (y * y) h := CopQ.mod e.symm c
  have cy : CopQ y h := Nat.Coprime.coprime_mul_right c2
  rw [← GQ_mod e, GQ_mul cy cy]
  rcases GQ_pm y h with h1 | h1 <;> rw [h1] <;> rfl

/-- Monic polynomials, as functions. -/
def Mon : Nat → (Int → Int) → Prop
  | 0, f => ∀ x, f x = 1
  | n + 1, f => ∃ g c, Mon n g ∧ ∀ x, f x = x * g x + c
theorem Mon.split : ∀ (n : Nat) (f : Int → Int), Mon (n + 1) f → ∀ r, ∃ g, Mon n g ∧ ∀ x, f x = (x - r) * g x + f r
  | 0, f, ⟨g, c, hg, e⟩, r => ⟨fun _ => 1, fun _ => rfl, fun x => by rw [e x, e r, hg x, hg r]; show _ = (x - r) * 1 + _; omega⟩
  | n + 1, f, ⟨g, c, hg, e⟩, r => by
    obtain ⟨q, hq, eq⟩ := Mon.split n g hg r
    exact ⟨fun x => x * q x + g r, ⟨q, g r, hq, fun _ => rfl⟩, fun x => by rw [e x, e r, eq x]; grind⟩
theorem Mon.roots {p : Int} (hp : EuI p) (h1 : ¬ p ∣ 1) : ∀ (n : Nat) (f : Int → Int), Mon n f → ∀ L : List Int, (∀ x ∈ L, p ∣ f x) → L.Pairwise (fun x y => ¬ p ∣ x - y) → L.length ≤ n
  | n, f, _, [], _, _ => Nat.zero_le _
  | 0, f, hf, x :: L, hx, _ => absurd (by have := hx x (by simp); rwa [hf x] at this) h1
  | n + 1, f, hf, r :: L, hx, hl => by
    obtain ⟨g, hg, e⟩ := hf.split n f r
    obtain ⟨l1, l2⟩ := List.pairwise_cons.1 hl
    have hr := hx r (by simp)
    have := Mon.roots hp h1 n g hg L (fun x hxL => by
      have h2 := hx x (by simp [hxL])
      have h3 : p ∣ (x - r) * g x := by
        have := Int.dvd_sub h2 hr
        rw [e x] at this
        rwa [show (x - r) * g x + f r - f r = (x - r) * g x by omega] at this
      rcases hp _ _ h3 with h4 | h4
      · exact absurd (by rw [show r - x = -(x - r) by omega]; exact Int.dvd_neg.2 h4) (l1 x hxL)
      · exact h4) l2
    simp only [List.length_cons]; omega
theorem Mon.pow (c : Int) : ∀ n : Nat, Mon (n + 1) (fun x => x ^ (n + 1) + c)
  | 0 => ⟨fun _ => 1, c, fun _ => rfl, fun x => by show x ^ (0 + 1) + c = x * 1 + c; rw [Int.pow_succ, Int.pow_zero]; omega⟩
  | n + 1 => ⟨fun x => x ^ (n + 1) + 0, c, Mon.pow 0 n, fun x => by show x ^ (n + 1 + 1) + c = x * (x ^ (n + 1) + 0) + c; rw [Int.pow_succ _ (n + 1)]; grind⟩
theorem nat_mod_of_dvd {a b : Int} {m x y : Nat} (ha : a = (x : Int)) (hb : b = (y : Int)) (h : (m : Int) ∣ a - b) : x % m = y % m := by
  subst ha; subst hb
  have := Int.emod_emod_of_dvd
  have h2 := Int.emod_eq_emod_iff_emod_sub_eq_zero.2 (Int.emod_eq_zero_of_dvd h)
  omega
theorem GQ_root {a h : Nat} (c : CopQ a h) (h1 : 1 ≤ h) (hp : EuI ((2 * h + 1 : Nat) : Int)) (e : GQ a h = 1) : ∃ k, k < h ∧ ((2 * h + 1 : Nat) : Int) ∣ ((k : Int) + 1) * ((k : Int) + 1) - a := by
  apply Classical.byContradiction
  intro hno
  have hn1 : ¬ ((2 * h + 1 : Nat) : Int) ∣ 1 := fun hd => by
    have := Int.eq_one_of_dvd_one (by omega) hd
    omega
  obtain ⟨h', rfl⟩ : ∃ h', h = h' + 1 := ⟨h - 1, by omega⟩
  have := Mon.roots hp hn1 (h' + 1) _ (Mon.pow (-1) h') ((a : Int) :: (List.range (h' + 1)).map fun k : Nat => ((k : Int) + 1) * ((k : Int) + 1)) ?_ ?_
  · simp at this; omega
  · intro x hx
    rcases List.mem_cons.1 hx with rfl | hx
    · have := euler_GQ c h1 hp
      rw [e] at this
      exact this
    · obtain ⟨k, hk, rfl⟩ := List.mem_map.1 hx
      have hk := List.mem_range.1 hk
      have ck : CopQ (k + 1) (h' + 1) := by
        unfold CopQ
        have hd1 := Nat.gcd_dvd_left (k + 1) (2 * (h' + 1) + 1)
        have hd2 := Nat.gcd_dvd_right (k + 1) (2 * (h' + 1) + 1)
        obtain ⟨u, hu⟩ := hd2
        have hle := Nat.le_of_dvd (by omega) hd1
        generalize Nat.gcd (k + 1) (2 * (h' + 1) + 1) = g at *
        rcases hp (g : Int) (u : Int) (by rw [← Int.natCast_mul, ← hu]; exact Int.dvd_refl _) with h2 | h2
        · have := Int.le_of_dvd (by
            have : 0 < g := by
              rcases Nat.eq_zero_or_pos g with h0 | h0
              · rw [h0] at hu; omega
              · exact h0
            omega) h2
          omega
        · have hu0 : 0 < u := by
            rcases Nat.eq_zero_or_pos u with h0 | h0
            · rw [h0] at hu; omega
            · exact h0
          have h3 := Int.le_of_dvd (by omega) h2
          rcases Nat.eq_zero_or_pos (g - 1) with h0 | h0
          · rcases Nat.eq_zero_or_pos g with h4 | h4
            · rw [h4] at hu; omega
            · omega
          · have : 2 * u ≤ g * u := Nat.mul_le_mul_right u (by omega)
            omega
      have c2 := ck.mul ck
      have e2 : GQ ((k + 1) * (k + 1)) (h' + 1) = 1 := GQ_sq c2 rfl
      have := euler_GQ c2 h1 hp
      rw [e2, Int.natCast_mul] at this
      exact this
  · refine List.pairwise_cons.2 ⟨?_, ?_⟩
    · intro y hy hd
      obtain ⟨k, hk, rfl⟩ := List.mem_map.1 hy
      exact hno ⟨k, List.mem_range.1 hk, by rw [show ((k : Int) + 1) * ((k : Int) + 1) - (a : Int) = -((a : Int) - ((k : Int) + 1) * ((k : Int) + 1)) by omega]; exact Int.dvd_neg.2 hd⟩
    · refine List.Pairwise.map _ (R := fun i j => i < j ∧ j < h' + 1) ?_ ?_
      · rintro i j ⟨h2, h3⟩ hd
        have e3 : ((i : Int) + 1) * ((i : Int) + 1) - ((j : Int) + 1) * ((j : Int) + 1) = ((i : Int) - j) * ((i : Int) + j + 2) := by grind
        rw [e3] at hd
        rcases hp _ _ hd with h4 | h4
        · have := Int.eq_zero_of_dvd_of_natAbs_lt_natAbs h4 (by omega)
          omega
        · have := Int.le_of_dvd (by omega) h4
          omega
      · exact List.Pairwise.imp_of_mem (fun {i j} _ hj h => ⟨h, by simpa using hj⟩) List.pairwise_lt_range

theorem GQ_one_mod (a : Nat) : GQ a 0 = 1 := rfl
theorem two_GQ (h : Nat) : two ((2 * h + 1 : Nat) : Int) = GQ 2 h := by
  rw [GQ_two]; unfold two
  split <;> split <;> first | rfl | omega
/-- The loop of the Jacobi symbol. -/
theorem jacS_GQ : ∀ (N a h : Nat), a < N → (CopQ a h → jacS (a : Int) ((2 * h + 1 : Nat) : Int) = GQ a h) ∧ (¬ CopQ a h → jacS (a : Int) ((2 * h + 1 : Nat) : Int) = 0)
  | 0, _, _, hN => absurd hN (by omega)
  | N + 1, a, h, hN => by
    rcases Nat.eq_zero_or_pos a with rfl | ha
    · have h0 : CopQ 0 h ↔ h = 0 := by unfold CopQ; rw [Nat.gcd_zero_left]; omega
      rw [show ((0 : Nat) : Int) = 0 from rfl, jacS_zero]
      refine ⟨fun c => ?_, fun c => ?_⟩
      · obtain rfl := h0.1 c; rfl
      · rw [if_neg]
        intro e
        exact c (h0.2 (by omega))
    · by_cases hev : a % 2 = 0
      · obtain ⟨b, rfl⟩ : ∃ b, a = 2 * b := ⟨a / 2, by omega⟩
        obtain ⟨i1, i2⟩ := jacS_GQ N b h (by omega)
        have c2 : CopQ 2 h := by
          unfold CopQ
          have : Nat.gcd 2 (2 * h + 1) = Nat.gcd 2 1 := by rw [Nat.add_comm, Nat.gcd_add_mul_left_right]
          rw [this]; decide
        rw [jacS_even (by omega) (by omega), show ((2 * b : Nat) : Int) / 2 = (b : Int) by omega, two_GQ]
        refine ⟨fun c => ?_, fun c => ?_⟩
        · have cb : CopQ b h := Nat.Coprime.coprime_mul_left c
          rw [i1 cb, GQ_mul c2 cb]
        · rw [i2 fun cb => c (c2.mul cb), Int.mul_zero]
      · obtain ⟨j, rfl⟩ : ∃ j, a = 2 * j + 1 := ⟨a / 2, by omega⟩
        obtain ⟨i1, i2⟩ := jacS_GQ N ((2 * h + 1) % (2 * j + 1)) j (by have := Nat.mod_lt (2 * h + 1) (show 0 < 2 * j + 1 by omega); omega)
        rw [jacS_odd (by omega) (by omega), ← Int.natCast_emod]
        have hcc : CopQ (2 * j + 1) h ↔ CopQ ((2 * h + 1) % (2 * j + 1)) j := by
          unfold CopQ
          rw [← Nat.gcd_rec]
        refine ⟨fun c => ?_, fun c => ?_⟩
        · rw [i1 (hcc.1 c), GQ_mod (b := 2 * h + 1) (Nat.mod_mod _ _)]
          have hr := GQ_rec c
          have hs : (if ((2 * j + 1 : Nat) : Int) % 4 = 3 ∧ ((2 * h + 1 : Nat) : Int) % 4 = 3 then (-1 : Int) else 1) = sgn (j * h) := by
            have hjh : (j * h) % 2 = (j % 2) * (h % 2) % 2 := Nat.mul_mod _ _ _
            unfold sgn
            rw [hjh]
            rcases Nat.mod_two_eq_zero_or_one j with h1 | h1 <;> rcases Nat.mod_two_eq_zero_or_one h with h2 | h2 <;> rw [h1, h2]
            · rw [if_neg (by omega)]; rfl
            · rw [if_neg (by omega)]; rfl
            · rw [if_neg (by omega)]; rfl
            · rw [if_pos (by omega)]; rfl
          rw [hs, ← hr]
          rcases GQ_pm (2 * h + 1) j with h1 | h1 <;> rw [h1] <;> omega
        · rw [i2 fun c' => c (hcc.2 c'), Int.mul_zero]
/-- The symbol is multiplicative below. -/
theorem GQ_low {a h k l : Nat} (e : 2 * l + 1 = (2 * h + 1) * (2 * k + 1)) (c1 : CopQ a h) (c2 : CopQ a k) : GQ a l = GQ a h * GQ a k := by
  -- an odd number with the same rests
  have hl : l = h + k + 2 * (h * k) := by
    have : (2 * h + 1) * (2 * k + 1) = 4 * (h * k) + 2 * h + 2 * k + 1 := by grind
    omega
  have odd : ∀ j : Nat, CopQ (2 * j + 1) h → CopQ (2 * j + 1) k → GQ (2 * j + 1) l = GQ (2 * j + 1) h * GQ (2 * j + 1) k := by
    intro j d1 d2
    have d3 : CopQ (2 * j + 1) l := by
      unfold CopQ at *
      rw [e]
      exact Nat.Coprime.mul_right d1 d2
    have r1 := GQ_rec d1
    have r2 := GQ_rec d2
    have r3 := GQ_rec d3
    have m : GQ (2 * l + 1) j = GQ (2 * h + 1) j * GQ (2 * k + 1) j := by
      rw [e]
      exact GQ_mul (by unfold CopQ at *; rw [Nat.gcd_comm]; exact d1) (by unfold CopQ at *; rw [Nat.gcd_comm]; exact d2)
    have s : sgn (j * l) = sgn (j * h) * sgn (j * k) := by
      rw [← sgn_add]
      apply sgn_mod
      rw [hl, Nat.mul_add, Nat.mul_add, show j * (2 * (h * k)) = 2 * (j * (h * k)) by grind]
      omega
    rw [m, s, ← r1, ← r2] at r3
    rcases GQ_pm (2 * h + 1) j with h1 | h1 <;> rcases GQ_pm (2 * k + 1) j with h2 | h2 <;> rw [h1, h2] at r3 <;> grind
  rcases Nat.mod_two_eq_zero_or_one a with ha | ha
  · -- a + (2h+1)(2k+1)
    obtain ⟨j, hj⟩ : ∃ j, a + (2 * l + 1) = 2 * j + 1 := ⟨(a + 2 * l) / 2, by omega⟩
    have m1 : a % (2 * h + 1) = (2 * j + 1) % (2 * h + 1) := by rw [← hj, e, Nat.add_mul_mod_self_left]
    have m2 : a % (2 * k + 1) = (2 * j + 1) % (2 * k + 1) := by rw [← hj, e, Nat.add_mul_mod_self_right]
    have m3 : a % (2 * l + 1) = (2 * j + 1) % (2 * l + 1) := by rw [← hj, Nat.add_mod_right]
    rw [GQ_mod m1, GQ_mod m2, GQ_mod m3]
    exact odd j (CopQ.mod m1 c1) (CopQ.mod m2 c2)
  · obtain ⟨j, rfl⟩ : ∃ j, a = 2 * j + 1 := ⟨a / 2, by omega⟩
    exact odd j c1 c2
end

section

/-- Sums over the first k numbers. -/
def SI (F : Nat → Int) : Nat → Int
  | 0 => 0
  | k + 1 => SI F k + F k
def inD (b : Prop) [Decidable b] : Int := if b then 1 else 0
theorem SI_eq {F F' : Nat → Int} : ∀ h : Nat, (∀ k, k < h → F k = F' k) → SI F h = SI F' h
  | 0, _ => rfl
  | h + 1, e => by
    show SI F h + F h = SI F' h + F' h
    rw [SI_eq h fun k hk => e k (by omega), e h (by omega)]
theorem SI_add (F F' : Nat → Int) : ∀ h : Nat, SI (fun k => F k + F' k) h = SI F h + SI F' h
  | 0 => rfl
  | h + 1 => by
    show SI (fun k => F k + F' k) h + (F h + F' h) = SI F h + F h + (SI F' h + F' h)
    rw [SI_add F F' h]; omega
theorem SI_mul (a : Int) (F : Nat → Int) : ∀ h : Nat, SI (fun k => a * F k) h = a * SI F h
  | 0 => by simp [SI]
  | h + 1 => by
    show SI (fun k => a * F k) h + a * F h = a * (SI F h + F h)
    rw [SI_mul a F h, Int.mul_add]
theorem SI_zero : ∀ h : Nat, SI (fun _ => 0) h = 0
  | 0 => rfl
  | h + 1 => by
    show SI (fun _ => 0) h + 0 = 0
    rw [SI_zero h]; rfl
theorem SI_app (F : Nat → Int) (m : Nat) : ∀ n : Nat, SI F (m + n) = SI F m + SI (fun k => F (m + k)) n
  | 0 => by simp [SI]
  | n + 1 => by
    show SI F (m + n) + F (m + n) = SI F m + (SI (fun k => F (m + k)) n + F (m + n))
    rw [SI_app F m n]; omega
theorem SI_swap (F : Nat → Nat → Int) (j : Nat) : ∀ h : Nat, SI (fun k => SI (fun l => F l k) j) h = SI (fun l => SI (fun k => F l k) h) j
  | 0 => (SI_zero j).symm
  | h + 1 => by
    show SI (fun k => SI (fun l => F l k) j) h + SI (fun l => F l h) j = _
    rw [SI_swap F j h, ← SI_add]
    rfl
theorem SI_blocks (F : Nat → Int) (M : Nat) : ∀ p : Nat, SI F (M * p) = SI (fun t => SI (fun x => F (x + M * t)) M) p
  | 0 => rfl
  | p + 1 => by
    show _ = SI (fun t => SI (fun x => F (x + M * t)) M) p + SI (fun x => F (x + M * p)) M
    rw [Nat.mul_succ, SI_app, SI_blocks F M p]
    congr 1
    exact SI_eq M fun k _ => by rw [Nat.add_comm]
theorem SI_ext {F : Nat → Int} {n : Nat} (h : ∀ k, n ≤ k → F k = 0) : ∀ N, n ≤ N → SI F N = SI F n := by
  intro N hN
  obtain ⟨j, rfl⟩ := Nat.exists_eq_add_of_le hN
  rw [SI_app, SI_eq (F' := fun _ => 0) j fun k _ => h _ (by omega), SI_zero]; omega
theorem SI_one {F : Nat → Int} {i : Nat} : ∀ n, (∀ k, k < n → k ≠ i → F k = 0) → i < n → SI F n = F i
  | 0, _, h => absurd h (by omega)
  | n + 1, h0, h => by
    show SI F n + F n = F i
    by_cases e : i = n
    · subst e
      rw [SI_eq (F' := fun _ => 0) i fun k hk => h0 k (by omega) (by omega), SI_zero]; omega
    · rw [SI_one n (fun k hk he => h0 k (by omega) he) (by omega), h0 n (by omega) (by omega)]; omega
theorem SI_mult {F : Nat → Int} {P : Nat} (hP : 0 < P) (h : ∀ k, ¬ P ∣ k → F k = 0) (N : Nat) : SI F (P * N) = SI (fun e => F (P * e)) N := by
  rw [SI_blocks]
  refine SI_eq N fun t _ => ?_
  rw [SI_one (i := 0) P (fun k hk h0 => h _ fun hd => ?_) hP, Nat.zero_add]
  have h1 : P ∣ k := (Nat.dvd_add_left (Nat.dvd_mul_right P t)).1 hd
  have := Nat.le_of_dvd (by omega) h1
  omega
def siF (F : Nat → Int) : List Nat → Int
  | [] => 0
  | x :: L => F x + siF F L
theorem siF_app (F : Nat → Int) : ∀ L K : List Nat, siF F (L ++ K) = siF F L + siF F K
  | [], K => by simp [siF]
  | x :: L, K => by
    show F x + siF F (L ++ K) = F x + siF F L + siF F K
    rw [siF_app F L K]; omega
theorem siF_perm (F : Nat → Int) {L K : List Nat} (h : L.Perm K) : siF F L = siF F K := by
  induction h with
  | nil => rfl
  | cons x _ ih => show F x + _ = F x + _; rw [ih]
  | swap x y l => simp only [siF]; omega
  | trans _ _ h1 h2 => exact h1.trans h2
theorem SI_list (F : Nat → Int) : ∀ h : Nat, SI F h = siF F (List.range h)
  | 0 => rfl
  | h + 1 => by rw [List.range_succ, siF_app, SI, SI_list F h]; simp [siF]
theorem siF_map (F : Nat → Int) (f : Nat → Nat) : ∀ L : List Nat, siF F (L.map f) = siF (fun k => F (f k)) L
  | [] => rfl
  | x :: L => by simp only [List.map_cons, siF]; rw [siF_map F f L]
theorem SI_perm (F : Nat → Int) {h : Nat} {f : Nat → Nat} (hf : ∀ i, i < h → f i < h) (hi : ∀ i j, i < h → j < h → f i = f j → i = j) : SI (fun k => F (f k)) h = SI F h := by
  rw [SI_list, SI_list, ← siF_map]
  exact siF_perm F (range_perm hf hi)

theorem ndvd_abs {m : Nat} {x : Int} : (m : Int) ∣ x ↔ m ∣ x.natAbs := by rw [← Int.natAbs_dvd_natAbs, Int.natAbs_natCast]
/-- Prime numbers. -/
structure PrQ (p : Nat) : Prop where
  two : 2 ≤ p
  eu : ∀ a b : Nat, p ∣ a * b → p ∣ a ∨ p ∣ b
theorem prN_of {p : Nat} (h2 : 2 ≤ p) (h : ∀ q, 2 ≤ q → q < p → ¬ q ∣ p) : PrQ p := by
  refine ⟨h2, fun a b hab => ?_⟩
  have hg := Nat.gcd_dvd_left p a
  have hle := Nat.le_of_dvd (by omega) hg
  by_cases h1 : Nat.gcd p a = 1
  · exact .inr (Nat.Coprime.dvd_of_dvd_mul_left h1 hab)
  · left
    have h0 : Nat.gcd p a ≠ 0 := fun h0 => by rw [h0] at hg; have := Nat.eq_zero_of_zero_dvd hg; omega
    have : Nat.gcd p a = p := by
      apply Classical.byContradiction
      intro hn
      exact h _ (by omega) (by omega) hg
    rw [← this]
    exact Nat.gcd_dvd_right p a
theorem prN_ex : ∀ (N n : Nat), n < N → 2 ≤ n → ∃ p, PrQ p ∧ p ∣ n
  | 0, _, h, _ => absurd h (by omega)
  | N + 1, n, h, h2 => by
    by_cases hq : ∃ q, 2 ≤ q ∧ q < n ∧ q ∣ n
    · obtain ⟨q, q1, q2, q3⟩ := hq
      obtain ⟨p, hp, hd⟩ := prN_ex N q (by omega) q1
      exact ⟨p, hp, Nat.dvd_trans hd q3⟩
    · exact ⟨n, prN_of h2 fun q q1 q2 q3 => hq ⟨q, q1, q2, q3⟩, Nat.dvd_refl n⟩
theorem PrQ.int {p : Nat} (h : PrQ p) : EuI (p : Int) := by
  intro a b hab
  have := Int.natAbs_dvd_natAbs.2 hab
  rw [Int.natAbs_mul, Int.natAbs_natCast] at this
  rcases h.eu _ _ this with h1 | h1
  · exact .inl (ndvd_abs.2 h1)
  · exact .inr (ndvd_abs.2 h1)
theorem PrQ.cop {p a : Nat} (h : PrQ p) (hd : ¬ p ∣ a) : Nat.Coprime p a := by
  have hg := Nat.gcd_dvd_left p a
  obtain ⟨u, hu⟩ := hg
  have h2 := h.two
  rcases h.eu (Nat.gcd p a) u (by rw [← hu]; exact Nat.dvd_refl p) with h1 | h1
  · exact absurd (Nat.dvd_trans h1 (Nat.gcd_dvd_right p a)) hd
  · obtain ⟨v, hv⟩ := h1
    have h3 : p * (Nat.gcd p a * v) = p * 1 := by
      rw [Nat.mul_one, ← Nat.mul_assoc, Nat.mul_comm p (Nat.gcd p a), Nat.mul_assoc, ← hv]; exact hu.symm
    have h4 := Nat.eq_of_mul_eq_mul_left (by omega) h3
    exact Nat.dvd_one.1 ⟨v, h4.symm⟩
theorem PrQ.ndvd_mul {p a b : Nat} (h : PrQ p) (ha : ¬ p ∣ a) (hb : ¬ p ∣ b) : ¬ p ∣ a * b := fun hd => (h.eu a b hd).elim ha hb
theorem PrQ.cop_pow {p a : Nat} (h : PrQ p) (hd : ¬ p ∣ a) (k : Nat) : Nat.Coprime (p ^ k) a := Nat.Coprime.pow_left k (h.cop hd)
theorem padic {p : Nat} (h : PrQ p) : ∀ (N n : Nat), n < N → 1 ≤ n → ∃ j e, n = p ^ j * e ∧ ¬ p ∣ e
  | 0, _, h, _ => absurd h (by omega)
  | N + 1, n, hN, h1 => by
    by_cases hd : p ∣ n
    · obtain ⟨m, rfl⟩ := hd
      have h2 := h.two
      have hm : 1 ≤ m := by
        rcases Nat.eq_zero_or_pos m with h0 | h0
        · rw [h0] at h1; omega
        · exact h0
      obtain ⟨j, e, he, hne⟩ := padic h N m (by have : 2 * m ≤ p * m := Nat.mul_le_mul_right m h2; omega) hm
      exact ⟨j + 1, e, by rw [Nat.pow_succ, Nat.mul_comm (p ^ j) p, Nat.mul_assoc, ← he], hne⟩
    · exact ⟨0, n, by simp, hd⟩

/-- The number of roots of x*x + s*x + c modulo m. -/
def qx (s c x : Int) : Int := x * x + s * x + c
def ZQ (s c : Int) (m : Nat) : Int := SI (fun x => inD ((m : Int) ∣ qx s c x)) m
theorem inD_mul (a b : Prop) [Decidable a] [Decidable b] : inD (a ∧ b) = inD a * inD b := by
  unfold inD
  by_cases ha : a <;> by_cases hb : b <;> simp [ha, hb]
theorem inD_iff {a b : Prop} [Decidable a] [Decidable b] (h : a ↔ b) : inD a = inD b := by
  unfold inD
  by_cases ha : a
  · rw [if_pos ha, if_pos (h.1 ha)]
  · rw [if_neg ha, if_neg fun hb => ha (h.2 hb)]
theorem qx_cong {s c x y : Int} {m : Int} (h : m ∣ x - y) : m ∣ qx s c x ↔ m ∣ qx s c y := by
  obtain ⟨k, hk⟩ := h
  obtain rfl : x = y + m * k := by omega
  have e : qx s c (y + m * k) = qx s c y + m * (k * (2 * y + m * k + s)) := by unfold qx; grind
  rw [e]
  exact Int.dvd_add_left (Int.dvd_mul_right _ _)
theorem cop_int {m n : Nat} (h : Nat.Coprime m n) {x : Int} : ((m * n : Nat) : Int) ∣ x ↔ (m : Int) ∣ x ∧ (n : Int) ∣ x := by
  rw [ndvd_abs, ndvd_abs, ndvd_abs]
  exact ⟨fun hd => ⟨Nat.dvd_trans (Nat.dvd_mul_right m n) hd, Nat.dvd_trans (Nat.dvd_mul_left n m) hd⟩, fun ⟨h1, h2⟩ => h.mul_dvd_of_dvd_of_dvd h1 h2⟩
theorem ZQ_mul {s c : Int} {m n : Nat} (h : Nat.Coprime m n) (hn : 0 < n) : ZQ s c (m * n) = ZQ s c m * ZQ s c n := by
  unfold ZQ
  rw [SI_blocks, ← SI_swap]
  have e : ∀ x, x < m → SI (fun t => inD (((m * n : Nat) : Int) ∣ qx s c ((x + m * t : Nat) : Int))) n = SI (fun x => inD ((n : Int) ∣ qx s c x)) n * inD ((m : Int) ∣ qx s c x) := by
    intro x _
    rw [Int.mul_comm, ← SI_perm (F := fun x => inD ((n : Int) ∣ qx s c x)) (f := fun t => (x + m * t) % n) (h := n) (fun i _ => Nat.mod_lt _ hn) ?_, ← SI_mul]
    · refine SI_eq n fun t _ => ?_
      have i1 : (m : Int) ∣ qx s c ((x + m * t : Nat) : Int) ↔ (m : Int) ∣ qx s c x := qx_cong ⟨t, by rw [Int.natCast_add, Int.natCast_mul]; omega⟩
      have i2 : (n : Int) ∣ qx s c ((x + m * t : Nat) : Int) ↔ (n : Int) ∣ qx s c (((x + m * t) % n : Nat) : Int) := qx_cong (by
        have := Nat.div_add_mod (x + m * t) n
        refine ⟨((x + m * t) / n : Nat), ?_⟩
        rw [← Int.natCast_mul]; omega)
      rw [inD_iff (cop_int h), inD_mul, inD_iff i1, inD_iff i2]
    · intro i j hi hj he
      have hd : (n : Int) ∣ ((x + m * i : Nat) : Int) - ((x + m * j : Nat) : Int) := by
        have := Int.emod_emod_of_dvd
        exact Int.dvd_of_emod_eq_zero (Int.emod_eq_emod_iff_emod_sub_eq_zero.1 (by exact_mod_cast he))
      have e2 : ((x + m * i : Nat) : Int) - ((x + m * j : Nat) : Int) = (m : Int) * ((i : Int) - j) := by
        rw [Int.natCast_add, Int.natCast_add, Int.natCast_mul, Int.natCast_mul]; grind
      rw [e2] at hd
      have h3 := Int.natAbs_dvd_natAbs.2 hd
      rw [Int.natAbs_mul, Int.natAbs_natCast, Int.natAbs_natCast] at h3
      have h4 := h.symm.dvd_of_dvd_mul_left h3
      rcases Nat.eq_zero_or_pos (((i : Int) - j).natAbs) with h0 | h0
      · omega
      · have := Nat.le_of_dvd h0 h4
        omega
  rw [SI_eq m e, SI_mul, Int.mul_comm]
/-- A root modulo a power goes on in one way, if the discriminant is no multiple. -/
theorem ZQ_lift {s c : Int} {p k : Nat} (h : PrQ p) (hd : ¬ (p : Int) ∣ s * s - 4 * c) : ZQ s c (p ^ (k + 2)) = ZQ s c (p ^ (k + 1)) := by
  unfold ZQ
  have hp2 := h.two
  have hM : 0 < p ^ (k + 1) := Nat.pow_pos (by omega)
  rw [show p ^ (k + 2) = p ^ (k + 1) * p from Nat.pow_succ .., SI_blocks, ← SI_swap]
  refine SI_eq _ fun x _ => ?_
  have hpM : (p : Int) ∣ ((p ^ (k + 1) : Nat) : Int) := Int.natCast_dvd_natCast.2 (Nat.dvd_of_pow_dvd (k := k + 1) (by omega) (Nat.dvd_refl _))
  generalize hMM : p ^ (k + 1) = M at *
  have ex : ∀ t : Int, qx s c (x + M * t) = qx s c x + M * (t * (2 * x + s)) + M * M * (t * t) := by intro t; unfold qx; grind
  by_cases hr : (M : Int) ∣ qx s c x
  · obtain ⟨u, hu⟩ := hr
    have hder : ¬ (p : Int) ∣ 2 * (x : Int) + s := fun h1 => by
      obtain ⟨v, hv⟩ := h1
      obtain ⟨w, hw⟩ := hpM
      apply hd
      refine ⟨v * p * v - 4 * w * u, ?_⟩
      have e1 : s * s - 4 * c = (2 * (x : Int) + s) * (2 * (x : Int) + s) - 4 * qx s c x := by unfold qx; grind
      rw [e1, hu, hv, hw]; grind
    -- t with p | u + t (2x+s)
    have hc : Nat.Coprime p (2 * (x : Int) + s).natAbs := h.cop fun h1 => hder (ndvd_abs.2 h1)
    have hiff : ∀ t : Int, ((M * p : Nat) : Int) ∣ qx s c (x + M * t) ↔ (p : Int) ∣ u + t * (2 * x + s) := by
      intro t
      rw [ex t, hu, Int.natCast_mul]
      obtain ⟨w, hw⟩ := hpM
      have e1 : (M : Int) * u + M * (t * (2 * x + s)) + M * M * (t * t) = M * (u + t * (2 * x + s)) + (M * p) * (w * (t * t)) := by
        conv => lhs; rhs; rw [show (M : Int) * M = M * (p * w) by rw [← hw]]
        grind
      rw [e1, Int.dvd_add_left (Int.dvd_mul_right _ _)]
      constructor
      · intro h1; exact Int.dvd_of_mul_dvd_mul_left (by omega) h1
      · intro h1; exact Int.mul_dvd_mul_left _ h1
    have hone : SI (fun t => inD ((p : Int) ∣ u + (t : Int) * (2 * x + s))) p = 1 := by
      -- the map t -> (u + t (2x+s)) mod p turns the rests
      rw [SI_eq (F' := fun t => (fun y : Nat => inD (y = 0)) ((u + (t : Int) * (2 * x + s)) % p).toNat) p ?_, SI_perm (F := fun y : Nat => inD (y = 0)) (f := fun t : Nat => ((u + (t : Int) * (2 * x + s)) % p).toNat) ?_ ?_]
      · rw [SI_one (i := 0) p (fun k _ h0 => by show inD (k = 0) = 0; unfold inD; rw [if_neg h0]) (by omega)]; rfl
      · intro i _
        have h1 := Int.emod_nonneg (u + (i : Int) * (2 * x + s)) (b := (p : Int)) (by omega)
        have h2 := Int.emod_lt_of_pos (u + (i : Int) * (2 * x + s)) (b := (p : Int)) (by omega)
        omega
      · intro i j hi hj he
        have h1 := Int.emod_nonneg (u + (i : Int) * (2 * x + s)) (b := (p : Int)) (by omega)
        have h2 := Int.emod_nonneg (u + (j : Int) * (2 * x + s)) (b := (p : Int)) (by omega)
        have h3 : (u + (i : Int) * (2 * x + s)) % p = (u + (j : Int) * (2 * x + s)) % p := by
          have he' : ((u + (i : Int) * (2 * x + s)) % p).toNat = ((u + (j : Int) * (2 * x + s)) % p).toNat := he
          omega
        have h4 := Int.dvd_of_emod_eq_zero (Int.emod_eq_emod_iff_emod_sub_eq_zero.1 h3)
        rw [show u + (i : Int) * (2 * x + s) - (u + (j : Int) * (2 * x + s)) = ((i : Int) - j) * (2 * x + s) by grind] at h4
        rcases h.int _ _ h4 with h5 | h5
        · have := Int.eq_zero_of_dvd_of_natAbs_lt_natAbs h5 (by omega)
          omega
        · exact absurd h5 hder
      · intro t _
        refine inD_iff ⟨fun h1 => ?_, fun h1 => ?_⟩
        · rw [Int.emod_eq_zero_of_dvd h1]; rfl
        · have h2 := Int.emod_nonneg (u + (t : Int) * (2 * x + s)) (b := (p : Int)) (by omega)
          exact Int.dvd_of_emod_eq_zero (by omega)
    rw [show inD ((M : Int) ∣ qx s c x) = 1 by unfold inD; rw [if_pos ⟨u, hu⟩], ← hone]
    refine SI_eq p fun t _ => inD_iff ?_
    rw [Int.natCast_add, Int.natCast_mul]
    exact hiff t
  · rw [show inD ((M : Int) ∣ qx s c x) = 0 by unfold inD; rw [if_neg hr], SI_eq (F' := fun _ => 0) p ?_, SI_zero]
    intro t _
    unfold inD
    rw [if_neg]
    intro h1
    apply hr
    refine (qx_cong (x := ((x + M * t : Nat) : Int)) (y := (x : Int)) ⟨t, by rw [Int.natCast_add, Int.natCast_mul]; omega⟩).1 ?_
    exact Int.dvd_trans ⟨p, by rw [Int.natCast_mul]⟩ h1
end

section

/-- What the sums ask of a character and a polynomial x*x + s*x + c. -/
structure ChQ (s c : Int) (χ : Nat → Int) : Prop where
  one : χ 1 = 1
  mul : ∀ m n, 1 ≤ m → 1 ≤ n → χ (m * n) = χ m * χ n
  pr : ∀ p, PrQ p → p ≤ 10000 → ZQ s c p = 1 + χ p
  pm : ∀ p, PrQ p → p ≤ 10000 → ¬ (p : Int) ∣ s * s - 4 * c → χ p = 1 ∨ χ p = -1
  ram : ∀ p, PrQ p → p ≤ 10000 → (p : Int) ∣ s * s - 4 * c → χ p = 0 ∧ ∀ k, ZQ s c (p ^ (k + 2)) = 0
/-- Numbers whose prime divisors are small. -/
def XS (χ : Nat → Int) (n : Nat) : Int := SI (fun k => if k ∣ n then χ k else 0) (n + 1)
def RS (s c : Int) (n : Nat) : Int := SI (fun t => if t * t ∣ n then ZQ s c (n / (t * t)) else 0) (n + 1)
theorem ndvd_gt {k n : Nat} (hn : 1 ≤ n) (h : n + 1 ≤ k) : ¬ k ∣ n := fun hd => by have := Nat.le_of_dvd (by omega) hd; omega
theorem XS_ext (χ : Nat → Int) {n N : Nat} (hn : 1 ≤ n) (h : n + 1 ≤ N) : SI (fun k => if k ∣ n then χ k else 0) N = XS χ n :=
  SI_ext (F := fun k => if k ∣ n then χ k else 0) (fun _ hk => if_neg (ndvd_gt hn hk)) N h
theorem sq_ge (t : Nat) : t ≤ t * t := by
  rcases Nat.eq_zero_or_pos t with h | h
  · rw [h]; omega
  · have := Nat.mul_le_mul_left t h; omega
theorem RS_ext (s c : Int) {n N : Nat} (hn : 1 ≤ n) (h : n + 1 ≤ N) : SI (fun t => if t * t ∣ n then ZQ s c (n / (t * t)) else 0) N = RS s c n :=
  SI_ext (F := fun t => if t * t ∣ n then ZQ s c (n / (t * t)) else 0) (fun k hk => if_neg (ndvd_gt hn (by have := sq_ge k; omega))) N h
theorem pw_pos {p : Nat} (h : PrQ p) (k : Nat) : 1 ≤ p ^ k := Nat.pow_pos (by have := h.two; omega)
theorem mul_pos1 {a b : Nat} (ha : 1 ≤ a) (hb : 1 ≤ b) : 1 ≤ a * b := Nat.mul_pos ha hb
theorem mul_dvd_l {a b c : Nat} (ha : 1 ≤ a) : a * b ∣ a * c ↔ b ∣ c := Nat.mul_dvd_mul_iff_left ha

section
variable {s c : Int} {χ : Nat → Int} {p : Nat}
theorem ChQ.pow (C : ChQ s c χ) (h : PrQ p) : ∀ k, χ (p ^ k) = χ p ^ k
  | 0 => by simpa using C.one
  | k + 1 => by rw [Nat.pow_succ, C.mul _ _ (pw_pos h k) (by have := h.two; omega), C.pow h k, Int.pow_succ]
/-- One more prime factor: divisors. -/
theorem XS_step (C : ChQ s c χ) (h : PrQ p) {m : Nat} (hm : 1 ≤ m) (hd : ¬ p ∣ m) (k : Nat) : XS χ (p ^ (k + 1) * m) = XS χ (p ^ k * m) + χ p ^ (k + 1) * XS χ m := by
  have hp := h.two
  have q1 := pw_pos h k
  have q2 := pw_pos h (k + 1)
  have n1 : 1 ≤ p ^ k * m := mul_pos1 q1 hm
  have n2 : 1 ≤ p ^ (k + 1) * m := mul_pos1 q2 hm
  have hle : p ^ k * m ≤ p ^ (k + 1) * m := Nat.mul_le_mul_right m (Nat.pow_le_pow_right (by omega) (by omega))
  have hN : p ^ (k + 1) * m + 1 ≤ p ^ (k + 1) * (m + 1) := by rw [Nat.mul_succ]; omega
  rw [← XS_ext χ n2 hN, ← XS_ext χ n1 (Nat.le_trans (Nat.succ_le_succ hle) hN)]
  have hlast : χ p ^ (k + 1) * XS χ m = SI (fun e => if ¬ e ∣ p ^ k * m ∧ e ∣ p ^ (k + 1) * m then χ e else 0) (p ^ (k + 1) * (m + 1)) := by
    rw [SI_mult (by omega) (fun e he => if_neg ?_)]
    · unfold XS
      rw [← SI_mul]
      refine SI_eq _ fun e _ => ?_
      by_cases hem : e ∣ m
      · have he0 : 1 ≤ e := by
          rcases Nat.eq_zero_or_pos e with h0 | h0
          · rw [h0] at hem; have := Nat.eq_zero_of_zero_dvd hem; omega
          · exact h0
        have hno : ¬ p ^ (k + 1) * e ∣ p ^ k * m := fun h1 => by
          have h2 : p ^ (k + 1) ∣ p ^ k * m := Nat.dvd_trans (Nat.dvd_mul_right _ _) h1
          rw [Nat.pow_succ] at h2
          exact hd ((mul_dvd_l q1).1 h2)
        rw [if_pos hem, if_pos ⟨hno, (mul_dvd_l q2).2 hem⟩, C.mul _ _ q2 he0, C.pow h]
      · rw [if_neg hem, if_neg fun h1 => hem ((mul_dvd_l q2).1 h1.2), Int.mul_zero]
    · rintro ⟨h1, h2⟩
      have he0 : 1 ≤ e := by
        rcases Nat.eq_zero_or_pos e with h0 | h0
        · rw [h0] at h2; have := Nat.eq_zero_of_zero_dvd h2; omega
        · exact h0
      obtain ⟨j, f, rfl, hf⟩ := padic h (e + 1) e (by omega) he0
      have hfm : f ∣ m := Nat.Coprime.dvd_of_dvd_mul_left (h.cop_pow hf (k + 1)).symm (Nat.dvd_trans (Nat.dvd_mul_left f (p ^ j)) h2)
      rcases Nat.lt_or_ge k j with hj | hj
      · apply he
        exact Nat.dvd_trans (Nat.pow_dvd_pow p (by omega)) (Nat.dvd_mul_right _ _)
      · apply h1
        exact Nat.mul_dvd_mul (Nat.pow_dvd_pow p hj) hfm
  rw [hlast, ← SI_add]
  refine SI_eq _ fun e _ => ?_
  by_cases h1 : e ∣ p ^ k * m
  · have h2 : e ∣ p ^ (k + 1) * m := Nat.dvd_trans h1 (Nat.mul_dvd_mul (Nat.pow_dvd_pow p (by omega)) (Nat.dvd_refl m))
    rw [if_pos h2, if_pos h1, if_neg fun h3 => h3.1 h1]; omega
  · by_cases h2 : e ∣ p ^ (k + 1) * m
    · rw [if_pos h2, if_neg h1, if_pos ⟨h1, h2⟩]; omega
    · rw [if_neg h2, if_neg h1, if_neg fun h3 => h2 h3.2]; rfl
theorem sq_dvd (h : PrQ p) {t m : Nat} (ht : ¬ p ∣ t) (k : Nat) : t * t ∣ p ^ k * m ↔ t * t ∣ m :=
  ⟨fun h1 => Nat.Coprime.dvd_of_dvd_mul_left (h.cop_pow (h.ndvd_mul ht ht) k).symm h1, fun h1 => Nat.dvd_trans h1 (Nat.dvd_mul_left m (p ^ k))⟩
/-- Square divisors without the prime. -/
theorem RS_free (h : PrQ p) {m : Nat} (hm : 1 ≤ m) (hd : ¬ p ∣ m) (k N : Nat) (hN : p ^ k * m + 1 ≤ N) : SI (fun t => if p ∣ t then 0 else if t * t ∣ p ^ k * m then ZQ s c (p ^ k * m / (t * t)) else 0) N = ZQ s c (p ^ k) * RS s c m := by
  have q := pw_pos h k
  have hle : m ≤ p ^ k * m := by have := Nat.mul_le_mul_right m q; omega
  rw [← RS_ext s c hm (N := N) (by omega), ← SI_mul]
  refine SI_eq N fun t _ => ?_
  by_cases ht : p ∣ t
  · rw [if_pos ht, if_neg fun h1 => hd (Nat.dvd_trans (Nat.dvd_trans ht (Nat.dvd_mul_right t t)) h1), Int.mul_zero]
  · rw [if_neg ht]
    by_cases h1 : t * t ∣ m
    · rw [if_pos ((sq_dvd h ht k).2 h1), if_pos h1, Nat.mul_div_assoc _ h1]
      obtain ⟨u, hu⟩ := h1
      have ht0 : 0 < t * t := by
        rcases Nat.eq_zero_or_pos (t * t) with h0 | h0
        · rw [h0] at hu; omega
        · exact h0
      have hu2 : m / (t * t) = u := by rw [hu, Nat.mul_div_cancel_left _ ht0]
      rw [hu2]
      refine ZQ_mul (h.cop_pow (fun h3 => hd ?_) k) ?_
      · rw [hu]; exact Nat.dvd_trans h3 (Nat.dvd_mul_left _ _)
      · rcases Nat.eq_zero_or_pos u with h0 | h0
        · rw [h0] at hu; omega
        · exact h0
    · rw [if_neg fun h2 => h1 ((sq_dvd h ht k).1 h2), if_neg h1, Int.mul_zero]
theorem RS_two (h : PrQ p) {m : Nat} (hm : 1 ≤ m) (hd : ¬ p ∣ m) (k : Nat) : RS s c (p ^ (k + 2) * m) = RS s c (p ^ k * m) + ZQ s c (p ^ (k + 2)) * RS s c m := by
  have hp := h.two
  have q1 := pw_pos h k
  have q2 := pw_pos h (k + 2)
  have n1 : 1 ≤ p ^ k * m := mul_pos1 q1 hm
  have n2 : 1 ≤ p ^ (k + 2) * m := mul_pos1 q2 hm
  have hN : p ^ (k + 2) * m + 1 ≤ p * (p ^ (k + 2) * m + 1) := by have := Nat.mul_le_mul_right (p ^ (k + 2) * m + 1) (show 1 ≤ p by omega); omega
  have hN1 : p ^ k * m + 1 ≤ p ^ (k + 2) * m + 1 := by have := Nat.mul_le_mul_right m (Nat.pow_le_pow_right (show 0 < p by omega) (show k ≤ k + 2 by omega)); omega
  rw [← RS_ext s c n2 hN, ← RS_free (s := s) (c := c) h hm hd (k + 2) _ hN, ← RS_ext s c n1 hN1]
  have hmul : SI (fun t => if t * t ∣ p ^ k * m then ZQ s c (p ^ k * m / (t * t)) else 0) (p ^ (k + 2) * m + 1) = SI (fun t => if p ∣ t then (if t * t ∣ p ^ (k + 2) * m then ZQ s c (p ^ (k + 2) * m / (t * t)) else 0) else 0) (p * (p ^ (k + 2) * m + 1)) := by
    rw [SI_mult (by omega) (fun t ht => if_neg ht)]
    refine SI_eq _ fun t _ => ?_
    rw [if_pos (Nat.dvd_mul_right p t)]
    have e1 : p * t * (p * t) = p * p * (t * t) := by grind
    have e2 : p ^ (k + 2) * m = p * p * (p ^ k * m) := by rw [Nat.pow_succ, Nat.pow_succ]; grind
    have hpp : 0 < p * p := Nat.mul_pos (by omega) (by omega)
    rw [e1, e2, Nat.mul_div_mul_left _ _ hpp]
    by_cases h1 : t * t ∣ p ^ k * m
    · rw [if_pos h1, if_pos ((mul_dvd_l hpp).2 h1)]
    · rw [if_neg h1, if_neg fun h2 => h1 ((mul_dvd_l hpp).1 h2)]
  rw [hmul, ← SI_add]
  refine SI_eq _ fun t _ => ?_
  by_cases ht : p ∣ t
  · rw [if_pos ht, if_pos ht]; omega
  · rw [if_neg ht, if_neg ht]; omega
theorem RS_one (h : PrQ p) {m : Nat} (hm : 1 ≤ m) (hd : ¬ p ∣ m) : RS s c (p ^ 1 * m) = ZQ s c (p ^ 1) * RS s c m := by
  have q2 := pw_pos h 1
  have n2 : 1 ≤ p ^ 1 * m := mul_pos1 q2 hm
  rw [← RS_free (s := s) (c := c) h hm hd 1 _ (Nat.le_refl _)]
  unfold RS
  refine SI_eq _ fun t _ => ?_
  by_cases ht : p ∣ t
  · rw [if_pos ht, if_neg]
    intro h1
    obtain ⟨u, rfl⟩ := ht
    have h2 : p * p ∣ p * m := by
      rw [Nat.pow_one] at h1
      exact Nat.dvd_trans ⟨u * u, by grind⟩ h1
    exact hd ((mul_dvd_l (by have := h.two; omega)).1 h2)
  · rw [if_neg ht]
theorem ZQ_pow (C : ChQ s c χ) (h : PrQ p) (hp : p ≤ 10000) (hd : ¬ (p : Int) ∣ s * s - 4 * c) : ∀ k, ZQ s c (p ^ (k + 1)) = 1 + χ p
  | 0 => by rw [Nat.zero_add, Nat.pow_one]; exact C.pr p h hp
  | k + 1 => by rw [ZQ_lift h hd]; exact ZQ_pow C h hp hd k
/-- Both sums at a prime power times a number that it does not divide. -/
theorem XS_RS (C : ChQ s c χ) (h : PrQ p) (hp : p ≤ 10000) {m : Nat} (hm : 1 ≤ m) (hd : ¬ p ∣ m) (ih : RS s c m = XS χ m) : ∀ k, RS s c (p ^ k * m) = XS χ (p ^ k * m) ∧ RS s c (p ^ (k + 1) * m) = XS χ (p ^ (k + 1) * m)
  | 0 => by
    refine ⟨by rw [Nat.pow_zero, Nat.one_mul]; exact ih, ?_⟩
    have e := XS_step C h hm hd 0
    rw [Nat.pow_zero, Nat.one_mul, Nat.zero_add, Int.pow_succ, Int.pow_zero, Int.one_mul] at e
    rw [Nat.zero_add, e, RS_one h hm hd, Nat.pow_one, C.pr p h hp, ih]
    grind
  | k + 1 => by
    obtain ⟨i1, i2⟩ := XS_RS C h hp hm hd ih k
    refine ⟨i2, ?_⟩
    rw [RS_two h hm hd, XS_step C h hm hd, XS_step C h hm hd, i1, ih]
    by_cases hr : (p : Int) ∣ s * s - 4 * c
    · obtain ⟨e1, e2⟩ := C.ram p h hp hr
      rw [e1, e2 k, Int.pow_succ, Int.pow_succ]
      simp
    · have e1 := ZQ_pow C h hp hr (k + 1)
      rw [e1]
      have e2 : χ p ^ (k + 1) + χ p ^ (k + 1 + 1) = 1 + χ p := by
        rcases C.pm p h hp hr with e | e
        · rw [e, Int.one_pow, Int.one_pow]
        · rw [e, Int.pow_succ]; grind
      rw [← e2]; grind
/-- The sums are equal. -/
theorem RS_XS (C : ChQ s c χ) : ∀ (N n : Nat), n < N → 1 ≤ n → n ≤ 10000 → RS s c n = XS χ n
  | 0, _, h, _, _ => absurd h (by omega)
  | N + 1, n, hN, h1, hb => by
    by_cases h2 : 2 ≤ n
    · obtain ⟨p, hp, hd⟩ := prN_ex (n + 1) n (by omega) h2
      obtain ⟨j, e, rfl, hne⟩ := padic hp (n + 1) n (by omega) h1
      have hpl := Nat.le_of_dvd (by omega) hd
      have he : 1 ≤ e := by
        rcases Nat.eq_zero_or_pos e with h0 | h0
        · rw [h0] at h1; omega
        · exact h0
      cases j with
      | zero => rw [Nat.pow_zero, Nat.one_mul] at hd; exact absurd hd hne
      | succ j =>
        have hlt : e < p ^ (j + 1) * e := by
          have h3 : p ≤ p ^ (j + 1) := by
            rw [Nat.pow_succ]
            have := Nat.mul_le_mul_right p (pw_pos hp j); omega
          have h4 := Nat.mul_le_mul_right e (Nat.le_trans hp.two h3)
          omega
        exact (XS_RS C hp (by omega) he hne (RS_XS C N e (by omega) he (by omega)) (j + 1)).1
    · obtain rfl : n = 1 := by omega
      unfold RS XS
      simp [SI, C.one, ZQ, inD]
end
end

section

theorem kro_fuel : ∀ (k l : Nat) (a n : Int), 1 ≤ n → n < 2 ^ k → n < 2 ^ l → kro k a n = kro l a n
  | 0, _, _, _, h1, h2, _ => by rw [Int.pow_zero] at h2; omega
  | _ + 1, 0, _, _, h1, _, h3 => by rw [Int.pow_zero] at h3; omega
  | k + 1, l + 1, a, n, h1, h2, h3 => by
    rw [Int.pow_succ] at h2 h3
    unfold kro
    by_cases he : n % 2 = 0
    · rw [if_pos he, if_pos he]
      by_cases ha : a % 2 = 0
      · rw [if_pos ha, if_pos ha]
      · rw [if_neg ha, if_neg ha, kro_fuel k l a (n / 2) (by omega) (by omega) (by omega)]
    · rw [if_neg he, if_neg he]
/-- The symbol (d/n). -/
def chN (d : Int) (n : Nat) : Int := kro n d n
theorem two_pw : ∀ n : Nat, (n : Int) < 2 ^ n
  | 0 => by decide
  | n + 1 => by
    have := two_pw n
    rw [Int.pow_succ]; omega
theorem chN_kro {d : Int} {n : Nat} (h1 : 1 ≤ n) (h2 : n ≤ 10000) : kroN d n = chN d n :=
  kro_fuel 40 n d n (by omega) (by have : (2 : Int) ^ 40 = 1099511627776 := by decide
                                   omega) (two_pw n)
def twoD (d : Int) : Int := if d % 2 = 0 then 0 else two d
theorem chN_even (d : Int) {n : Nat} (h1 : 1 ≤ n) : chN d (2 * n) = twoD d * chN d n := by
  unfold chN twoD
  obtain ⟨k, hk⟩ : ∃ k, 2 * n = k + 1 := ⟨2 * n - 1, by omega⟩
  have e : kro (2 * n) d ((2 * n : Nat) : Int) = (if d % 2 = 0 then 0 else two d * kro k d (((2 * n : Nat) : Int) / 2)) := by
    conv => lhs; arg 1; rw [hk]
    rw [kro, if_pos (by omega)]
  rw [e]
  split
  · simp
  · rw [show ((2 * n : Nat) : Int) / 2 = (n : Int) by omega]
    congr 1
    refine kro_fuel _ _ _ _ (by omega) ?_ (two_pw n)
    have h2 := two_pw k
    omega
def JQ (d : Int) (h : Nat) : Int := jacS (d % ((2 * h + 1 : Nat) : Int)) ((2 * h + 1 : Nat) : Int)
theorem chN_odd (d : Int) (h : Nat) : chN d (2 * h + 1) = JQ d h := by
  unfold chN JQ
  rw [kro, if_neg (by omega)]
def rsN (d : Int) (h : Nat) : Nat := (d % ((2 * h + 1 : Nat) : Int)).toNat
theorem rsN_eq (d : Int) (h : Nat) : (rsN d h : Int) = d % ((2 * h + 1 : Nat) : Int) := by
  unfold rsN
  have := Int.emod_nonneg d (b := ((2 * h + 1 : Nat) : Int)) (by omega)
  omega
theorem rsN_lt (d : Int) (h : Nat) : rsN d h < 2 * h + 1 := by
  have := rsN_eq d h
  have := Int.emod_lt_of_pos d (b := ((2 * h + 1 : Nat) : Int)) (by omega)
  omega
theorem rsN_dvd (d : Int) (h : Nat) : ((2 * h + 1 : Nat) : Int) ∣ d - rsN d h := by
  rw [rsN_eq]
  exact ⟨d / ((2 * h + 1 : Nat) : Int), by have := Int.mul_ediv_add_emod d ((2 * h + 1 : Nat) : Int); omega⟩
theorem JQ_cop {d : Int} {h : Nat} (c : CopQ (rsN d h) h) : JQ d h = GQ (rsN d h) h := by
  unfold JQ
  rw [← rsN_eq]
  exact (jacS_GQ _ _ h (Nat.lt_succ_self _)).1 c
theorem JQ_not {d : Int} {h : Nat} (c : ¬ CopQ (rsN d h) h) : JQ d h = 0 := by
  unfold JQ
  rw [← rsN_eq]
  exact (jacS_GQ _ _ h (Nat.lt_succ_self _)).2 c
theorem dvd_mod {m x y : Nat} (h : (m : Int) ∣ (x : Int) - y) : x % m = y % m := nat_mod_of_dvd rfl rfl h
theorem JQ_mul {d : Int} {h k l : Nat} (e : 2 * l + 1 = (2 * h + 1) * (2 * k + 1)) : JQ d l = JQ d h * JQ d k := by
  have m1 : rsN d l % (2 * h + 1) = rsN d h % (2 * h + 1) := by
    apply dvd_mod
    have a1 := rsN_dvd d l
    have a2 := rsN_dvd d h
    have a3 : ((2 * h + 1 : Nat) : Int) ∣ ((2 * l + 1 : Nat) : Int) := by rw [e]; exact Int.natCast_dvd_natCast.2 (Nat.dvd_mul_right _ _)
    have := Int.dvd_sub a2 (Int.dvd_trans a3 a1)
    rwa [show d - (rsN d h : Int) - (d - rsN d l) = (rsN d l : Int) - rsN d h by omega] at this
  have m2 : rsN d l % (2 * k + 1) = rsN d k % (2 * k + 1) := by
    apply dvd_mod
    have a1 := rsN_dvd d l
    have a2 := rsN_dvd d k
    have a3 : ((2 * k + 1 : Nat) : Int) ∣ ((2 * l + 1 : Nat) : Int) := by rw [e]; exact Int.natCast_dvd_natCast.2 (Nat.dvd_mul_left _ _)
    have := Int.dvd_sub a2 (Int.dvd_trans a3 a1)
    rwa [show d - (rsN d k : Int) - (d - rsN d l) = (rsN d l : Int) - rsN d k by omega] at this
  have hl : CopQ (rsN d l) l ↔ CopQ (rsN d h) h ∧ CopQ (rsN d k) k := by
    constructor
    · intro c
      unfold CopQ at c
      rw [e] at c
      exact ⟨CopQ.mod m1 (Nat.Coprime.coprime_mul_right_right c), CopQ.mod m2 (Nat.Coprime.coprime_mul_left_right c)⟩
    · rintro ⟨c1, c2⟩
      have d1 := CopQ.mod m1.symm c1
      have d2 := CopQ.mod m2.symm c2
      unfold CopQ at *
      rw [e]
      exact Nat.Coprime.mul_right d1 d2
  by_cases c : CopQ (rsN d l) l
  · obtain ⟨c1, c2⟩ := hl.1 c
    rw [JQ_cop c, JQ_cop c1, JQ_cop c2, GQ_low e (CopQ.mod m1.symm c1) (CopQ.mod m2.symm c2), GQ_mod m1, GQ_mod m2]
  · rw [JQ_not c]
    by_cases c1 : CopQ (rsN d h) h
    · rw [JQ_not fun c2 => c (hl.2 ⟨c1, c2⟩), Int.mul_zero]
    · rw [JQ_not c1, Int.zero_mul]
theorem chN_mul (d : Int) : ∀ (N m n : Nat), m + n < N → 1 ≤ m → 1 ≤ n → chN d (m * n) = chN d m * chN d n
  | 0, _, _, h, _, _ => absurd h (by omega)
  | N + 1, m, n, hN, hm, hn => by
    rcases Nat.mod_two_eq_zero_or_one m with e1 | e1
    · obtain ⟨k, rfl⟩ : ∃ k, m = 2 * k := ⟨m / 2, by omega⟩
      have hkn : 1 ≤ k * n := mul_pos1 (by omega) hn
      rw [Nat.mul_assoc, chN_even d hkn, chN_even d (by omega), chN_mul d N k n (by omega) (by omega) hn, Int.mul_assoc]
    · rcases Nat.mod_two_eq_zero_or_one n with e2 | e2
      · obtain ⟨k, rfl⟩ : ∃ k, n = 2 * k := ⟨n / 2, by omega⟩
        have hkn : 1 ≤ m * k := mul_pos1 hm (by omega)
        rw [show m * (2 * k) = 2 * (m * k) by grind, chN_even d hkn, chN_even d (by omega), chN_mul d N m k (by omega) hm (by omega)]
        grind
      · obtain ⟨h, rfl⟩ : ∃ h, m = 2 * h + 1 := ⟨m / 2, by omega⟩
        obtain ⟨k, rfl⟩ : ∃ k, n = 2 * k + 1 := ⟨n / 2, by omega⟩
        obtain ⟨l, hl⟩ : ∃ l, 2 * l + 1 = (2 * h + 1) * (2 * k + 1) := ⟨h + k + 2 * (h * k), by grind⟩
        rw [← hl, chN_odd, chN_odd, chN_odd, JQ_mul hl]
theorem chN_one (d : Int) : chN d 1 = 1 := by
  rw [show 1 = 2 * 0 + 1 from rfl, chN_odd]
  unfold JQ
  rw [show d % ((2 * 0 + 1 : Nat) : Int) = 0 by omega, jacS_zero]
  rfl

/-- A linear congruence has one solution. -/
theorem lin_one {h : Nat} (t : Int) : SI (fun x => inD (((2 * h + 1 : Nat) : Int) ∣ 2 * (x : Int) + t)) (2 * h + 1) = 1 := by
  have g1 := rsN_dvd (-t * (h + 1)) h
  have key : ∀ x : Nat, x < 2 * h + 1 → (((2 * h + 1 : Nat) : Int) ∣ 2 * (x : Int) + t ↔ x = rsN (-t * (h + 1)) h) := by
    intro x hx
    constructor
    · intro h1
      have h2 : ((2 * h + 1 : Nat) : Int) ∣ (x : Int) - rsN (-t * (h + 1)) h := by
        obtain ⟨u, hu⟩ := h1
        obtain ⟨v, hv⟩ := g1
        refine ⟨(h + 1) * u + v - x, ?_⟩
        have e1 : (rsN (-t * (h + 1)) h : Int) = -t * (h + 1) - ((2 * h + 1 : Nat) : Int) * v := by omega
        have e2 : t = ((2 * h + 1 : Nat) : Int) * u - 2 * x := by omega
        rw [e1, e2]
        have e3 : ((2 * h + 1 : Nat) : Int) = 2 * (h : Int) + 1 := by omega
        rw [e3]; grind
      have h3 := rsN_lt (-t * (h + 1)) h
      have := Int.eq_zero_of_dvd_of_natAbs_lt_natAbs h2 (by omega)
      omega
    · rintro rfl
      obtain ⟨v, hv⟩ := g1
      refine ⟨-t - 2 * v, ?_⟩
      have e1 : (rsN (-t * (h + 1)) h : Int) = -t * (h + 1) - ((2 * h + 1 : Nat) : Int) * v := by omega
      rw [e1]
      have e3 : ((2 * h + 1 : Nat) : Int) = 2 * (h : Int) + 1 := by omega
      rw [e3]; grind
  rw [SI_one (i := rsN (-t * (h + 1)) h) (2 * h + 1) (fun k hk hne => ?_) (rsN_lt _ _)]
  · unfold inD; rw [if_pos ((key _ (rsN_lt _ _)).2 rfl)]
  · unfold inD; rw [if_neg fun h1 => hne ((key k hk).1 h1)]
theorem four_dvd {h : Nat} {x : Int} : ((2 * h + 1 : Nat) : Int) ∣ 4 * x ↔ ((2 * h + 1 : Nat) : Int) ∣ x := by
  have e3 : ((2 * h + 1 : Nat) : Int) = 2 * (h : Int) + 1 := by omega
  constructor
  · rintro ⟨u, hu⟩
    refine ⟨((2 * h + 1 : Nat) : Int) * x - h * (h + 1) * u, ?_⟩
    have e : x = ((2 * h + 1 : Nat) : Int) * (((2 * h + 1 : Nat) : Int) * x) - h * (h + 1) * (4 * x) := by rw [e3]; grind
    rw [hu] at e
    rw [Int.mul_sub, show ((2 * h + 1 : Nat) : Int) * (h * (h + 1) * u) = h * (h + 1) * (((2 * h + 1 : Nat) : Int) * u) by grind]
    exact e
  · rintro ⟨u, hu⟩
    exact ⟨4 * u, by rw [hu]; grind⟩
theorem qx_four {s c : Int} {h : Nat} (x : Int) : ((2 * h + 1 : Nat) : Int) ∣ qx s c x ↔ ((2 * h + 1 : Nat) : Int) ∣ (2 * x + s) * (2 * x + s) - (s * s - 4 * c) := by
  rw [← four_dvd, show 4 * qx s c x = (2 * x + s) * (2 * x + s) - (s * s - 4 * c) by unfold qx; grind]
theorem inD_or {a b : Prop} [Decidable a] [Decidable b] (h : ¬ (a ∧ b)) : inD (a ∨ b) = inD a + inD b := by
  unfold inD
  by_cases ha : a <;> by_cases hb : b <;> simp [ha, hb]
  exact h ⟨ha, hb⟩
theorem JQ_ram {d : Int} {h : Nat} (h1 : 1 ≤ h) (hd : ((2 * h + 1 : Nat) : Int) ∣ d) : JQ d h = 0 := by
  refine JQ_not fun c => ?_
  have e : rsN d h = 0 := by
    have := rsN_eq d h
    rw [Int.emod_eq_zero_of_dvd hd] at this; omega
  unfold CopQ at c
  rw [e, Nat.gcd_zero_left] at c
  omega
theorem cop_rs {d : Int} {h : Nat} (hp : PrQ (2 * h + 1)) (hd : ¬ ((2 * h + 1 : Nat) : Int) ∣ d) : CopQ (rsN d h) h := by
  have := hp.cop (a := rsN d h) fun h1 => hd (by
    have h2 := Int.dvd_add (rsN_dvd d h) (Int.natCast_dvd_natCast.2 h1)
    rwa [show d - (rsN d h : Int) + rsN d h = d by omega] at h2)
  unfold CopQ
  rw [Nat.gcd_comm]; exact this
theorem ZQ_odd {s c d : Int} {h : Nat} (h1 : 1 ≤ h) (hp : PrQ (2 * h + 1)) (hd : s * s - 4 * c = d) : ZQ s c (2 * h + 1) = 1 + JQ d h := by
  have hE := hp.int
  by_cases hr : ((2 * h + 1 : Nat) : Int) ∣ d
  · rw [JQ_ram h1 hr]
    show _ = (1 : Int)
    rw [← lin_one (h := h) s]
    refine SI_eq _ fun x _ => inD_iff ?_
    rw [qx_four, hd]
    constructor
    · intro h2
      have h3 := Int.dvd_add h2 hr
      rw [show (2 * (x : Int) + s) * (2 * x + s) - d + d = (2 * (x : Int) + s) * (2 * x + s) by omega] at h3
      exact (hE _ _ h3).elim id id
    · intro h2
      exact Int.dvd_sub (Int.dvd_mul_of_dvd_left h2) hr
  · have c1 := cop_rs hp hr
    have hda := rsN_dvd d h
    rw [JQ_cop c1]
    rcases GQ_pm (rsN d h) h with e | e
    · obtain ⟨k, hk, hy⟩ := GQ_root c1 h1 hE e
      rw [e]
      show _ = (1 : Int) + 1
      have l1 := lin_one (h := h) (s - ((k : Int) + 1))
      have l2 := lin_one (h := h) (s + ((k : Int) + 1))
      have l3 := SI_add (fun x => inD (((2 * h + 1 : Nat) : Int) ∣ 2 * (x : Int) + (s - ((k : Int) + 1)))) (fun x => inD (((2 * h + 1 : Nat) : Int) ∣ 2 * (x : Int) + (s + ((k : Int) + 1)))) (2 * h + 1)
      rw [l1, l2] at l3
      rw [← l3]
      refine SI_eq _ fun x _ => ?_
      have hya : ((2 * h + 1 : Nat) : Int) ∣ ((k : Int) + 1) * ((k : Int) + 1) - d := by
        have := Int.dvd_sub hy hda
        rwa [show ((k : Int) + 1) * ((k : Int) + 1) - (rsN d h : Int) - (d - rsN d h) = ((k : Int) + 1) * ((k : Int) + 1) - d by omega] at this
      refine (inD_iff (b := ((2 * h + 1 : Nat) : Int) ∣ 2 * (x : Int) + (s - ((k : Int) + 1)) ∨ ((2 * h + 1 : Nat) : Int) ∣ 2 * (x : Int) + (s + ((k : Int) + 1))) ?_).trans (inD_or ?_)
      · rw [qx_four, hd]
        have e6 : (2 * (x : Int) + s) * (2 * x + s) - d = (2 * (x : Int) + (s - ((k : Int) + 1))) * (2 * (x : Int) + (s + ((k : Int) + 1))) + (((k : Int) + 1) * ((k : Int) + 1) - d) := by grind
        rw [e6, Int.dvd_add_left hya]
        exact ⟨fun h2 => hE _ _ h2, fun h2 => h2.elim (fun h3 => Int.dvd_mul_of_dvd_left h3) (fun h3 => Int.dvd_mul_of_dvd_right h3)⟩
      · rintro ⟨h2, h3⟩
        have h4 := Int.dvd_sub h3 h2
        rw [show 2 * (x : Int) + (s + ((k : Int) + 1)) - (2 * (x : Int) + (s - ((k : Int) + 1))) = 2 * ((k : Int) + 1) by omega] at h4
        have := Int.le_of_dvd (by omega) h4
        omega
    · rw [e]
      show _ = (0 : Int)
      rw [← SI_zero (2 * h + 1)]
      refine SI_eq _ fun x _ => ?_
      unfold inD
      rw [if_neg]
      intro h2
      rw [qx_four, hd] at h2
      have h3 := rsN_dvd (2 * (x : Int) + s) h
      have h4 : GQ (rsN d h) h = 1 := by
        refine GQ_sq (y := rsN (2 * (x : Int) + s) h) c1 ?_
        apply dvd_mod
        rw [Int.natCast_mul]
        obtain ⟨u, hu⟩ := h3
        obtain ⟨v, hv⟩ := h2
        obtain ⟨z, hz⟩ := hda
        refine ⟨v + z - u * (2 * (x : Int) + s) - u * rsN (2 * (x : Int) + s) h, ?_⟩
        generalize ((2 * h + 1 : Nat) : Int) = m at *
        generalize (rsN (2 * (x : Int) + s) h : Int) = Y at *
        generalize (rsN d h : Int) = a at *
        generalize 2 * (x : Int) + s = X at *
        obtain rfl : Y = X - m * u := by omega
        obtain rfl : a = d - m * z := by omega
        have e5 : d = X * X - m * v := by omega
        rw [e5]; grind
      omega
theorem ZQ_2 {s c d : Int} (hs : s = 0 ∨ s = 1) (hd : s * s - 4 * c = d) : ZQ s c 2 = 1 + twoD d := by
  have e : ZQ s c 2 = inD ((2 : Int) ∣ c) + inD ((2 : Int) ∣ 1 + s + c) := by
    unfold ZQ
    show 0 + _ + _ = _
    rw [Int.zero_add]
    congr 1
    · exact inD_iff (by unfold qx; simp)
    · exact inD_iff (by unfold qx; simp)
  rw [e]
  unfold twoD two inD
  rcases hs with rfl | rfl
  · rw [if_pos (show d % 2 = 0 by omega)]
    by_cases h : (2 : Int) ∣ c
    · rw [if_pos h, if_neg (by omega)]; try rfl
    · rw [if_neg h, if_pos (by omega)]; try rfl
  · rw [if_neg (show ¬ d % 2 = 0 by omega)]
    by_cases h : (2 : Int) ∣ c
    · rw [if_pos h, if_pos (by omega), if_pos (by omega)]
    · rw [if_neg h, if_neg (by omega), if_neg (by omega)]; rfl
theorem chN_2 (d : Int) : chN d 2 = twoD d := by
  have := chN_even d (n := 1) (Nat.le_refl _)
  rw [chN_one, Int.mul_one] at this
  exact this
/-- Fundamental discriminants: no square above 1 leaves a discriminant. -/
def FunD (d : Int) : Prop := ∀ f : Int, 2 ≤ f → f * f ∣ d → ¬ d / (f * f) % 4 < 2
theorem odd_pr {p : Nat} (hp : PrQ p) (h2 : p ≠ 2) : ∃ h, p = 2 * h + 1 ∧ 1 ≤ h := by
  have := hp.two
  refine ⟨p / 2, ?_, by omega⟩
  rcases Nat.mod_two_eq_zero_or_one p with h | h
  · have hd : p ∣ 2 * (p / 2) := ⟨1, by omega⟩
    rcases hp.eu _ _ hd with h3 | h3
    · have := Nat.le_of_dvd (by omega) h3; omega
    · have := Nat.le_of_dvd (by omega) h3; omega
  · omega
theorem chQ_of {d s c : Int} (hs : s = 0 ∨ s = 1) (hd : s * s - 4 * c = d) (F : FunD d) : ChQ s c (chN d) := by
  have key : ∀ p, PrQ p → ZQ s c p = 1 + chN d p := by
    intro p hp
    by_cases h2 : p = 2
    · subst h2; rw [ZQ_2 hs hd, chN_2]
    · obtain ⟨h, rfl, h1⟩ := odd_pr hp h2
      rw [ZQ_odd h1 hp hd, chN_odd]
  refine ⟨chN_one d, fun m n hm hn => chN_mul d _ m n (Nat.lt_succ_self _) hm hn, fun p hp _ => key p hp, fun p hp _ hr => ?_, fun p hp _ hr => ?_⟩
  · rw [hd] at hr
    by_cases h2 : p = 2
    · subst h2
      rw [chN_2]
      unfold twoD two
      rw [if_neg (by omega)]
      split <;> simp
    · obtain ⟨h, rfl, h1⟩ := odd_pr hp h2
      rw [chN_odd, JQ_cop (cop_rs hp hr)]
      exact GQ_pm _ _
  · rw [hd] at hr
    refine ⟨?_, fun k => ?_⟩
    · by_cases h2 : p = 2
      · subst h2
        rw [chN_2]; unfold twoD; rw [if_pos (by omega)]
      · obtain ⟨h, rfl, h1⟩ := odd_pr hp h2
        rw [chN_odd, JQ_ram h1 hr]
    · unfold ZQ
      rw [← SI_zero (p ^ (k + 2))]
      refine SI_eq _ fun x _ => ?_
      unfold inD
      rw [if_neg]
      intro h1
      have hpp : ((p : Int) * p) ∣ qx s c x := by
        refine Int.dvd_trans ?_ h1
        rw [← Int.natCast_mul]
        exact Int.natCast_dvd_natCast.2 ⟨p ^ k, by rw [Nat.pow_succ, Nat.pow_succ]; grind⟩
      have h4 : 4 * qx s c x = (2 * (x : Int) + s) * (2 * x + s) - d := by rw [← hd]; unfold qx; grind
      by_cases h2 : p = 2
      · subst h2
        -- 4 divides x*x + s*x + c
        rcases hs with rfl | rfl
        · obtain ⟨u, hu⟩ := hpp
          apply F 2 (by omega) ⟨-c, by omega⟩
          have e1 : d / (2 * 2) = -c := by omega
          rw [e1]
          unfold qx at hu
          have e2 : c = 4 * u - (x : Int) * x := by omega
          rcases (show (x : Int) % 2 = 0 ∨ (x : Int) % 2 = 1 by omega) with h5 | h5
          · obtain ⟨y, hy⟩ : ∃ y : Int, (x : Int) = 2 * y := ⟨(x : Int) / 2, by omega⟩
            have e3 : (x : Int) * x = 4 * (y * y) := by rw [hy]; grind
            omega
          · obtain ⟨y, hy⟩ : ∃ y : Int, (x : Int) = 2 * y + 1 := ⟨(x : Int) / 2, by omega⟩
            have e3 : (x : Int) * x = 4 * (y * y + y) + 1 := by rw [hy]; grind
            omega
        · omega
      · obtain ⟨h, rfl, h0⟩ := odd_pr hp h2
        generalize hm : ((2 * h + 1 : Nat) : Int) = m at *
        have hX : m ∣ 2 * (x : Int) + s := by
          have h5 : m ∣ (2 * (x : Int) + s) * (2 * x + s) := by
            obtain ⟨u, hu⟩ := hpp
            obtain ⟨v, hv⟩ := hr
            exact ⟨4 * m * u + v, by rw [hu, hv] at h4; grind⟩
          have hE := hp.int
          rw [hm] at hE
          exact (hE _ _ h5).elim id id
        have hdd : m * m ∣ d := by
          obtain ⟨u, hu⟩ := hpp
          obtain ⟨v, hv⟩ := hX
          exact ⟨v * v - 4 * u, by rw [hu, hv] at h4; grind⟩
        apply F m (by omega) hdd
        obtain ⟨u, hu⟩ := hdd
        have hm0 : m * m ≠ 0 := Int.mul_ne_zero (by omega) (by omega)
        rw [hu, Int.mul_ediv_cancel_left _ hm0]
        have e1 : m * m = 4 * ((h : Int) * h + h) + 1 := by rw [← hm, show ((2 * h + 1 : Nat) : Int) = 2 * (h : Int) + 1 by omega]; grind
        have e2 : d = 4 * (((h : Int) * h + h) * u) + u := by rw [hu, e1]; grind
        have e3 : d % 4 < 2 := by rcases hs with rfl | rfl <;> omega
        omega
/-- The roots over the square divisors and the character over the divisors. -/
theorem roots_chars {d s c : Int} (hs : s = 0 ∨ s = 1) (hd : s * s - 4 * c = d) (F : FunD d) {n : Nat} (h1 : 1 ≤ n) (h2 : n ≤ 10000) : RS s c n = XS (fun k => kroN d k) n := by
  rw [RS_XS (chQ_of hs hd F) _ n (Nat.lt_succ_self _) h1 h2]
  unfold XS
  refine SI_eq _ fun k _ => ?_
  by_cases hk : k ∣ n
  · rw [if_pos hk, if_pos hk]
    have := Nat.le_of_dvd (by omega) hk
    exact (chN_kro (by
      rcases Nat.eq_zero_or_pos k with h0 | h0
      · rw [h0] at hk; have := Nat.eq_zero_of_zero_dvd hk; omega
      · exact h0) (by omega)).symm
  · rw [if_neg hk, if_neg hk]
end
end Go.Proofs.Ytdhennlanngjgaa
