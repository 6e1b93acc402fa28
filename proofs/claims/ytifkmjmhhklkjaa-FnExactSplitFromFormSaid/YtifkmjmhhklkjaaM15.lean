/- Plain facts: powers of a class, the order of a class. No program in sight. -/
import Derived.Test.YtifkmjmhhklkjaaM14
namespace Go.Proofs.Ytifkmjmhhklkjaa

/-- The identity form. -/
def oneF (d : Int) : Fm := ⟨1, d % 2, (d % 2 - d) / 4⟩
theorem one_disc {d : Int} (h4 : d % 4 < 2) : disc (oneF d) = d := by
  have h0 : 0 ≤ d % 4 := Int.emod_nonneg _ (by omega)
  unfold disc oneF
  simp only
  rcases Int.emod_two_eq d with h1 | h1 <;> rw [h1] <;> omega
theorem one_red {d : Int} (h2 : d ≤ -3) (h4 : d % 4 < 2) : isRed (oneF d).a (oneF d).b (oneF d).c = true := by
  have h0 : 0 ≤ d % 4 := Int.emod_nonneg _ (by omega)
  rw [isRed_iff]
  unfold oneF
  simp only
  rcases Int.emod_two_eq d with h1 | h1 <;> rw [h1] <;> omega
theorem one_mem {d : Int} (h1 : -2000 ≤ d) (h2 : d ≤ -3) (h4 : d % 4 < 2) : oneF d ∈ clsL d :=
  mem_clsL_of h1 (by unfold oneF; simp) (one_disc h4) (one_red h2 h4) (by unfold oneF; simp)

/-- The context: a discriminant of the range. -/
structure Dsc (d : Int) : Prop where
  lo : -2000 ≤ d
  hi : d ≤ -3
  md : d % 4 < 2

variable {d : Int}
theorem Dsc.cmpm (h : Dsc d) {f g : Fm} (hf : f ∈ clsL d) (hg : g ∈ clsL d) : cmp d f g ∈ clsL d := (cmp_is h.lo h.hi h.md hf hg).1
theorem Dsc.is (h : Dsc d) {f g : Fm} (hf : f ∈ clsL d) (hg : g ∈ clsL d) : IsCmp d f g (cmp d f g) := cmp_is h.lo h.hi h.md hf hg
theorem Dsc.of (h : Dsc d) {f g r : Fm} (hr : IsCmp d f g r) : cmp d f g = r := cmp_of h.lo h.hi h.md hr
theorem Dsc.one (h : Dsc d) : oneF d ∈ clsL d := one_mem h.lo h.hi h.md
theorem Dsc.comm (h : Dsc d) {f g : Fm} (hf : f ∈ clsL d) (hg : g ∈ clsL d) : cmp d f g = cmp d g f := (h.of (h.is hf hg).comm).symm
theorem Dsc.assoc (h : Dsc d) {f g k : Fm} (hf : f ∈ clsL d) (hg : g ∈ clsL d) (hk : k ∈ clsL d) : cmp d (cmp d f g) k = cmp d f (cmp d g k) :=
  (h.of ((h.is hf hg).assoc (h.is (h.cmpm hf hg) hk) (h.is hg hk))).symm
theorem Dsc.mul_one (h : Dsc d) {f : Fm} (hf : f ∈ clsL d) : cmp d f (oneF d) = f := h.of (cmp_one h.lo h.md hf rfl)
theorem Dsc.one_mul (h : Dsc d) {f : Fm} (hf : f ∈ clsL d) : cmp d (oneF d) f = f := by rw [h.comm h.one hf, h.mul_one hf]
theorem Dsc.cancel (h : Dsc d) {f p q : Fm} (hp : p ∈ clsL d) (hq : q ∈ clsL d) (hf : f ∈ clsL d) (he : cmp d p f = cmp d q f) : p = q := by
  have k1 := h.is hp hf
  have k2 := h.is hq hf
  rw [← he] at k2
  exact k1.inj h.lo h.hi h.md hp hq hf k2

/-- The power of a class. -/
noncomputable def pw (d : Int) (f : Fm) : Nat → Fm
  | 0 => oneF d
  | n + 1 => cmp d (pw d f n) f
theorem Dsc.pwm (h : Dsc d) {f : Fm} (hf : f ∈ clsL d) : ∀ n, pw d f n ∈ clsL d
  | 0 => h.one
  | n + 1 => h.cmpm (h.pwm hf n) hf
theorem Dsc.pw_one (h : Dsc d) {f : Fm} (hf : f ∈ clsL d) : pw d f 1 = f := h.one_mul hf
theorem Dsc.pw_add (h : Dsc d) {f : Fm} (hf : f ∈ clsL d) (m : Nat) : ∀ n, pw d f (m + n) = cmp d (pw d f m) (pw d f n)
  | 0 => (h.mul_one (h.pwm hf m)).symm
  | n + 1 => by
    show cmp d (pw d f (m + n)) f = cmp d _ (cmp d _ f)
    rw [h.pw_add hf m n, h.assoc (h.pwm hf m) (h.pwm hf n) hf]
theorem Dsc.pw_sq (h : Dsc d) {f : Fm} (hf : f ∈ clsL d) : ∀ n, pw d (cmp d f f) n = pw d f (2 * n)
  | 0 => rfl
  | n + 1 => by
    show cmp d (pw d (cmp d f f) n) (cmp d f f) = _
    rw [h.pw_sq hf n, show 2 * (n + 1) = 2 * n + 1 + 1 by omega]
    exact (h.assoc (h.pwm hf _) hf hf).symm
/-- One round of the powers by squaring. -/
theorem Dsc.pw_half (h : Dsc d) {f p : Fm} (hf : f ∈ clsL d) (hp : p ∈ clsL d) (n : Nat) :
    cmp d p (pw d f n) = cmp d (if n % 2 = 1 then cmp d p f else p) (pw d (cmp d f f) (n / 2)) := by
  rw [h.pw_sq hf]
  split
  · rw [h.assoc hp hf (h.pwm hf _)]
    congr 1
    rw [show n = 1 + 2 * (n / 2) by omega, h.pw_add hf, h.pw_one hf]
    congr 2; omega
  · congr 2; omega

theorem itN_pw (d : Int) (f : Fm) (hf : cmp d (oneF d) f = f) : ∀ k, itN (fun p => cmp d p f) k f = pw d f (k + 1)
  | 0 => hf.symm
  | k + 1 => by show cmp d (itN _ k f) f = _; rw [itN_pw d f hf k]; rfl

/-- n is the order of the class f. -/
def IsOrd (d : Int) (f : Fm) (n : Nat) : Prop := 1 ≤ n ∧ pw d f n = oneF d ∧ ∀ k, 1 ≤ k → k < n → pw d f k ≠ oneF d
theorem IsOrd.uniq {d : Int} {f : Fm} {n m : Nat} (h : IsOrd d f n) (h' : IsOrd d f m) : n = m := by
  obtain ⟨a, b, c⟩ := h
  obtain ⟨a', b', c'⟩ := h'
  rcases Nat.lt_trichotomy n m with k | k | k
  · exact absurd b (c' n a k)
  · exact k
  · exact absurd b' (c m a' k)
theorem Dsc.ord (h : Dsc d) {f : Fm} (hf : f ∈ clsL d) : ∃ n, IsOrd d f n ∧ n ≤ 1640 := by
  obtain ⟨k, hk, he⟩ := order_ex h.lo h.hi h.md hf h.one rfl
  have hl := clsL_len d
  rw [itN_pw d f (h.one_mul hf)] at he
  -- the least one
  have : ∀ m, (∃ k, k ≤ m ∧ 1 ≤ k ∧ pw d f k = oneF d) → ∃ n, IsOrd d f n ∧ n ≤ m := by
    intro m
    induction m with
    | zero => rintro ⟨k, h1, h2, _⟩; omega
    | succ m ih =>
      rintro ⟨k, h1, h2, h3⟩
      by_cases hm : ∃ k, k ≤ m ∧ 1 ≤ k ∧ pw d f k = oneF d
      · obtain ⟨n, hn, hle⟩ := ih hm
        exact ⟨n, hn, by omega⟩
      · have hk : k = m + 1 := by
          apply Nat.le_antisymm h1
          apply Nat.lt_of_not_le; intro hle
          exact hm ⟨k, hle, h2, h3⟩
        subst hk
        exact ⟨m + 1, ⟨h2, h3, fun j j1 j2 j3 => hm ⟨j, by omega, j1, j3⟩⟩, Nat.le_refl _⟩
  obtain ⟨n, hn, hle⟩ := this (k + 1) ⟨k + 1, Nat.le_refl _, by omega, he⟩
  exact ⟨n, hn, by omega⟩
open Classical in
/-- The order of a class. -/
noncomputable def ordF (d : Int) (f : Fm) : Nat := if h : ∃ n, IsOrd d f n then h.choose else 1
theorem Dsc.ordm (h : Dsc d) {f : Fm} (hf : f ∈ clsL d) : IsOrd d f (ordF d f) ∧ ordF d f ≤ 1640 := by
  obtain ⟨n, hn, hle⟩ := h.ord hf
  have hx : ∃ n, IsOrd d f n := ⟨n, hn⟩
  have e : IsOrd d f (ordF d f) := by unfold ordF; rw [dif_pos hx]; exact hx.choose_spec
  exact ⟨e, by rw [e.uniq hn]; exact hle⟩
end Go.Proofs.Ytifkmjmhhklkjaa
