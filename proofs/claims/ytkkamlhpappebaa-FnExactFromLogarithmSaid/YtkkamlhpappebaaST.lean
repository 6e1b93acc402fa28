/- Plain facts: the exponents of an element in a basis; numbers in a mixed radix. -/
import Derived.Test.YtkkamlhpappebaaSS
namespace Go.Proofs.Ytkkamlhpappebaa

namespace Ab
variable {α : Type} {G : Ab α}
theorem comb_take : ∀ (J : List α) (e : List Nat) (k : Nat) (h : k < J.length) (h2 : k < e.length), G.comb (J.take (k + 1)) (e.take (k + 1)) = G.mul (G.comb (J.take k) (e.take k)) (G.pw J[k] e[k])
  | x :: J, a :: e, 0, _, _ => by
    show G.mul (G.pw x a) G.one = G.mul G.one (G.pw x a)
    rw [G.comm]
  | x :: J, a :: e, k + 1, h, h2 => by
    have h3 : k < J.length := by simpa using h
    have h4 : k < e.length := by simpa using h2
    have ih := comb_take J e k h3 h4
    show G.mul (G.pw x a) (G.comb (J.take (k + 1)) (e.take (k + 1))) = G.mul (G.mul (G.pw x a) (G.comb (J.take k) (e.take k))) (G.pw J[k] e[k])
    rw [ih, G.assoc]
theorem Bas.isO {S J : List α} {N : List Nat} (hB : G.Bas S J N) : ∀ (k : Nat) (h : k < J.length) (h2 : k < N.length), G.IsO J[k] N[k] := by
  induction hB with
  | nil => intro k h; simp at h
  | cons _ _ hT _ hI ih =>
    intro k h h2
    cases k with
    | zero => exact hI.isO hT
    | succ k => exact ih k (by simpa using h) (by simpa using h2)
end Ab
/-- The product of a list. -/
abbrev prodN (N : List Nat) : Nat := N.foldr (· * ·) 1
theorem prod_drop {N : List Nat} {k : Nat} (h : k < N.length) : prodN (N.drop k) = N[k] * prodN (N.drop (k + 1)) := by
  rw [List.drop_eq_getElem_cons h]; rfl
/-- The number whose digits are given, the greatest place first. -/
def valM : List Nat → List Nat → Nat
  | a :: e, _ :: N => a * prodN N + valM e N
  | _, _ => 0
theorem valM_lt {e N : List Nat} (h : Ab.Small e N) : valM e N < prodN N := by
  induction h with
  | nil => simp [valM]
  | @cons a n e N ha _ ih =>
    have h1 : (a + 1) * prodN N ≤ n * prodN N := Nat.mul_le_mul_right _ ha
    rw [Nat.succ_mul] at h1
    show a * prodN N + valM e N < n * prodN N
    omega
theorem valM_inj {e N : List Nat} (h : Ab.Small e N) : ∀ e', Ab.Small e' N → valM e N = valM e' N → e = e' := by
  induction h with
  | nil => intro e' h' _; cases h'; rfl
  | @cons a n e N ha hs ih =>
    intro e' h' he
    cases h' with
    | @cons b _ e' _ hb hs' =>
      have h1 := valM_lt hs
      have h2 := valM_lt hs'
      have he2 : a * prodN N + valM e N = b * prodN N + valM e' N := he
      have hab : a = b := by
        rcases Nat.lt_trichotomy a b with h | h | h
        · have := Nat.mul_le_mul_right (prodN N) (show a + 1 ≤ b from h)
          rw [Nat.succ_mul] at this
          omega
        · exact h
        · have := Nat.mul_le_mul_right (prodN N) (show b + 1 ≤ a from h)
          rw [Nat.succ_mul] at this
          omega
      subst hab
      rw [ih e' hs' (by omega)]
theorem valM_set : ∀ (e N : List Nat) (k x : Nat) (h : k < e.length) (_ : e.length = N.length), valM (e.set k x) N + e[k] * prodN (N.drop (k + 1)) = valM e N + x * prodN (N.drop (k + 1))
  | a :: e, n :: N, 0, x, _, _ => by
    show x * prodN N + valM e N + a * prodN N = a * prodN N + valM e N + x * prodN N
    omega
  | a :: e, n :: N, k + 1, x, h, hl => by
    have h3 : k < e.length := by simpa using h
    have ih := valM_set e N k x h3 (by simpa using hl)
    show a * prodN N + valM (e.set k x) N + e[k] * prodN (N.drop (k + 1)) = a * prodN N + valM e N + x * prodN (N.drop (k + 1))
    omega
/-- The digits of a number, the least place first. -/
def digL : Nat → List Nat → List Nat
  | _, [] => []
  | n, m :: N => n % m :: digL (n / m) N
theorem digL_len : ∀ (n : Nat) (N : List Nat), (digL n N).length = N.length
  | _, [] => rfl
  | n, m :: N => by rw [digL, List.length_cons, digL_len, List.length_cons]
theorem digL_small : ∀ (n : Nat) (N : List Nat), (∀ m ∈ N, 0 < m) → Ab.Small (digL n N) N
  | _, [], _ => .nil
  | n, m :: N, h => .cons (Nat.mod_lt _ (h m (by simp))) (digL_small _ N fun x hx => h x (by simp [hx]))
theorem digL_get : ∀ (n : Nat) (N : List Nat) (k : Nat) (h : k < N.length), (digL n N)[k]'(by rw [digL_len]; exact h) = (N.take k).foldl (· / ·) n % N[k]
  | n, m :: N, 0, _ => rfl
  | n, m :: N, k + 1, h => by
    have := digL_get (n / m) N k (by simpa using h)
    simp only [digL, List.getElem_cons_succ, List.take_succ_cons, List.foldl_cons]
    exact this
theorem digL_ex {e N : List Nat} (h : Ab.Small e N) : ∃ n, n < prodN N ∧ digL n N = e := by
  induction h with
  | nil => exact ⟨0, by simp, rfl⟩
  | @cons a m e N ha _ ih =>
    obtain ⟨n, hn, he⟩ := ih
    refine ⟨a + m * n, ?_, ?_⟩
    · have := Nat.mul_le_mul_left m (show n + 1 ≤ prodN N from hn)
      rw [Nat.mul_succ] at this
      show a + m * n < m * prodN N
      omega
    · rw [digL, Nat.add_mul_mod_self_left, Nat.mod_eq_of_lt ha, Nat.add_mul_div_left _ _ (by omega), Nat.div_eq_of_lt ha, Nat.zero_add, he]
theorem rest_step {n : Nat} {N : List Nat} {k : Nat} (h : k < N.length) : (N.take (k + 1)).foldl (· / ·) n = (N.take k).foldl (· / ·) n / N[k] := by
  rw [List.take_succ_eq_append_getElem h, List.foldl_append]; rfl
section
variable {d : Int}
/-- The index of an element. -/
noncomputable def ixN (D : Dsc d) (x : {f : Fm // f ∈ clsL d}) : Nat := Classical.choose (elN_ex D x)
theorem ixN_lt (D : Dsc d) (x : {f : Fm // f ∈ clsL d}) : ixN D x < (clsL d).length := (Classical.choose_spec (elN_ex D x)).1
theorem ixN_el (D : Dsc d) (x : {f : Fm // f ∈ clsL d}) : elN D (ixN D x) = x := (Classical.choose_spec (elN_ex D x)).2
theorem ixN_elN (D : Dsc d) {i : Nat} (h : i < (clsL d).length) : ixN D (elN D i) = i := elN_inj D (ixN_lt D _) h (ixN_el D _)
theorem ixN_mul (D : Dsc d) (x : {f : Fm // f ∈ clsL d}) {i : Nat} (h : i < (clsL d).length) : mulN d (clsL d) (ixN D x) i = ixN D ((clG D).mul x (elN D i)) := by
  apply elN_inj D ((ng_cls D).lt _ _ (ixN_lt D _) h) (ixN_lt D _)
  rw [elN_mul D (ixN_lt D _) h, ixN_el, ixN_el]
theorem ixN_one (D : Dsc d) : ixN D (clG D).one = 0 := by
  rw [← elN_zero D]
  exact ixN_elN D (ng_cls D).pos
/-- The element with exponents, of the first k members of the basis. -/
noncomputable def cmbN (D : Dsc d) (e : List Nat) (k : Nat) : Nat := ixN D ((clG D).comb (((basN d).map (elN D)).take k) (e.take k))
theorem cmbN_zero (D : Dsc d) (e : List Nat) : cmbN D e 0 = 0 := by
  unfold cmbN
  rw [List.take_zero]
  exact ixN_one D
theorem cmbN_lt (D : Dsc d) (e : List Nat) (k : Nat) : cmbN D e k < (clsL d).length := ixN_lt D _
theorem cmbN_step (D : Dsc d) {e : List Nat} {k : Nat} (h : k < (basN d).length) (h2 : k < e.length) : cmbN D e (k + 1) = ixN D ((clG D).mul ((clG D).comb (((basN d).map (elN D)).take k) (e.take k)) ((clG D).pw (elN D (basN d)[k]) e[k])) := by
  unfold cmbN
  rw [Ab.comb_take _ _ _ (by rw [List.length_map]; exact h) h2, List.getElem_map]
/-- The step by an index of the power. -/
theorem cmbN_next (D : Dsc d) {e : List Nat} {k q : Nat} (h : k < (basN d).length) (h2 : k < e.length) (hq : q < (clsL d).length) (he : elN D q = (clG D).pw (elN D (basN d)[k]) e[k]) : mulN d (clsL d) (cmbN D e k) q = cmbN D e (k + 1) := by
  rw [cmbN_step D h h2, ← he]
  exact ixN_mul D _ hq
theorem bas_ord (D : Dsc d) {k : Nat} (h : k < (basN d).length) (h1 : k < (facN d).length) (h2 : (basN d)[k] < (clsL d).length) : ordF d (clsL d)[(basN d)[k]] = (facN d)[k] := by
  have h3 := (bas_all D).isO k (by rw [List.length_map]; exact h) h1
  rw [List.getElem_map] at h3
  have h0 := clG_ord D (elN D (basN d)[k])
  have e1 : ordF d (elN D (basN d)[k]).1 = (facN d)[k] := Nat.dvd_antisymm (h0.dvd _ h3.2.1) (h3.dvd _ h0.2.1)
  rw [← e1, elN_val D h2]
/-- The exponents of the element i. -/
theorem log_ex (D : Dsc d) (i : Nat) : ∃ e, Ab.Small e (facN d) ∧ (clG D).comb ((basN d).map (elN D)) e = elN D i :=
  Ab.Bas.all (clG_all D) (bas_all D) (by rw [facN_prod D, List.length_attach]) (List.mem_attach _ _)
noncomputable def logN (D : Dsc d) (i : Nat) : List Nat := Classical.choose (log_ex D i)
theorem logN_small (D : Dsc d) (i : Nat) : Ab.Small (logN D i) (facN d) := (Classical.choose_spec (log_ex D i)).1
theorem logN_len (D : Dsc d) (i : Nat) : (logN D i).length = (facN d).length := (logN_small D i).len
theorem cmbN_full (D : Dsc d) (e : List Nat) (h : e.length = (facN d).length) : cmbN D e (facN d).length = ixN D ((clG D).comb ((basN d).map (elN D)) e) := by
  unfold cmbN
  rw [List.take_of_length_le (by rw [List.length_map, basN_len]; exact Nat.le_refl _), List.take_of_length_le (by omega)]
theorem logN_cmb (D : Dsc d) {i : Nat} (hi : i < (clsL d).length) : cmbN D (logN D i) (facN d).length = i := by
  have h : (clG D).comb ((basN d).map (elN D)) (logN D i) = elN D i := (Classical.choose_spec (log_ex D i)).2
  rw [cmbN_full D _ (logN_len D i), h]
  exact ixN_elN D hi
theorem logN_uniq (D : Dsc d) {i : Nat} {e : List Nat} (he : Ab.Small e (facN d)) (h : cmbN D e (facN d).length = i) : e = logN D i := by
  rw [cmbN_full D _ he.len] at h
  refine (bas_all D).inj _ _ he (logN_small D i) ?_
  have h1 := (Classical.choose_spec (log_ex D i)).2
  show (clG D).comb _ e = (clG D).comb _ (Classical.choose (log_ex D i))
  rw [h1, ← h, ixN_el]
end
end Go.Proofs.Ytkkamlhpappebaa
