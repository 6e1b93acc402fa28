/- Plain facts: insertion sort of points by swaps. No program in sight. -/
import Derived.Test.YtblcmkhkbgikoaaGreatHP
namespace Go.Proofs.YtblcmkhkbgikoaaGreat

/-- The first i elements are in order. -/
def SrtN (K : List (Int × Int)) (i : Nat) : Prop := ∀ a b (h : b < K.length) (hab : a < b), b < i → ltP (K[a]'(by omega)) K[b] = true
/-- The first i + 1 elements are in order but for place j, whose element is less than those behind it. -/
def InsI (K : List (Int × Int)) (i j : Nat) : Prop :=
  (∀ a b (h : b < K.length) (hab : a < b), b ≤ i → a ≠ j → b ≠ j → ltP (K[a]'(by omega)) K[b] = true) ∧ (∀ b (h : b < K.length) (hjb : j < b), b ≤ i → ltP (K[j]'(by omega)) K[b] = true)
theorem srtN_one (K : List (Int × Int)) : SrtN K 1 := fun a b _ hab hb => absurd hab (by omega)
theorem insI_start {K : List (Int × Int)} {i : Nat} (h : SrtN K i) : InsI K i i :=
  ⟨fun a b hb hab hbi _ hbj => h a b hb hab (by omega), fun b _ h1 h2 => absurd h1 (by omega)⟩
theorem insI_zero {K : List (Int × Int)} {i : Nat} (h : InsI K i 0) : SrtN K (i + 1) := fun a b hb hab hbi => by
  by_cases e : a = 0
  · subst e; exact h.2 b hb hab (by omega)
  · exact h.1 a b hb hab (by omega) e (by omega)
theorem insI_stop {K : List (Int × Int)} {i j : Nat} (hn : K.Nodup) (h : InsI K i (j + 1)) (hj : j + 1 ≤ i) (hi : i < K.length) (hl : ltP (K[j + 1]'(by omega)) (K[j]'(by omega)) = false) : SrtN K (i + 1) := fun a b hb hab hbi => by
  have hs : ltP (K[j]'(by omega)) (K[j + 1]'(by omega)) = true := by
    cases hc : ltP (K[j]'(by omega)) (K[j + 1]'(by omega)) with
    | true => rfl
    | false =>
      have e := ltP_tot hc hl
      have := (List.getElem_inj hn).1 e
      omega
  by_cases e1 : a = j + 1
  · subst e1; exact h.2 b hb hab (by omega)
  · by_cases e2 : b = j + 1
    · subst e2
      by_cases e3 : a = j
      · subst e3; exact hs
      · exact ltP_tr (h.1 a j (by omega) (by omega) (by omega) e1 (by omega)) hs
    · exact h.1 a b hb hab (by omega) e1 e2
theorem insI_swap {K : List (Int × Int)} {i j : Nat} (h : InsI K i (j + 1)) (hj : j + 1 ≤ i) (hi : i < K.length) (hl : ltP (K[j + 1]'(by omega)) (K[j]'(by omega)) = true) :
    InsI ((K.set (j + 1) (K[j]'(by omega))).set j (K[j + 1]'(by omega))) i j := by
  have g : ∀ a (ha : a < ((K.set (j + 1) (K[j]'(by omega))).set j (K[j + 1]'(by omega))).length), ((K.set (j + 1) (K[j]'(by omega))).set j (K[j + 1]'(by omega)))[a] = if a = j then K[j + 1]'(by omega) else if a = j + 1 then K[j]'(by omega) else K[a]'(by simpa using ha) := by
    intro a ha
    rw [List.getElem_set, List.getElem_set]
    by_cases e : j = a
    · subst e; simp
    · rw [if_neg e, if_neg (Ne.symm e)]
      by_cases e2 : j + 1 = a
      · subst e2; simp
      · rw [if_neg e2, if_neg (Ne.symm e2)]
  constructor
  · intro a b hb hab hbi ha hbj
    have hb' : b < K.length := by simpa using hb
    rw [g a (by omega), g b hb, if_neg ha, if_neg hbj]
    by_cases e1 : a = j + 1
    · subst e1
      rw [if_pos rfl, if_neg (by omega)]
      exact h.1 j b hb' (by omega) hbi (by omega) (by omega)
    · rw [if_neg e1]
      by_cases e2 : b = j + 1
      · subst e2
        rw [if_pos rfl]
        exact h.1 a j (by omega) (by omega) (by omega) e1 (by omega)
      · rw [if_neg e2]
        exact h.1 a b hb' hab hbi e1 e2
  · intro b hb hjb hbi
    have hb' : b < K.length := by simpa using hb
    rw [g j (by omega), g b hb, if_pos rfl, if_neg (by omega)]
    by_cases e2 : b = j + 1
    · subst e2; rw [if_pos rfl]; exact hl
    · rw [if_neg e2]
      exact h.2 b hb' (by omega) hbi
theorem srtN_all {K : List (Int × Int)} (h : SrtN K K.length) : K.Pairwise fun p q => ltP p q = true :=
  List.pairwise_iff_getElem.2 fun a b _ hb hab => h a b hb hab hb
end Go.Proofs.YtblcmkhkbgikoaaGreat
