/- Plain facts: the triples of the reference in their order are the lists of the program. -/
import Derived.Test.YteehcjjhkphdnaaGreatPK
import Derived.Test.YteehcjjhkphdnaaGreatPE
namespace Go.Proofs.YteehcjjhkphdnaaGreat
open Go.RowKit

theorem loopD_cong {α : Type} {h h' : Nat → Option α} : ∀ {n : Nat}, (∀ k, k < n → h k = h' k) → loopD h n = loopD h' n
  | 0, _ => rfl
  | n + 1, hh => by
    rw [loopD, loopD, hh n (by omega), loopD_cong (n := n) (fun k hk => hh k (by omega))]
theorem loopD_none {α : Type} {h : Nat → Option α} : ∀ {n : Nat}, (∀ k, k < n → h k = none) → loopD h n = none
  | 0, _ => rfl
  | n + 1, hh => by
    rw [loopD, hh n (by omega)]
    exact loopD_none (fun k hk => hh k (by omega))
theorem loopD_top {α : Type} {h : Nat → Option α} {n : Nat} (hh : ∀ k, k < n → h k = none) : loopD h (n + 1) = h n := by
  rw [loopD, loopD_none hh]
  cases h n <;> rfl
/-- Whether the reference passes a triple by. -/
def skB (n : Nat) (b c : Int) : Bool := (decide (n < 3) && decide (c ≠ 0)) || (decide (n < 2) && decide (b ≠ 0))
def trL (n s a b : Nat) : List Int := ([(a : Int), (b : Int), ((s - a - b : Nat) : Int)]).take n
/-- What the reference finds at a triple. -/
def hbF (G : List Int → Bool) (n s a b : Nat) : Option (List Int) := if skB n b ((s - a - b : Nat) : Int) = false ∧ G (trL n s a b) = true then some (trL n s a b) else none
def haF (G : List Int → Bool) (n s a : Nat) : Option (List Int) := loopD (hbF G n s a) (s - a + 1)
theorem ref_eq (G : List Int → Bool) (n s : Nat) (h1 : 1 ≤ n) (h3 : n ≤ 3) : loopD (haF G n s) (s + 1) = lastL G (n - 1) s [] := by
  obtain rfl | rfl | rfl : n = 1 ∨ n = 2 ∨ n = 3 := by omega
  · rw [loopD_top (h := haF G 1 s) (fun a ha => by
      unfold haF
      refine loopD_none (fun b hb => ?_)
      unfold hbF
      rw [if_neg]
      rintro ⟨h, _⟩
      simp [skB] at h
      omega)]
    unfold haF
    rw [Nat.sub_self, Nat.zero_add, loopD_top (fun k hk => absurd hk (Nat.not_lt_zero _))]
    simp [hbF, skB, trL, lastL]
  · show loopD (haF G 2 s) (s + 1) = loopD (fun f => lastL G 0 (s - f) ([] ++ [(f : Int)])) (s + 1)
    refine loopD_cong (fun a ha => ?_)
    unfold haF
    rw [loopD_top (fun b hb => by
      unfold hbF
      rw [if_neg]
      rintro ⟨h, _⟩
      simp [skB] at h
      omega)]
    simp [hbF, skB, trL, lastL]
  · show loopD (haF G 3 s) (s + 1) = loopD (fun f => loopD (fun f2 => lastL G 0 (s - f - f2) ([] ++ [(f : Int)] ++ [(f2 : Int)])) (s - f + 1)) (s + 1)
    refine loopD_cong (fun a ha => loopD_cong (fun b hb => ?_))
    simp [hbF, skB, trL, lastL]
/-- The composite asks for no more exponents than there are classes. -/
theorem relK_take {d : Int} {K : List Fm} {E : List Int} (n : Nat) : ∀ k, k ≤ n → relK d K (E.take n) k = relK d K E k
  | 0, _ => rfl
  | k + 1, h => by
    rw [relK, relK, relK_take n k (by omega)]
    congr 2
    simp only [List.getD_eq_getElem?_getD, List.getElem?_take]
    rw [if_pos (by omega)]
theorem lastL_len (g : List Int → Bool) : ∀ (p s : Nat) (pre E : List Int), lastL g p s pre = some E → E.length = pre.length + p + 1
  | 0, s, pre, E, h => by
    rw [lastL] at h
    split at h
    · injection h with h; subst h; simp
    · cases h
  | p + 1, s, pre, E, h => by
    rw [lastL] at h
    generalize s + 1 = m at h
    induction m with
    | zero => cases h
    | succ m ih =>
      rw [loopD] at h
      split at h
      · rename_i x hx
        injection h with h
        subst h
        have := lastL_len g p (s - m) _ _ hx
        simp at this
        omega
      · exact ih h
theorem lsUp_len {h : Nat → Option (List Int)} {b : Nat} (hb : ∀ s E, h s = some E → E.length ≤ b) : ∀ (k s : Nat) (E : List Int), lsUp h k s = some E → E.length ≤ b
  | 0, _, _, hE => by cases hE
  | k + 1, s, E, hE => by
    rw [lsUp] at hE
    split at hE
    · rename_i x hx
      injection hE with hE
      subst hE
      exact hb _ _ hx
    · exact lsUp_len hb k (s + 1) E hE
theorem lrP_ex (d : Int) (Z : List Int) : ∃ L ok, LrP d Z L ok ∧ L.length ≤ 10000000 := by
  cases hz : lrO d Z with
  | none => exact ⟨_, _, .inl ⟨hz, rfl, rfl⟩, by simp⟩
  | some E =>
    refine ⟨E, _, .inr ⟨hz, rfl⟩, ?_⟩
    unfold lrO at hz
    cases hp : pfsO d Z 3 with
    | none => rw [hp] at hz; cases hz
    | some L =>
      rw [hp, Option.bind_some] at hz
      obtain ⟨_, _, h1, h2, _⟩ := pfsO_cf hp
      refine Nat.le_trans (lsUp_len (b := 3) (fun s E hs => ?_) _ _ _ hz) (by decide)
      have := lastL_len _ _ _ _ _ hs
      simp at this
      omega
/-- A shorter slice of an owned row. -/
theorem own_take {w : World} {B g m c n : Nat} {e : TypeId} {ys : List Value} (h : w.ownsRow B e 1 (.slice (some ⟨g, 0, none⟩) m c) m ys) (hn : n ≤ m) : w.ownsRow B e 1 (.slice (some ⟨g, 0, none⟩) n c) n (ys.take n) := by
  refine ⟨by rw [List.length_take, h.1]; omega, ?_⟩
  rcases h.2 with ⟨hv, _⟩ | ⟨g2, c2, cur, hv, hg, hh, hnc, hcm, hcs, ht⟩
  · cases hv
  · injection hv with e1 e2 e3
    injection e1 with e1
    injection e1 with e1
    subst e1
    subst e3
    refine .inr ⟨g, c, cur, rfl, hg, hh, by omega, hcm, hcs, ?_⟩
    rw [← ht, List.take_take]
    congr 1
    omega
end Go.Proofs.YteehcjjhkphdnaaGreat
