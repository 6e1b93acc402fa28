/- Contracts: the split of an ambiguous form. -/
import Derived.Test.YtifkmjmhhklkjaaC9
namespace Go.Proofs.Ytifkmjmhhklkjaa
open Go.RowKit

def isAmb (a b c : Int) : Bool := decide (b = 0) || (decide (a = b) || decide (a = c))
def splR (a b _c : Int) : Int := if b = 0 then a else if a = b then a else 2 * a - b
def splS (a b c : Int) : Int := if b = 0 then 4 * c else if a = b then 4 * c - a else 2 * a + b

def Near (x : Int) : Prop := -1000000000000000000 ≤ x ∧ x ≤ 1000000000000000000
theorem def_near {f : Fm} (h : Def M0 f) : Near f.a ∧ Near f.b ∧ Near f.c := by
  have hB := h.bB
  have h1 := h.a0; have h2 := h.aM; have h3 := h.c0; have h4 := h.cM
  unfold M0 at hB h2 h4
  exact ⟨⟨by omega, by omega⟩, ⟨by omega, by omega⟩, ⟨by omega, by omega⟩⟩

set_option maxHeartbeats 800000 in
theorem isAmbiguous_any (a b c : Int) (w : World) :
    Calls Try.prog 61 #[.agg #[.int .i64 a, .int .i64 b, .int .i64 c]] w fun e w' => e = .returned (.bool (isAmb a b c)) ∧ Below w.heap.size w w' := by
  by_cases h1 : b = 0
  · subst h1
    have e0 : isAmb a 0 c = true := by simp [isAmb]
    rw [e0]; clear e0
    go_enter Try.func61, Try.ntmps61
    go_wp2
    go_ret
    exact ⟨rfl, (by repeat (first | with_reducible exact Below.refl _ _ | with_reducible assumption | with_reducible apply Below.drew | with_reducible apply below_drewN | (with_reducible apply below_setp; (first | omega | (simp <;> omega))) | (with_reducible apply below_allocp; (first | omega | (simp <;> omega))) | (with_reducible refine below_viap (by assumption) ?_ ?_; (first | omega | (simp <;> omega)))))⟩
  · have e1 : (b == 0) = false := by simp [h1]
    by_cases h2 : a = b
    · subst h2
      have e0 : isAmb a a c = true := by simp [isAmb]
      rw [e0]; clear e0
      clear h1
      go_enter Try.func61, Try.ntmps61
      go_wp2
      go_ret
      exact ⟨rfl, (by repeat (first | with_reducible exact Below.refl _ _ | with_reducible assumption | with_reducible apply Below.drew | with_reducible apply below_drewN | (with_reducible apply below_setp; (first | omega | (simp <;> omega))) | (with_reducible apply below_allocp; (first | omega | (simp <;> omega))) | (with_reducible refine below_viap (by assumption) ?_ ?_; (first | omega | (simp <;> omega)))))⟩
    · have e2 : (a == b) = false := by simp [h2]
      by_cases h3 : a = c
      · subst h3
        have e0 : isAmb a b a = true := by simp [isAmb]
        rw [e0]; clear e0
        clear h1 h2
        go_enter Try.func61, Try.ntmps61
        go_wp2
        go_ret
        exact ⟨rfl, (by repeat (first | with_reducible exact Below.refl _ _ | with_reducible assumption | with_reducible apply Below.drew | with_reducible apply below_drewN | (with_reducible apply below_setp; (first | omega | (simp <;> omega))) | (with_reducible apply below_allocp; (first | omega | (simp <;> omega))) | (with_reducible refine below_viap (by assumption) ?_ ?_; (first | omega | (simp <;> omega)))))⟩
      · have e3 : (a == c) = false := by simp [h3]
        have e0 : isAmb a b c = false := by simp [isAmb, h1, h2, h3]
        rw [e0]; clear e0
        clear h1 h2 h3
        go_enter Try.func61, Try.ntmps61
        go_wp2
        go_ret
        exact ⟨rfl, (by repeat (first | with_reducible exact Below.refl _ _ | with_reducible assumption | with_reducible apply Below.drew | with_reducible apply below_drewN | (with_reducible apply below_setp; (first | omega | (simp <;> omega))) | (with_reducible apply below_allocp; (first | omega | (simp <;> omega))) | (with_reducible refine below_viap (by assumption) ?_ ?_; (first | omega | (simp <;> omega)))))⟩

set_option maxHeartbeats 800000 in
theorem split_any (a b c : Int) (w : World) (ha : Near a) (hb : Near b) (hc : Near c) :
    Calls Try.prog 62 #[.agg #[.int .i64 a, .int .i64 b, .int .i64 c]] w fun e w' => e = .returned (.agg #[.int .i64 (splR a b c), .int .i64 (splS a b c)]) ∧ Below w.heap.size w w' := by
  obtain ⟨a1, a2⟩ := ha; obtain ⟨b1, b2⟩ := hb; obtain ⟨c1, c2⟩ := hc
  by_cases h1 : b = 0
  · subst h1
    have e0 : splR a 0 c = a := by simp [splR]
    have e9 : splS a 0 c = 4 * c := by simp [splS]
    rw [e0, e9]; clear e0 e9
    go_enter Try.func62, Try.ntmps62
    go_wp2
    exact bodyPost_ret (v := .agg #[.int .i64 (a), .int .i64 (4 * c)]) (by simp [results, Try.results62, go_sem, *]) rfl ⟨rfl, (by repeat (first | with_reducible exact Below.refl _ _ | with_reducible assumption | with_reducible apply Below.drew | with_reducible apply below_drewN | (with_reducible apply below_setp; (first | omega | (simp <;> omega))) | (with_reducible apply below_allocp; (first | omega | (simp <;> omega))) | (with_reducible refine below_viap (by assumption) ?_ ?_; (first | omega | (simp <;> omega)))))⟩
  · have e1 : (b == 0) = false := by simp [h1]
    by_cases h2 : a = b
    · subst h2
      have e0 : splR a a c = a := by simp [splR, h1]
      have e9 : splS a a c = 4 * c - a := by simp [splS, h1]
      rw [e0, e9]; clear e0 e9
      clear h1
      go_enter Try.func62, Try.ntmps62
      go_wp2
      exact bodyPost_ret (v := .agg #[.int .i64 (a), .int .i64 (4 * c - a)]) (by simp [results, Try.results62, go_sem, *]) rfl ⟨rfl, (by repeat (first | with_reducible exact Below.refl _ _ | with_reducible assumption | with_reducible apply Below.drew | with_reducible apply below_drewN | (with_reducible apply below_setp; (first | omega | (simp <;> omega))) | (with_reducible apply below_allocp; (first | omega | (simp <;> omega))) | (with_reducible refine below_viap (by assumption) ?_ ?_; (first | omega | (simp <;> omega)))))⟩
    · have e2 : (a == b) = false := by simp [h2]
      by_cases h3 : a = c
      · subst h3
        have e0 : splR a b a = 2 * a - b := by simp [splR, h1, h2]
        have e9 : splS a b a = 2 * a + b := by simp [splS, h1, h2]
        rw [e0, e9]; clear e0 e9
        clear h1 h2
        go_enter Try.func62, Try.ntmps62
        go_wp2
        exact bodyPost_ret (v := .agg #[.int .i64 (2 * a - b), .int .i64 (2 * a + b)]) (by simp [results, Try.results62, go_sem, *]) rfl ⟨rfl, (by repeat (first | with_reducible exact Below.refl _ _ | with_reducible assumption | with_reducible apply Below.drew | with_reducible apply below_drewN | (with_reducible apply below_setp; (first | omega | (simp <;> omega))) | (with_reducible apply below_allocp; (first | omega | (simp <;> omega))) | (with_reducible refine below_viap (by assumption) ?_ ?_; (first | omega | (simp <;> omega)))))⟩
      · have e3 : (a == c) = false := by simp [h3]
        have e0 : splR a b c = 2 * a - b := by simp [splR, h1, h2]
        have e9 : splS a b c = 2 * a + b := by simp [splS, h1, h2]
        rw [e0, e9]; clear e0 e9
        clear h1 h2 h3
        go_enter Try.func62, Try.ntmps62
        go_wp2
        exact bodyPost_ret (v := .agg #[.int .i64 (2 * a - b), .int .i64 (2 * a + b)]) (by simp [results, Try.results62, go_sem, *]) rfl ⟨rfl, (by repeat (first | with_reducible exact Below.refl _ _ | with_reducible assumption | with_reducible apply Below.drew | with_reducible apply below_drewN | (with_reducible apply below_setp; (first | omega | (simp <;> omega))) | (with_reducible apply below_allocp; (first | omega | (simp <;> omega))) | (with_reducible refine below_viap (by assumption) ?_ ?_; (first | omega | (simp <;> omega)))))⟩

set_option maxHeartbeats 800000 in
theorem amSplit_any (a b c : Int) (w : World) (ha : Near a) (hb : Near b) (hc : Near c) :
    Calls Try.prog 59 #[.agg #[.int .i64 a, .int .i64 b, .int .i64 c]] w fun e w' =>
      e = .returned (.tuple #[.agg #[.int .i64 (if isAmb a b c = true then splR a b c else 0), .int .i64 (if isAmb a b c = true then splS a b c else 0)], .bool (isAmb a b c)]) ∧ Below w.heap.size w w' := by
  obtain ⟨a1, a2⟩ := ha; obtain ⟨b1, b2⟩ := hb; obtain ⟨c1, c2⟩ := hc
  by_cases h1 : b = 0
  · subst h1
    have e0 : splR a 0 c = a := by simp [splR]
    have e9 : splS a 0 c = 4 * c := by simp [splS]
    have e8 : isAmb a 0 c = true := by simp [isAmb]
    rw [e0, e9, e8]; simp only [if_true]; clear e0 e9 e8
    go_enter Try.func59, Try.ntmps59
    go_wp2
    exact bodyPost_ret (v := .tuple #[.agg #[.int .i64 (a), .int .i64 (4 * c)], .bool true]) (by simp [results, Try.results59, go_sem, *]) rfl ⟨rfl, (by repeat (first | with_reducible exact Below.refl _ _ | with_reducible assumption | with_reducible apply Below.drew | with_reducible apply below_drewN | (with_reducible apply below_setp; (first | omega | (simp <;> omega))) | (with_reducible apply below_allocp; (first | omega | (simp <;> omega))) | (with_reducible refine below_viap (by assumption) ?_ ?_; (first | omega | (simp <;> omega)))))⟩
  · have e1 : (b == 0) = false := by simp [h1]
    by_cases h2 : a = b
    · subst h2
      have e0 : splR a a c = a := by simp [splR, h1]
      have e9 : splS a a c = 4 * c - a := by simp [splS, h1]
      have e8 : isAmb a a c = true := by simp [isAmb]
      rw [e0, e9, e8]; simp only [if_true]; clear e0 e9 e8
      clear h1
      go_enter Try.func59, Try.ntmps59
      go_wp2
      exact bodyPost_ret (v := .tuple #[.agg #[.int .i64 (a), .int .i64 (4 * c - a)], .bool true]) (by simp [results, Try.results59, go_sem, *]) rfl ⟨rfl, (by repeat (first | with_reducible exact Below.refl _ _ | with_reducible assumption | with_reducible apply Below.drew | with_reducible apply below_drewN | (with_reducible apply below_setp; (first | omega | (simp <;> omega))) | (with_reducible apply below_allocp; (first | omega | (simp <;> omega))) | (with_reducible refine below_viap (by assumption) ?_ ?_; (first | omega | (simp <;> omega)))))⟩
    · have e2 : (a == b) = false := by simp [h2]
      by_cases h3 : a = c
      · subst h3
        have e0 : splR a b a = 2 * a - b := by simp [splR, h1, h2]
        have e9 : splS a b a = 2 * a + b := by simp [splS, h1, h2]
        have e8 : isAmb a b a = true := by simp [isAmb]
        rw [e0, e9, e8]; simp only [if_true]; clear e0 e9 e8
        clear h1 h2
        go_enter Try.func59, Try.ntmps59
        go_wp2
        exact bodyPost_ret (v := .tuple #[.agg #[.int .i64 (2 * a - b), .int .i64 (2 * a + b)], .bool true]) (by simp [results, Try.results59, go_sem, *]) rfl ⟨rfl, (by repeat (first | with_reducible exact Below.refl _ _ | with_reducible assumption | with_reducible apply Below.drew | with_reducible apply below_drewN | (with_reducible apply below_setp; (first | omega | (simp <;> omega))) | (with_reducible apply below_allocp; (first | omega | (simp <;> omega))) | (with_reducible refine below_viap (by assumption) ?_ ?_; (first | omega | (simp <;> omega)))))⟩
      · have e3 : (a == c) = false := by simp [h3]
        have e8 : isAmb a b c = false := by simp [isAmb, h1, h2, h3]
        rw [e8]; simp only [Bool.false_eq_true, if_false]; clear e8
        clear h1 h2 h3
        go_enter Try.func59, Try.ntmps59
        go_wp2
        exact bodyPost_ret (v := .tuple #[.agg #[.int .i64 0, .int .i64 0], .bool false]) (by simp [results, Try.results59, go_sem, *]) rfl ⟨rfl, (by repeat (first | with_reducible exact Below.refl _ _ | with_reducible assumption | with_reducible apply Below.drew | with_reducible apply below_drewN | (with_reducible apply below_setp; (first | omega | (simp <;> omega))) | (with_reducible apply below_allocp; (first | omega | (simp <;> omega))) | (with_reducible refine below_viap (by assumption) ?_ ?_; (first | omega | (simp <;> omega)))))⟩

set_option maxHeartbeats 400000 in
theorem toForm_any (a b c : Int) (w : World) :
    Calls Try.prog 19 #[.agg #[.int .i64 a, .int .i64 b, .int .i64 c]] w fun e w' => e = .returned (.agg #[.int .i64 a, .int .i64 b, .int .i64 c]) ∧ Below w.heap.size w w' := by
  go_enter Try.func19, Try.ntmps19
  go_wp2
  exact bodyPost_ret (v := .agg #[.int .i64 a, .int .i64 b, .int .i64 c]) (by simp [results, Try.results19, go_sem, *]) rfl ⟨rfl, (by repeat (first | with_reducible exact Below.refl _ _ | with_reducible assumption | with_reducible apply Below.drew | with_reducible apply below_drewN | (with_reducible apply below_setp; (first | omega | (simp <;> omega))) | (with_reducible apply below_allocp; (first | omega | (simp <;> omega))) | (with_reducible refine below_viap (by assumption) ?_ ?_; (first | omega | (simp <;> omega)))))⟩

set_option maxHeartbeats 400000 in
theorem eqSplit_same (a b : Int) (w : World) :
    Calls Try.prog 21 #[.agg #[.int .i64 a, .int .i64 b], .agg #[.int .i64 a, .int .i64 b]] w fun e w' => e = .returned (.bool true) ∧ Below w.heap.size w w' := by
  go_enter Try.func21, Try.ntmps21
  go_wp2
  go_ret
  exact ⟨rfl, (by repeat (first | with_reducible exact Below.refl _ _ | with_reducible assumption | with_reducible apply Below.drew | with_reducible apply below_drewN | (with_reducible apply below_setp; (first | omega | (simp <;> omega))) | (with_reducible apply below_allocp; (first | omega | (simp <;> omega))) | (with_reducible refine below_viap (by assumption) ?_ ?_; (first | omega | (simp <;> omega)))))⟩
end Go.Proofs.Ytifkmjmhhklkjaa
