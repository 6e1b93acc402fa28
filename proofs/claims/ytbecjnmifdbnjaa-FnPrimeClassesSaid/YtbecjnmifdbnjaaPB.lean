/- Contracts: PrimeForm of both sides; the form of a prime is one of a class. -/
import Derived.Test.YtbecjnmifdbnjaaPA
import Derived.Test.YtbecjnmifdbnjaaK7
namespace Go.Proofs.Ytbecjnmifdbnjaa
open Go.RowKit

/-- The form of a prime, if there is one. -/
def prF (d p : Int) : Option Fm := if isDisc d && shB p then (pf d p).filter primB else none
theorem prF_no1 {d p : Int} (h : isDisc d = false) : prF d p = none := by unfold prF; rw [h]; rfl
theorem prF_no2 {d p : Int} (h : shB p = false) : prF d p = none := by unfold prF; rw [h, Bool.and_false]; rfl
theorem prF_yes {d p : Int} (h : isDisc d = true) (h2 : shB p = true) : prF d p = (pf d p).filter primB := by unfold prF; rw [h, h2]; rfl
theorem pf_cf {d p : Int} {f : Fm} (D : Dsc d) (hp : 2 ≤ p ∧ p ≤ 10000) (h : pf d p = some f) (hb : primB f = true) : CF d f (red f) := by
  obtain ⟨x, hx, hm, rfl⟩ := pfF_some _ _ _ _ _ h (Int.le_refl _)
  obtain ⟨⟨n1, n2⟩, ⟨n3, n4⟩, ⟨n5, n6⟩⟩ := pf_nums D hp hx
  have hg := of_decide_eq_true hb
  have e := Int.emod_add_mul_ediv (x * x - d) (4 * p)
  rw [hm, Int.zero_add] at e
  have n7 : (x * x - d) / (4 * p) ≤ 12500250 := Int.ediv_le_of_le_mul (by omega) (by omega)
  generalize (x * x - d) / (4 * p) = c at *
  have h1 := D.lo; have h2 := D.hi
  have e2 : 4 * p * c = 4 * (p * c) := Int.mul_assoc _ _ _
  have c0 : 0 < c := by
    apply Int.not_le.1; intro hl
    have : p * c ≤ p * 0 := Int.mul_le_mul_of_nonneg_left hl (by omega)
    omega
  have hd : Def M0 ⟨p, x, c⟩ := by
    unfold M0
    exact ⟨by show 0 < p; omega, by show p ≤ _; omega, c0, by show c ≤ _; omega, by show x * x < 4 * (p * c); omega⟩
  have hdc : disc ⟨p, x, c⟩ = d := by
    unfold disc
    show x * x - 4 * p * c = d
    omega
  refine ⟨D, hd, rfl, mem_clsL_of h1 (red_def hd).a0 ((red_disc hd).trans hdc) (red_isRed hd) (red_prm hd hg), hdc, ⟨by show _ ≤ x * x; omega, by show x * x ≤ _; omega⟩, ⟨by show _ ≤ 4 * p; omega, by show 4 * p ≤ _; omega⟩, ⟨by show _ ≤ 4 * p * c; omega, by show 4 * p * c ≤ _; omega⟩⟩
theorem prF_cf {d p : Int} {f : Fm} (h : prF d p = some f) : CF d f (red f) := by
  unfold prF at h
  split at h
  · rename_i h1
    rw [Bool.and_eq_true] at h1
    rw [Option.filter_eq_some_iff] at h
    exact pf_cf (dsc_of h1.1) (shB_lo h1.2) h.1 h.2
  · simp at h

set_option maxHeartbeats 1600000 in
theorem implPF_any (d p : Int) (w : World) : Calls Try.prog 60 #[.int .i64 d, .int .i64 p] w fun e w' => e = .returned (.tuple #[.agg #[.int .i64 (pfV (prF d p)).a, .int .i64 (pfV (prF d p)).b, .int .i64 (pfV (prF d p)).c], .bool (prF d p).isSome]) ∧ Below w.heap.size w w' := by
  cases hc : isDisc d with
  | false =>
    rw [prF_no1 hc]
    go_enter Try.func60, Try.ntmps60
    go_wp2_with (go_at_call 82; (with_reducible refine (negDisc_eq d false _ hc).mono ?_); rintro e v ⟨rfl, rfl⟩)
    exact bodyPost_ret (v := .tuple #[.agg #[.int .i64 0, .int .i64 0, .int .i64 0], .bool false]) (by simp [results, Try.results60, go_sem, *]) rfl ⟨rfl, (by repeat (first | with_reducible exact Below.refl _ _ | with_reducible assumption | with_reducible apply Below.drew | with_reducible apply below_drewN | (with_reducible apply below_setp; (first | omega | (simp <;> omega))) | (with_reducible apply below_allocp; (first | omega | (simp <;> omega))) | (with_reducible refine below_viap (by assumption) ?_ ?_; (first | omega | (simp <;> omega)))))⟩
  | true =>
    cases hs : shB p with
    | false =>
      rw [prF_no2 hs]
      have hP := Lib.hid (fun w => isShownPrime_any p w)
      rw [hs] at hP
      go_enter Try.func60, Try.ntmps60
      go_wp2_with (first | (go_at_call 82; (with_reducible refine (negDisc_eq d true _ hc).mono ?_); rintro e v ⟨rfl, rfl⟩) | (go_at_call 147; (with_reducible refine (hP.out _).mono ?_); rintro e v ⟨rfl, rfl⟩))
      exact bodyPost_ret (v := .tuple #[.agg #[.int .i64 0, .int .i64 0, .int .i64 0], .bool false]) (by simp [results, Try.results60, go_sem, *]) rfl ⟨rfl, (by repeat (first | with_reducible exact Below.refl _ _ | with_reducible assumption | with_reducible apply Below.drew | with_reducible apply below_drewN | (with_reducible apply below_setp; (first | omega | (simp <;> omega))) | (with_reducible apply below_allocp; (first | omega | (simp <;> omega))) | (with_reducible refine below_viap (by assumption) ?_ ?_; (first | omega | (simp <;> omega)))))⟩
    | true =>
      rw [prF_yes hc hs]
      have hP := Lib.hid (fun w => isShownPrime_any p w)
      rw [hs] at hP
      have hF := Lib.hid (fun w => primeForm_any d p w (dsc_of hc) (shB_lo hs))
      clear hs
      generalize pf d p = R at *
      cases R with
      | none =>
        go_enter Try.func60, Try.ntmps60
        go_wp2_with (first | (go_at_call 82; (with_reducible refine (negDisc_eq d true _ hc).mono ?_); rintro e v ⟨rfl, rfl⟩) | (go_at_call 147; (with_reducible refine (hP.out _).mono ?_); rintro e v ⟨rfl, rfl⟩) | (go_at_call 148; refine (hF.out _).mono ?_; simp only [pfV, pfO, Option.getD]; rintro e v1 ⟨rfl, hB1⟩; have hZ1 := hB1.size; (try simp at hZ1); have hA1 : Blk v1 w.heap.size 35 #[.int .i64 0, .int .i64 0, .int .i64 0] := Blk.call (by (repeat (first | with_reducible assumption | (with_reducible apply Blk.new_at; (first | rfl | (simp; done))) | with_reducible apply Blk.store3 | with_reducible apply Blk.store4 | (with_reducible apply Blk.farp; (first | omega | (simp <;> omega))) | with_reducible apply Blk.allocp | with_reducible apply Blk.drew | with_reducible apply Blk.drewN))) hB1; have cA1 := hA1.cell; have fA1 := hA1.frozen; have lA1 := hA1.lt; have mA1 := Nat.ne_of_gt lA1; have nA1 := Nat.ne_of_lt lA1))
        exact bodyPost_ret (v := .tuple #[.agg #[.int .i64 0, .int .i64 0, .int .i64 0], .bool false]) (by simp [results, Try.results60, go_sem, *]) rfl ⟨rfl, (by repeat (first | with_reducible exact Below.refl _ _ | with_reducible assumption | with_reducible apply Below.drew | with_reducible apply below_drewN | (with_reducible apply below_setp; (first | omega | (simp <;> omega))) | (with_reducible apply below_allocp; (first | omega | (simp <;> omega))) | (with_reducible refine below_viap (by assumption) ?_ ?_; (first | omega | (simp <;> omega)))))⟩
      | some f =>
        cases hb : primB f with
        | true =>
          have hv : (some f).filter primB = some f := by simp [Option.filter, hb]
          rw [hv]
          have hF2 := Lib.hid (fun w => (show Calls Try.prog 148 #[.int .i64 d, .int .i64 p] w (fun e w' => e = .returned (.tuple #[.agg #[.int .i64 f.a, .int .i64 f.b, .int .i64 f.c], .bool true]) ∧ Below w.heap.size w w') from by rw [← hb]; exact hF.out w))
          clear hF hb hv
          go_enter Try.func60, Try.ntmps60
          go_wp2_with (first | (go_at_call 82; (with_reducible refine (negDisc_eq d true _ hc).mono ?_); rintro e v ⟨rfl, rfl⟩) | (go_at_call 147; (with_reducible refine (hP.out _).mono ?_); rintro e v ⟨rfl, rfl⟩) | (go_at_call 148; (with_reducible refine (hF2.out _).mono ?_); rintro e v1 ⟨rfl, hB1⟩; have hZ1 := hB1.size; (try simp at hZ1); (try have zl1 : w.heap.size < v1.heap.size := by omega); (try have ze1 : w.heap.size ≤ v1.heap.size := by omega); (try have zn1 : ¬ w.heap.size = v1.heap.size := by omega); (try have zm1 : ¬ v1.heap.size = w.heap.size := by omega); have hA1 : Blk v1 (w.heap.size) 35 #[.int .i64 0, .int .i64 0, .int .i64 0] := Blk.call (by (repeat (first | with_reducible assumption | (with_reducible apply Blk.new_at; (first | rfl | (simp; done))) | with_reducible apply Blk.store3 | with_reducible apply Blk.store4 | (with_reducible apply Blk.farp; (first | omega | (simp <;> omega))) | with_reducible apply Blk.allocp | with_reducible apply Blk.drew | with_reducible apply Blk.drewN))) hB1; have cA1 := hA1.cell; have fA1 := hA1.frozen; have lA1 := hA1.lt; have mA1 := Nat.ne_of_gt lA1; have nA1 := Nat.ne_of_lt lA1))
          exact bodyPost_ret (v := .tuple #[.agg #[.int .i64 f.a, .int .i64 f.b, .int .i64 f.c], .bool true]) (by simp [results, Try.results60, go_sem, *]) rfl ⟨rfl, (by repeat (first | with_reducible exact Below.refl _ _ | with_reducible assumption | with_reducible apply Below.drew | with_reducible apply below_drewN | (with_reducible apply below_setp; (first | omega | (simp <;> omega))) | (with_reducible apply below_allocp; (first | omega | (simp <;> omega))) | (with_reducible refine below_viap (by assumption) ?_ ?_; (first | omega | (simp <;> omega)))))⟩
        | false =>
          have hv : (some f).filter primB = none := by simp [Option.filter, hb]
          rw [hv]
          have hF2 := Lib.hid (fun w => (show Calls Try.prog 148 #[.int .i64 d, .int .i64 p] w (fun e w' => e = .returned (.tuple #[.agg #[.int .i64 f.a, .int .i64 f.b, .int .i64 f.c], .bool false]) ∧ Below w.heap.size w w') from by rw [← hb]; exact hF.out w))
          clear hF hb hv
          go_enter Try.func60, Try.ntmps60
          go_wp2_with (first | (go_at_call 82; (with_reducible refine (negDisc_eq d true _ hc).mono ?_); rintro e v ⟨rfl, rfl⟩) | (go_at_call 147; (with_reducible refine (hP.out _).mono ?_); rintro e v ⟨rfl, rfl⟩) | (go_at_call 148; (with_reducible refine (hF2.out _).mono ?_); rintro e v1 ⟨rfl, hB1⟩; have hZ1 := hB1.size; (try simp at hZ1); (try have zl1 : w.heap.size < v1.heap.size := by omega); (try have ze1 : w.heap.size ≤ v1.heap.size := by omega); (try have zn1 : ¬ w.heap.size = v1.heap.size := by omega); (try have zm1 : ¬ v1.heap.size = w.heap.size := by omega); have hA1 : Blk v1 (w.heap.size) 35 #[.int .i64 0, .int .i64 0, .int .i64 0] := Blk.call (by (repeat (first | with_reducible assumption | (with_reducible apply Blk.new_at; (first | rfl | (simp; done))) | with_reducible apply Blk.store3 | with_reducible apply Blk.store4 | (with_reducible apply Blk.farp; (first | omega | (simp <;> omega))) | with_reducible apply Blk.allocp | with_reducible apply Blk.drew | with_reducible apply Blk.drewN))) hB1; have cA1 := hA1.cell; have fA1 := hA1.frozen; have lA1 := hA1.lt; have mA1 := Nat.ne_of_gt lA1; have nA1 := Nat.ne_of_lt lA1))
          exact bodyPost_ret (v := .tuple #[.agg #[.int .i64 0, .int .i64 0, .int .i64 0], .bool false]) (by simp [results, Try.results60, go_sem, *]) rfl ⟨rfl, (by repeat (first | with_reducible exact Below.refl _ _ | with_reducible assumption | with_reducible apply Below.drew | with_reducible apply below_drewN | (with_reducible apply below_setp; (first | omega | (simp <;> omega))) | (with_reducible apply below_allocp; (first | omega | (simp <;> omega))) | (with_reducible refine below_viap (by assumption) ?_ ?_; (first | omega | (simp <;> omega)))))⟩

end Go.Proofs.Ytbecjnmifdbnjaa
