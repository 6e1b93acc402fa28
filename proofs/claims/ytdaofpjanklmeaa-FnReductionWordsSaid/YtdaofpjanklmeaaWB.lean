/- Contracts: what a word is, of both sides. -/
import Derived.Test.YtdaofpjanklmeaaWA
import Derived.Test.YtdaofpjanklmeaaN5
import Derived.Test.YtdaofpjanklmeaaNA
import Derived.Test.YtdaofpjanklmeaaVC
namespace Go.Proofs.Ytdaofpjanklmeaa
open Go.RowKit Go

/-- Whether a sign and exponents make a word. -/
def isWd (s : Int) (L : List Int) : Bool := decide (s.natAbs = 1) && (decide (1 ≤ L.length) && (decide (L.length ≤ 40) && L.all isNum))
theorem isWd_yes {s : Int} {L : List Int} (h : isWd s L = true) : s.natAbs = 1 ∧ 1 ≤ L.length ∧ L.length ≤ 40 ∧ L.all isNum = true := by
  unfold isWd at h
  simp only [Bool.and_eq_true, decide_eq_true_eq] at h
  exact h
def sgn64 (s : Int) : Prop := -4000000000000000000 ≤ s ∧ s ≤ 4000000000000000000
/-- The exponents lie in a row of their own. -/
def OwnE (w : World) (B : Nat) (v : Value) (L : List Int) : Prop := L.length ≤ 1000000 ∧ w.ownsRow B 3 1 v L.length (cellsI L)

set_option maxRecDepth 100000 in
set_option maxHeartbeats 3200000 in
theorem isWord_any (s : Int) (v : Value) (B : Nat) (L : List Int) (w : World) (hs0 : sgn64 s) (ho : OwnE w B v L) :
    Calls Try.prog 119 #[.agg #[.int .i64 s, v]] w fun e w' => e = .returned (.bool (isWd s L)) ∧ Below w.heap.size w w' := by
  obtain ⟨hl, h⟩ := ho
  have hA := Lib.hid (fun w => abs_any s w hs0.1 hs0.2)
  clear hs0
  unfold isWd
  by_cases hs : s.natAbs = 1
  · rw [show (decide (s.natAbs = 1)) = true from decide_eq_true hs, Bool.true_and]
    rw [hs] at hA
    clear hs
    by_cases hn1 : 1 ≤ L.length
    · rw [show (decide (1 ≤ L.length)) = true from decide_eq_true hn1, Bool.true_and]
      obtain ⟨g, c, rfl, hb, hg, hc⟩ := own_some h (by omega)
      have hcell := row_cells (n := L.length) (own_alloc (o := .cells #[.int .i64 s, .slice (some ⟨g, 0, none⟩) L.length c] 70) h)
      have hG := Lib.hid (areNumbers_any g L.length c L _ rfl (by omega) (fun j hj => by rw [hcell j _ (cellsI_get L j hj), List.getD_eq_getElem?_getD, List.getElem?_eq_getElem hj]; rfl))
      clear hcell h
      have e1 : (1 : Int) ≤ (L.length : Int) := by omega
      by_cases hn2 : L.length ≤ 40
      · rw [show (decide (L.length ≤ 40)) = true from decide_eq_true hn2, Bool.true_and]
        have e2 : (L.length : Int) ≤ 40 := by omega
        generalize L.all isNum = R at *
        generalize L.length = n at *
        go_enter Try.func119, Try.ntmps119
        go_wp2_with (first
          | (go_at_call 77; (with_reducible refine (hA.out _).mono ?_); rintro e v ⟨rfl, rfl⟩)
          | (go_at_call 75; (with_reducible refine (hG.out).mono ?_); rintro e v ⟨rfl, rfl⟩))
        go_ret
        exact ⟨rfl, (by repeat (first | with_reducible exact Below.refl _ _ | with_reducible assumption | with_reducible apply Below.drew | with_reducible apply below_drewN | (with_reducible apply below_setp; (first | omega | (simp <;> omega))) | (with_reducible apply below_allocp; (first | omega | (simp <;> omega))) | (with_reducible refine below_viap (by assumption) ?_ ?_; (first | omega | (simp <;> omega)))))⟩
      · rw [show (decide (L.length ≤ 40)) = false from decide_eq_false hn2, Bool.false_and]
        have e2 : ¬ (L.length : Int) ≤ 40 := by omega
        generalize L.length = n at *
        go_enter Try.func119, Try.ntmps119
        go_wp2_with (go_at_call 77; (with_reducible refine (hA.out _).mono ?_); rintro e v ⟨rfl, rfl⟩)
        go_ret
        exact ⟨rfl, (by repeat (first | with_reducible exact Below.refl _ _ | with_reducible assumption | with_reducible apply Below.drew | with_reducible apply below_drewN | (with_reducible apply below_setp; (first | omega | (simp <;> omega))) | (with_reducible apply below_allocp; (first | omega | (simp <;> omega))) | (with_reducible refine below_viap (by assumption) ?_ ?_; (first | omega | (simp <;> omega)))))⟩
    · rw [show (decide (1 ≤ L.length)) = false from decide_eq_false hn1, Bool.false_and]
      obtain ⟨b, c, rfl⟩ := own_shape h
      have e1 : ¬ (1 : Int) ≤ (L.length : Int) := by omega
      clear h hn1
      generalize L.length = n at *
      go_enter Try.func119, Try.ntmps119
      go_wp2_with (go_at_call 77; (with_reducible refine (hA.out _).mono ?_); rintro e v ⟨rfl, rfl⟩)
      go_ret
      exact ⟨rfl, (by repeat (first | with_reducible exact Below.refl _ _ | with_reducible assumption | with_reducible apply Below.drew | with_reducible apply below_drewN | (with_reducible apply below_setp; (first | omega | (simp <;> omega))) | (with_reducible apply below_allocp; (first | omega | (simp <;> omega))) | (with_reducible refine below_viap (by assumption) ?_ ?_; (first | omega | (simp <;> omega)))))⟩
  · rw [show (decide (s.natAbs = 1)) = false from decide_eq_false hs, Bool.false_and]
    have e0 : (((s.natAbs : Nat) : Int) == 1) = false := beq_eq_false_iff_ne.2 (by omega)
    obtain ⟨b, c, rfl⟩ := own_shape h
    clear h hs
    generalize ((s.natAbs : Nat) : Int) = t at *
    go_enter Try.func119, Try.ntmps119
    go_wp2_with (go_at_call 77; (with_reducible refine (hA.out _).mono ?_); rintro e v ⟨rfl, rfl⟩)
    go_ret
    exact ⟨rfl, (by repeat (first | with_reducible exact Below.refl _ _ | with_reducible assumption | with_reducible apply Below.drew | with_reducible apply below_drewN | (with_reducible apply below_setp; (first | omega | (simp <;> omega))) | (with_reducible apply below_allocp; (first | omega | (simp <;> omega))) | (with_reducible refine below_viap (by assumption) ?_ ?_; (first | omega | (simp <;> omega)))))⟩

set_option maxRecDepth 100000 in
set_option maxHeartbeats 3200000 in
theorem moGood_any (s : Int) (v : Value) (B : Nat) (L : List Int) (w : World) (hs0 : sgn64 s) (ho : OwnE w B v L) :
    Calls Try.prog 124 #[.agg #[.int .i64 s, v]] w fun e w' => e = .returned (.bool (isWd s L)) ∧ Below w.heap.size w w' := by
  obtain ⟨hl, h⟩ := ho
  have hA := Lib.hid (fun w => l1Abs_any s w hs0.1 hs0.2)
  clear hs0
  obtain ⟨R, hR⟩ : ∃ R, isWd s L = R := ⟨_, rfl⟩
  rw [hR]
  have HR := Lib.hid hR
  clear hR
  obtain ⟨b, c, rfl⟩ := own_shape h
  have HE := Lib.hid (own_alloc (o := .cells #[.int .i64 s, .slice b L.length c] 70) h)
  clear h
  have hbel : Below w.heap.size w (w.alloc (.cells #[.int .i64 s, .slice b L.length c] 70)) := (by repeat (first | with_reducible exact Below.refl _ _ | with_reducible assumption | with_reducible apply Below.drew | with_reducible apply below_drewN | (with_reducible apply below_setp; (first | omega | (simp <;> omega))) | (with_reducible apply below_allocp; (first | omega | (simp <;> omega))) | (with_reducible refine below_viap (by assumption) ?_ ?_; (first | omega | (simp <;> omega)))))
  go_enter Try.func124, Try.ntmps124
  go_wp2
  go_loop [8] (fun vi => ∃ k : Nat, vi = .int .i64 k ∧ k ≤ L.length ∧ Hid ((L.take k).all isNum = true)) (fun vi => L.length - (intOf vi).toNat)
  case atStart => exact ⟨0, rfl, Nat.zero_le _, Lib.hid (by simp)⟩
  case round =>
    obtain ⟨k, rfl, hk, ht⟩ := hrel
    by_cases hlt : k < L.length
    · obtain ⟨g, rfl, lg, d1⟩ := own_elemI HE.out hlt
      have hN := Lib.hid (fun w => nuGood_any L[k] w)
      cases hb : isNum L[k] with
      | true =>
        rw [hb] at hN
        have hok := Lib.hid (show (L.take (k + 1)).all isNum = true by rw [List.take_succ_eq_append_getElem hlt, List.all_append, ht.out]; simp [hb])
        generalize L[k] = y at d1 hN
        clear hb ht
        go_wp2_with (go_at_call 204; (with_reducible refine (hN.out _).mono ?_); rintro e v ⟨rfl, rfl⟩)
        go_round
        case rel => exact ⟨k + 1, by go_num, hlt, hok⟩
        case measure => simp [intOf]; omega
      | false =>
        rw [hb] at hN
        have hno : isWd s L = false := by
          have : L.all isNum = false := by rw [List.all_eq_false]; exact ⟨L[k], List.getElem_mem hlt, by rw [hb]; simp⟩
          unfold isWd; rw [this]; simp
        have hx := Lib.hid (HR.out.symm.trans hno)
        generalize L[k] = y at d1 hN
        clear hb ht hno
        go_wp2_with (go_at_call 204; (with_reducible refine (hN.out _).mono ?_); rintro e v ⟨rfl, rfl⟩)
        go_ret
        exact ⟨ret_bool hx.out.symm, hbel⟩
    · have hkl : k = L.length := by omega
      subst hkl
      have hall : L.all isNum = true := by have := ht.out; rwa [List.take_length] at this
      have hx := HR.out
      unfold isWd at hx
      rw [hall, Bool.and_true] at hx
      have hI := Lib.hid (fun w => l1In_any L.length 1 40 w)
      clear ht hall
      have e1 : decide (1 ≤ L.length) = decide ((1 : Int) ≤ (L.length : Int)) := decide_eq_decide.2 (by omega)
      have e2 : decide (L.length ≤ 40) = decide ((L.length : Int) ≤ 40) := decide_eq_decide.2 (by omega)
      rw [e1, e2] at hx
      generalize (decide ((1 : Int) ≤ (L.length : Int)) && decide ((L.length : Int) ≤ 40)) = T at *
      by_cases hs : s.natAbs = 1
      · rw [show (decide (s.natAbs = 1)) = true from decide_eq_true hs, Bool.true_and] at hx
        rw [hs] at hA
        have HX := Lib.hid hx
        clear hs e1 e2 hx
        go_wp2_with (first
          | (go_at_call 203; (with_reducible refine (hA.out _).mono ?_); rintro e v ⟨rfl, rfl⟩)
          | (go_at_call 157; (with_reducible refine (hI.out _).mono ?_); rintro e v ⟨rfl, rfl⟩))
        go_ret
        exact ⟨ret_bool HX.out, hbel⟩
      · rw [show (decide (s.natAbs = 1)) = false from decide_eq_false hs, Bool.false_and] at hx
        have HX := Lib.hid hx
        clear hx
        have e0 : (((s.natAbs : Nat) : Int) == 1) = false := beq_eq_false_iff_ne.2 (by omega)
        clear hs e1 e2
        generalize ((s.natAbs : Nat) : Int) = t at *
        go_wp2_with (go_at_call 203; (with_reducible refine (hA.out _).mono ?_); rintro e v ⟨rfl, rfl⟩)
        go_ret
        exact ⟨ret_bool HX.out, hbel⟩
end Go.Proofs.Ytdaofpjanklmeaa
