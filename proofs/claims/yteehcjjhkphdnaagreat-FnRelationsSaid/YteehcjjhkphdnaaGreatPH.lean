/- Contracts of RelationClass, of both sides. -/
import Derived.Test.YteehcjjhkphdnaaGreatPG
import Derived.Test.YteehcjjhkphdnaaGreatPD
namespace Go.Proofs.YteehcjjhkphdnaaGreat
open Go.RowKit

/-- Whether all exponents are in range. -/
def inR (lo hi : Int) (E : List Int) : Bool := E.all fun e => decide (lo ≤ e) && decide (e ≤ hi)
theorem inR_no {lo hi : Int} {E : List Int} {k : Nat} (h : k < E.length) (hb : (decide (lo ≤ E[k]) && decide (E[k] ≤ hi)) = false) : inR lo hi E = false := by
  unfold inR
  rw [List.all_eq_false]
  exact ⟨E[k], List.getElem_mem h, by rw [hb]; simp⟩
theorem inR_yes {lo hi : Int} {E : List Int} (h : ∀ j (h : j < E.length), (decide (lo ≤ E[j]) && decide (E[j] ≤ hi)) = true) : inR lo hi E = true := by
  unfold inR
  rw [List.all_eq_true]
  intro e he
  obtain ⟨j, hj, rfl⟩ := List.getElem_of_mem he
  exact h j hj
theorem inR_mem {lo hi : Int} {E : List Int} (h : inR lo hi E = true) : ∀ e ∈ E, lo ≤ e ∧ e ≤ hi := by
  unfold inR at h
  rw [List.all_eq_true] at h
  intro e he
  have := h e he
  simpa using this
def ArSt (lo hi : Int) (E : List Int) (vi : Value) : Prop := ∃ k : Nat, vi = .int .i64 k ∧ k ≤ E.length ∧ Hid (∀ j (h : j < E.length), j < k → (decide (lo ≤ E[j]) && decide (E[j] ≤ hi)) = true)

set_option maxRecDepth 100000 in
set_option maxHeartbeats 1600000 in
theorem l1All_any (v : Value) (B : Nat) (E : List Int) (lo hi : Int) (w : World) (hl : E.length ≤ 10000000) (h : w.ownsRow B 3 1 v E.length (cellsI E)) :
    Calls Tryz.prog 90 #[v, .int .i64 lo, .int .i64 hi] w fun e w' => e = .returned (.bool (inR lo hi E)) ∧ w = w' := by
  obtain ⟨be, ce, rfl⟩ := own_shape h
  have HE := Lib.hid h
  obtain ⟨R, hR⟩ : ∃ R, inR lo hi E = R := ⟨_, rfl⟩
  rw [hR]
  have HR := Lib.hid hR
  clear h hR
  go_enter Tryz.func90, Tryz.ntmps90
  go_wp2
  go_loop [11] (fun vi => ArSt lo hi E vi) (fun vi => E.length - (intOf vi).toNat)
  case atStart => exact ⟨0, rfl, Nat.zero_le _, Lib.hid (fun _ _ h => absurd h (Nat.not_lt_zero _))⟩
  case round =>
    obtain ⟨k, rfl, hk, hs⟩ := hrel
    by_cases hlt : k < E.length
    · obtain ⟨ge, rfl, le, c1⟩ := own_elemI HE.out hlt
      cases hb : (decide (lo ≤ E[k]) && decide (E[k] ≤ hi)) with
      | false =>
        have hx := Lib.hid (HR.out.symm.trans (inR_no hlt hb))
        have hL := Lib.hid (fun w => l1In_any E[k] lo hi w)
        rw [hb] at hL
        generalize E[k] = y at c1 hL
        clear hb hs
        go_wp2_with (go_at_call 89; (with_reducible refine (hL.out _).mono ?_); rintro e v ⟨rfl, rfl⟩)
        go_ret
        exact ⟨ret_bool hx.out.symm, rfl⟩
      | true =>
        have hs2 : Hid (∀ j (h : j < E.length), j < k + 1 → (decide (lo ≤ E[j]) && decide (E[j] ≤ hi)) = true) := Lib.hid (fun j h hj => if e : j = k then (by subst e; exact hb) else hs.out j h (by omega))
        have hL := Lib.hid (fun w => l1In_any E[k] lo hi w)
        rw [hb] at hL
        generalize E[k] = y at c1 hL
        clear hb hs
        go_wp2_with (go_at_call 89; (with_reducible refine (hL.out _).mono ?_); rintro e v ⟨rfl, rfl⟩)
        go_round
        case rel => exact ⟨k + 1, by go_num, hlt, hs2⟩
        case measure => simp [intOf]; omega
    · have hx := Lib.hid (HR.out.symm.trans (inR_yes fun j h => hs.out j h (by omega)))
      clear hs
      go_wp2
      go_ret
      exact ⟨ret_bool hx.out.symm, rfl⟩
set_option maxHeartbeats 400000 in
theorem abs_big (a : Int) (w : World) (h : ¬ (-1000 ≤ a ∧ a ≤ 1000)) (h1 : -9223372036854775808 ≤ a) (h2 : a ≤ 9223372036854775807) :
    Calls Tryz.prog 87 #[.int .i64 a] w fun e w' => (∃ t : Int, e = .returned (.int .i64 t) ∧ 1000 < t) ∧ w = w' := by
  by_cases hs : -9223372036854775807 ≤ a
  · by_cases hp : 0 ≤ a
    · go_enter Tryz.func87, Tryz.ntmps87
      go_wp2
      go_ret
      refine ⟨⟨a, ret_int (by omega), by omega⟩, rfl⟩
    · go_enter Tryz.func87, Tryz.ntmps87
      go_wp2
      go_ret
      refine ⟨⟨-a, ret_int (by omega), by omega⟩, rfl⟩
  · obtain rfl : a = -9223372036854775808 := by omega
    clear h h1 h2 hs
    go_enter Tryz.func87, Tryz.ntmps87
    go_wp2
    go_ret
    exact ⟨⟨9223372036854775807, rfl, by decide⟩, rfl⟩
/-- The class of a relation. -/
noncomputable def rcO (d : Int) (Z E : List Int) : Option Fm := (pfsO d Z 6).bind fun L => if E.length = Z.length ∧ inR (-1000) 1000 E = true then some (relK d (L.map red) E L.length) else none
theorem rcO_none {d : Int} {Z E : List Int} (h : pfsO d Z 6 = none) : rcO d Z E = none := by unfold rcO; rw [h]; rfl
theorem rcO_bad {d : Int} {Z E : List Int} (h : ¬ (E.length = Z.length ∧ inR (-1000) 1000 E = true)) : rcO d Z E = none := by
  unfold rcO
  cases pfsO d Z 6 with
  | none => rfl
  | some L => rw [Option.bind_some, if_neg h]
theorem rcO_yes {d : Int} {Z E : List Int} {L : List Fm} (h : pfsO d Z 6 = some L) (h1 : E.length = Z.length) (h2 : inR (-1000) 1000 E = true) : rcO d Z E = some (relK d (L.map red) E L.length) := by
  unfold rcO
  rw [h, Option.bind_some, if_pos ⟨h1, h2⟩]

set_option maxRecDepth 100000 in
set_option maxHeartbeats 3200000 in
theorem implRc_any (d : Int) (Z E : List Int) (v ve : Value) (B B2 : Nat) (w : World) (hlz : Z.length ≤ 10000000) (hle : E.length ≤ 10000000) (hEw : ∀ e ∈ E, -9223372036854775808 ≤ e ∧ e ≤ 9223372036854775807)
    (ho : w.ownsRow B 3 1 v Z.length (cellsI Z)) (hoE : w.ownsRow B2 3 1 ve E.length (cellsI E)) :
    Calls Tryz.prog 21 #[.int .i64 d, v, ve] w fun e w' => e = .returned (.tuple #[.agg #[.int .i64 (pfV (rcO d Z E)).a, .int .i64 (pfV (rcO d Z E)).b, .int .i64 (pfV (rcO d Z E)).c], .bool (rcO d Z E).isSome]) ∧ Below w.heap.size w w' := by
  have hP0 := Lib.hid (fun w ho => primeForms_any d 6 Z v B w hlz (by omega) ho)
  obtain ⟨bz, cz, rfl⟩ := own_shape ho
  obtain ⟨be, ce, rfl⟩ := own_shape hoE
  have HO := Lib.hid ho
  have HE := Lib.hid hoE
  clear ho hoE
  cases hz : pfsO d Z 6 with
  | none =>
    rw [rcO_none hz]
    have hP := Lib.hid (fun w ho => (show Calls Tryz.prog 86 #[.int .i64 d, .slice bz Z.length cz, .int .i64 6] w (fun e w' => e = .returned (.tuple #[.slice none 0 0, .bool false]) ∧ Below w.heap.size w w') from (hP0.out w ho).mono (fun e w' h => by
      rcases h with ⟨_, a, b⟩ | ⟨L, v, a, _⟩
      · exact ⟨a, b⟩
      · rw [hz] at a; cases a)))
    clear hP0 hz
    go_enter Tryz.func21, Tryz.ntmps21
    go_wp2_with (go_at_call 86; (with_reducible refine (hP.out _ (own_alloc HO.out)).mono ?_); rintro e v1 ⟨rfl, hB1⟩; have hZ1 := hB1.size; (try simp at hZ1); (try have zl1 : w.heap.size < v1.heap.size := by omega); (try have ze1 : w.heap.size ≤ v1.heap.size := by omega); (try have zn1 : ¬ w.heap.size = v1.heap.size := by omega); (try have zm1 : ¬ v1.heap.size = w.heap.size := by omega); have hR1 : Blk v1 (w.heap.size) 36 #[.int .i64 0, .int .i64 0, .int .i64 0] := Blk.call (by (repeat (first | with_reducible assumption | (with_reducible apply Blk.new_at; (first | rfl | (simp; done))) | with_reducible apply Blk.store3 | with_reducible apply Blk.store4 | (with_reducible apply Blk.farp; (first | omega | (simp <;> omega))) | with_reducible apply Blk.allocp | with_reducible apply Blk.drew | with_reducible apply Blk.drewN))) hB1; have cR1 := hR1.cell; have fR1 := hR1.frozen; have lR1 := hR1.lt; have mR1 := Nat.ne_of_gt lR1; have nR1 := Nat.ne_of_lt lR1)
    exact bodyPost_ret (v := .tuple #[.agg #[.int .i64 0, .int .i64 0, .int .i64 0], .bool false]) (by simp [results, Tryz.results21, go_sem, *]) rfl ⟨rfl, (by repeat (first | with_reducible exact Below.refl _ _ | with_reducible assumption | with_reducible apply Below.drew | with_reducible apply below_drewN | (with_reducible apply below_setp; (first | omega | (simp <;> omega))) | (with_reducible apply below_allocp; (first | omega | (simp <;> omega))) | (with_reducible refine below_viap (by assumption) ?_ ?_; (first | omega | (simp <;> omega)))))⟩
  | some L =>
    obtain ⟨hc, hcf, hlen, hle6, _⟩ := pfsO_cf hz
    have hgd : GoodP d L := by
      unfold pfsO at hz
      split at hz
      · exact pfL_good Z L hz
      · cases hz
    have D := dsc_of hc
    have hP := Lib.hid (fun w ho => (show Calls Tryz.prog 86 #[.int .i64 d, .slice bz Z.length cz, .int .i64 6] w (fun e w' => ∃ v, e = .returned (.tuple #[v, .bool true]) ∧ w'.ownsRow w.heap.size 36 3 v L.length (cellsF L) ∧ Below w.heap.size w w') from (hP0.out w ho).mono (fun e w' h => by
      rcases h with ⟨a, _⟩ | ⟨L, v, a, b⟩
      · rw [hz] at a; cases a
      · rw [hz] at a; injection a with a; subst a; exact ⟨v, b⟩)))
    by_cases hel : E.length = Z.length
    · have heb : ((E.length : Int) != (Z.length : Int)) = false := by rw [hel, bne_eq_false_iff_eq]
      have hRel := Lib.hid (fun (h : inR (-1000) 1000 E = true) w v B B2 ho hoE => relationClass_any d L E v (.slice be E.length ce) B B2 w D (by omega) (by omega) (fun e he => by obtain ⟨a, b⟩ := inR_mem h e he; omega) hgd ho hoE)
      obtain ⟨rr, hrr⟩ : ∃ rr, relK d (L.map red) E L.length = rr := ⟨_, rfl⟩
      simp only [hrr] at hRel
      have Hno := Lib.hid (fun (h : inR (-1000) 1000 E = false) => (show rcO d Z E = none from rcO_bad (by rw [h]; simp)))
      have Hyes := Lib.hid (fun (h : inR (-1000) 1000 E = true) => (show rcO d Z E = some rr from by rw [rcO_yes hz hel h, hrr]))
      obtain ⟨o, ho⟩ : ∃ o, rcO d Z E = o := ⟨_, rfl⟩
      rw [ho] at Hno Hyes ⊢
      have Hew := Lib.hid hEw
      have hEl : E.length ≤ 6 := by omega
      have Hel := Lib.hid hel
      clear hP0 hz hcf hgd D hrr ho hc hEw hel
      go_enter Tryz.func21, Tryz.ntmps21
      go_wp2_with (go_at_call 86; (with_reducible refine (hP.out _ (own_alloc HO.out)).mono ?_); rintro e v1 ⟨vl, rfl, hol, hB1⟩; have hZ1 := hB1.size; (try simp at hZ1); have hR1 : Blk v1 w.heap.size 36 #[.int .i64 0, .int .i64 0, .int .i64 0] := Blk.call (by (repeat (first | with_reducible assumption | (with_reducible apply Blk.new_at; (first | rfl | (simp; done))) | with_reducible apply Blk.store3 | with_reducible apply Blk.store4 | (with_reducible apply Blk.farp; (first | omega | (simp <;> omega))) | with_reducible apply Blk.allocp | with_reducible apply Blk.drew | with_reducible apply Blk.drewN))) hB1; have cR1 := hR1.cell; have fR1 := hR1.frozen; have lR1 := hR1.lt; have mR1 := Nat.ne_of_gt lR1; have nR1 := Nat.ne_of_lt lR1)
      have hoe1 := own_call hB1 (own_alloc HE.out)
      have HE1 := Lib.hid hoe1
      have Hol := Lib.hid hol
      clear hoe1 hol
      go_loop [30] (fun vi => ArSt (-1000) 1000 E vi) (fun vi => E.length - (intOf vi).toNat)
      case atStart => exact ⟨0, rfl, Nat.zero_le _, Lib.hid (fun _ _ h => absurd h (Nat.not_lt_zero _))⟩
      case round =>
        obtain ⟨k, rfl, hk, hs⟩ := hrel
        by_cases hlt : k < E.length
        · obtain ⟨ge, rfl, le, c1⟩ := own_elemI HE1.out hlt
          obtain ⟨w1, w2⟩ := Hew.out _ (List.getElem_mem hlt)
          by_cases hin : -1000 ≤ E[k] ∧ E[k] ≤ 1000
          · have hs2 : Hid (∀ j (h : j < E.length), j < k + 1 → (decide (-1000 ≤ E[j]) && decide (E[j] ≤ 1000)) = true) := Lib.hid (fun j h hj => if e : j = k then (by subst e; rw [decide_eq_true hin.1, decide_eq_true hin.2]; rfl) else hs.out j h (by omega))
            obtain ⟨i1, i2⟩ := hin
            have hA := Lib.hid (fun w => abs_any E[k] w (by omega) (by omega))
            have hna : ¬ ((1000 : Int) < (E[k].natAbs : Int)) := by omega
            generalize E[k] = y at *
            generalize (y.natAbs : Int) = t at hA hna
            clear hs
            go_wp2_with (go_at_call 87; (with_reducible refine (hA.out _).mono ?_); rintro e v ⟨rfl, rfl⟩)
            go_round
            case rel => exact ⟨k + 1, by go_num, hlt, hs2⟩
            case measure => simp [intOf]; omega
          · have hN := Hno.out (inR_no hlt (by
              rw [← Bool.not_eq_true, Bool.and_eq_true, decide_eq_true_eq, decide_eq_true_eq]
              exact hin))
            have hA := Lib.hid (fun w => abs_big E[k] w hin w1 w2)
            generalize E[k] = y at *
            clear hs hin
            subst hN
            go_wp2_with (go_at_call 87; refine (hA.out _).mono ?_; rintro e v9 ⟨⟨t, rfl, ht⟩, rfl⟩)
            exact bodyPost_ret (v := .tuple #[.agg #[.int .i64 0, .int .i64 0, .int .i64 0], .bool false]) (by simp [results, Tryz.results21, go_sem, *]) rfl ⟨rfl, (by repeat (first | with_reducible exact Below.refl _ _ | with_reducible assumption | with_reducible apply Below.drew | with_reducible apply below_drewN | (with_reducible apply below_setp; (first | omega | (simp <;> omega))) | (with_reducible apply below_allocp; (first | omega | (simp <;> omega))) | (with_reducible refine below_viap (by assumption) ?_ ?_; (first | omega | (simp <;> omega)))))⟩
        · have hall : inR (-1000) 1000 E = true := inR_yes fun j h => hs.out j h (by omega)
          have hY := Hyes.out hall
          have hR2 := Lib.hid (fun w v B B2 ho hoE => hRel.out hall w v B B2 ho hoE)
          subst hY
          clear hs hall
          go_wp2_with (go_at_call 88; (with_reducible refine (hR2.out _ _ _ _ Hol.out HE1.out).mono ?_); rintro e v2 ⟨rfl, hB2⟩; have hZ2 := hB2.size; (try simp at hZ2); (try have zl2 : w.heap.size < v2.heap.size := by omega); (try have ze2 : w.heap.size ≤ v2.heap.size := by omega); (try have zn2 : ¬ w.heap.size = v2.heap.size := by omega); (try have zm2 : ¬ v2.heap.size = w.heap.size := by omega); have hR2 : Blk v2 (w.heap.size) 36 #[.int .i64 0, .int .i64 0, .int .i64 0] := Blk.call (by (repeat (first | with_reducible assumption | (with_reducible apply Blk.new_at; (first | rfl | (simp; done))) | with_reducible apply Blk.store3 | with_reducible apply Blk.store4 | (with_reducible apply Blk.farp; (first | omega | (simp <;> omega))) | with_reducible apply Blk.allocp | with_reducible apply Blk.drew | with_reducible apply Blk.drewN))) hB2; have cR2 := hR2.cell; have fR2 := hR2.frozen; have lR2 := hR2.lt; have mR2 := Nat.ne_of_gt lR2; have nR2 := Nat.ne_of_lt lR2)
          exact bodyPost_ret (v := .tuple #[.agg #[.int .i64 rr.a, .int .i64 rr.b, .int .i64 rr.c], .bool true]) (by simp [results, Tryz.results21, go_sem, *]) rfl ⟨rfl, (by repeat (first | with_reducible exact Below.refl _ _ | with_reducible assumption | with_reducible apply Below.drew | with_reducible apply below_drewN | (with_reducible apply below_setp; (first | omega | (simp <;> omega))) | (with_reducible apply below_allocp; (first | omega | (simp <;> omega))) | (with_reducible refine below_viap (by assumption) ?_ ?_; (first | omega | (simp <;> omega)))))⟩
    · have heb : ((E.length : Int) != (Z.length : Int)) = true := by rw [bne_iff_ne]; omega
      rw [rcO_bad (fun h => hel h.1)]
      clear hP0 hz hcf hgd D hc hEw hel
      go_enter Tryz.func21, Tryz.ntmps21
      go_wp2_with (go_at_call 86; (with_reducible refine (hP.out _ (own_alloc HO.out)).mono ?_); rintro e v1 ⟨vl, rfl, hol, hB1⟩; have hZ1 := hB1.size; (try simp at hZ1); have hR1 : Blk v1 w.heap.size 36 #[.int .i64 0, .int .i64 0, .int .i64 0] := Blk.call (by (repeat (first | with_reducible assumption | (with_reducible apply Blk.new_at; (first | rfl | (simp; done))) | with_reducible apply Blk.store3 | with_reducible apply Blk.store4 | (with_reducible apply Blk.farp; (first | omega | (simp <;> omega))) | with_reducible apply Blk.allocp | with_reducible apply Blk.drew | with_reducible apply Blk.drewN))) hB1; have cR1 := hR1.cell; have fR1 := hR1.frozen; have lR1 := hR1.lt; have mR1 := Nat.ne_of_gt lR1; have nR1 := Nat.ne_of_lt lR1)
      exact bodyPost_ret (v := .tuple #[.agg #[.int .i64 0, .int .i64 0, .int .i64 0], .bool false]) (by simp [results, Tryz.results21, go_sem, *]) rfl ⟨rfl, (by repeat (first | with_reducible exact Below.refl _ _ | with_reducible assumption | with_reducible apply Below.drew | with_reducible apply below_drewN | (with_reducible apply below_setp; (first | omega | (simp <;> omega))) | (with_reducible apply below_allocp; (first | omega | (simp <;> omega))) | (with_reducible refine below_viap (by assumption) ?_ ?_; (first | omega | (simp <;> omega)))))⟩
end Go.Proofs.YteehcjjhkphdnaaGreat
