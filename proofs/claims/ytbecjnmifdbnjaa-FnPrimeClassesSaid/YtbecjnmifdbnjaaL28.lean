/- FnPrimeClasses returns true: for every drawn discriminant and prime, the reduced forms that represent the prime are its class and the inverse of this class, and have the characters of the prime. Conditions: none. -/
import Derived.Test.YtbecjnmifdbnjaaE3
import Derived.Test.YtbecjnmifdbnjaaRY
import Derived.Test.YtbecjnmifdbnjaaDB
import Derived.Test.YtbecjnmifdbnjaaW2
namespace Go.Proofs.Ytbecjnmifdbnjaa
open Go.RowKit Go.ChangeShapes Go.WideShapes Go.ChangeAt Go.Joins

theorem fm3_cases (r1 r2 r3 q1 q2 q3 : Int) : (r1 = q1 ∧ r2 = q2 ∧ r3 = q3) ∨ (r1 == q1) = false ∨ (r1 = q1 ∧ (r2 == q2) = false) ∨ (r1 = q1 ∧ r2 = q2 ∧ (r3 == q3) = false) := by
  by_cases h1 : r1 = q1
  · by_cases h2 : r2 = q2
    · by_cases h3 : r3 = q3
      · exact .inl ⟨h1, h2, h3⟩
      · exact .inr (.inr (.inr ⟨h1, h2, beq_eq_false_iff_ne.2 h3⟩))
    · exact .inr (.inr (.inl ⟨h1, beq_eq_false_iff_ne.2 h2⟩))
  · exact .inr (.inl (beq_eq_false_iff_ne.2 h1))
set_option maxRecDepth 100000 in
set_option maxHeartbeats 12800000 in
theorem walk_FnPrimeClasses (zs es : List Int) (v u : Value) (w : World) (hz : ReB zs v w) (he : ReB es u w) :
    Calls Try.prog 7 #[v, u] w fun e w' => e = .returned (.bool true) ∧ Below w.heap.size w w' := by
  have HZ := Lib.hid hz
  obtain ⟨A, c, rfl⟩ := hz.shape
  obtain ⟨A2, c2, rfl⟩ := he.shape
  clear hz he
  by_cases hbig : zs.length ≤ 1048576 ∧ es.length ≤ 1048576 - zs.length
  · have Hb := Lib.hid (fun w => big_no A A2 zs.length es.length c c2 w hbig.1 hbig.2)
    have HR := Lib.hid (HZ.out.rd hbig.1)
    clear HZ hbig
    go_enter Try.func7, Try.ntmps7
    go_wp2_with (go_at_call 11; (with_reducible refine (Hb.out _).mono ?_); rintro e v ⟨rfl, rfl⟩)
    refine (drawPC_any zs _ _ _ HR.out (Nat.le_refl _)).mono ?_
    rintro e v1 ⟨d, p, rfl, hb1⟩
    have hz1 := hb1.size
    cases hpr : prF d p with
    | none =>
      have HI := Lib.hid (fun w => primeC_no d p w hpr)
      have HS := Lib.hid (fun w => specPC_no d p w hpr)
      obtain ⟨R, ok, hR, hlR⟩ := rpL_ex d p
      have HL := Lib.hid (fun w => implRep_any d p R ok w hR)
      have HN := Lib.hid (fun h => pc_none hpr hR h)
      clear hpr hR
      cases ok with
      | false =>
        go_wp2_with fail
        refine (HI.out _).mono ?_
        rintro e v2 ⟨rfl, hc2⟩
        have hz2 := hc2.size
        (try simp at hz2)
        have hb2 : Below w.heap.size w v2 := (by repeat (first | with_reducible exact Below.refl _ _ | with_reducible assumption | with_reducible apply Below.drew | with_reducible apply below_drewN | (with_reducible apply below_setp; (first | omega | (simp <;> omega))) | (with_reducible apply below_allocp; (first | omega | (simp <;> omega))) | (with_reducible refine below_viap (by assumption) ?_ ?_; (first | omega | (simp <;> omega)))))
        go_wp2_with fail
        refine (HS.out _).mono ?_
        rintro e v3 ⟨rfl, hc3⟩
        have hz3 := hc3.size
        (try simp at hz3)
        have hP3 : Blk v3 (v2.heap.size) 35 #[.int .i64 0, .int .i64 0, .int .i64 0] := Blk.call (by (repeat (first | with_reducible assumption | (with_reducible apply Blk.new_at; (first | rfl | (simp; done))) | with_reducible apply Blk.store3 | with_reducible apply Blk.store4 | (with_reducible apply Blk.farp; (first | omega | (simp <;> omega))) | with_reducible apply Blk.allocp | with_reducible apply Blk.drew | with_reducible apply Blk.drewN))) hc3
        have cP3 := hP3.cell; have fP3 := hP3.frozen; have lP3 := hP3.lt; have mP3 := Nat.ne_of_gt lP3; have nP3 := Nat.ne_of_lt lP3
        have hb3 : Below w.heap.size w v3 := (by repeat (first | with_reducible exact Below.refl _ _ | with_reducible assumption | with_reducible apply Below.drew | with_reducible apply below_drewN | (with_reducible apply below_setp; (first | omega | (simp <;> omega))) | (with_reducible apply below_allocp; (first | omega | (simp <;> omega))) | (with_reducible refine below_viap (by assumption) ?_ ?_; (first | omega | (simp <;> omega)))))
        go_wp2_with fail
        refine (HL.out _).mono ?_
        rintro e v4 ⟨vl, rfl, hl4, hc4⟩
        have hz4 := hc4.size
        (try simp at hz4)
        have hP4 : Blk v4 (v2.heap.size) 35 #[.int .i64 0, .int .i64 0, .int .i64 0] := Blk.call (by (repeat (first | with_reducible assumption | (with_reducible apply Blk.new_at; (first | rfl | (simp; done))) | with_reducible apply Blk.store3 | with_reducible apply Blk.store4 | (with_reducible apply Blk.farp; (first | omega | (simp <;> omega))) | with_reducible apply Blk.allocp | with_reducible apply Blk.drew | with_reducible apply Blk.drewN))) hc4
        have cP4 := hP4.cell; have fP4 := hP4.frozen; have lP4 := hP4.lt; have mP4 := Nat.ne_of_gt lP4; have nP4 := Nat.ne_of_lt lP4
        have hQ4 : Blk v4 (v3.heap.size) 35 #[.int .i64 0, .int .i64 0, .int .i64 0] := Blk.call (by (repeat (first | with_reducible assumption | (with_reducible apply Blk.new_at; (first | rfl | (simp; done))) | with_reducible apply Blk.store3 | with_reducible apply Blk.store4 | (with_reducible apply Blk.farp; (first | omega | (simp <;> omega))) | with_reducible apply Blk.allocp | with_reducible apply Blk.drew | with_reducible apply Blk.drewN))) hc4
        have cQ4 := hQ4.cell; have fQ4 := hQ4.frozen; have lQ4 := hQ4.lt; have mQ4 := Nat.ne_of_gt lQ4; have nQ4 := Nat.ne_of_lt lQ4
        have hb4 : Below w.heap.size w v4 := (by repeat (first | with_reducible exact Below.refl _ _ | with_reducible assumption | with_reducible apply Below.drew | with_reducible apply below_drewN | (with_reducible apply below_setp; (first | omega | (simp <;> omega))) | (with_reducible apply below_allocp; (first | omega | (simp <;> omega))) | (with_reducible refine below_viap (by assumption) ?_ ?_; (first | omega | (simp <;> omega)))))
        clear hP3 cP3 fP3 lP3 mP3 nP3
        obtain ⟨bl, cl, rfl⟩ := own_shape hl4
        go_wp2
        go_ret
        exact ⟨rfl, (by repeat (first | with_reducible exact Below.refl _ _ | with_reducible assumption | with_reducible apply Below.drew | with_reducible apply below_drewN | (with_reducible apply below_setp; (first | omega | (simp <;> omega))) | (with_reducible apply below_allocp; (first | omega | (simp <;> omega))) | (with_reducible refine below_viap (by assumption) ?_ ?_; (first | omega | (simp <;> omega)))))⟩
      | true =>
        obtain ⟨⟨p1, p2⟩, hN⟩ := HN.out rfl
        have HP := Lib.hid (fun w => implIsPr_any p w p1 p2)
        cases hb : prmB p with
        | false =>
          rw [hb] at HP
          clear hN HN hb
          go_wp2_with fail
          refine (HI.out _).mono ?_
          rintro e v2 ⟨rfl, hc2⟩
          have hz2 := hc2.size
          (try simp at hz2)
          have hb2 : Below w.heap.size w v2 := (by repeat (first | with_reducible exact Below.refl _ _ | with_reducible assumption | with_reducible apply Below.drew | with_reducible apply below_drewN | (with_reducible apply below_setp; (first | omega | (simp <;> omega))) | (with_reducible apply below_allocp; (first | omega | (simp <;> omega))) | (with_reducible refine below_viap (by assumption) ?_ ?_; (first | omega | (simp <;> omega)))))
          go_wp2_with fail
          refine (HS.out _).mono ?_
          rintro e v3 ⟨rfl, hc3⟩
          have hz3 := hc3.size
          (try simp at hz3)
          have hP3 : Blk v3 (v2.heap.size) 35 #[.int .i64 0, .int .i64 0, .int .i64 0] := Blk.call (by (repeat (first | with_reducible assumption | (with_reducible apply Blk.new_at; (first | rfl | (simp; done))) | with_reducible apply Blk.store3 | with_reducible apply Blk.store4 | (with_reducible apply Blk.farp; (first | omega | (simp <;> omega))) | with_reducible apply Blk.allocp | with_reducible apply Blk.drew | with_reducible apply Blk.drewN))) hc3
          have cP3 := hP3.cell; have fP3 := hP3.frozen; have lP3 := hP3.lt; have mP3 := Nat.ne_of_gt lP3; have nP3 := Nat.ne_of_lt lP3
          have hb3 : Below w.heap.size w v3 := (by repeat (first | with_reducible exact Below.refl _ _ | with_reducible assumption | with_reducible apply Below.drew | with_reducible apply below_drewN | (with_reducible apply below_setp; (first | omega | (simp <;> omega))) | (with_reducible apply below_allocp; (first | omega | (simp <;> omega))) | (with_reducible refine below_viap (by assumption) ?_ ?_; (first | omega | (simp <;> omega)))))
          go_wp2_with fail
          refine (HL.out _).mono ?_
          rintro e v4 ⟨vl, rfl, hl4, hc4⟩
          have hz4 := hc4.size
          (try simp at hz4)
          have hP4 : Blk v4 (v2.heap.size) 35 #[.int .i64 0, .int .i64 0, .int .i64 0] := Blk.call (by (repeat (first | with_reducible assumption | (with_reducible apply Blk.new_at; (first | rfl | (simp; done))) | with_reducible apply Blk.store3 | with_reducible apply Blk.store4 | (with_reducible apply Blk.farp; (first | omega | (simp <;> omega))) | with_reducible apply Blk.allocp | with_reducible apply Blk.drew | with_reducible apply Blk.drewN))) hc4
          have cP4 := hP4.cell; have fP4 := hP4.frozen; have lP4 := hP4.lt; have mP4 := Nat.ne_of_gt lP4; have nP4 := Nat.ne_of_lt lP4
          have hQ4 : Blk v4 (v3.heap.size) 35 #[.int .i64 0, .int .i64 0, .int .i64 0] := Blk.call (by (repeat (first | with_reducible assumption | (with_reducible apply Blk.new_at; (first | rfl | (simp; done))) | with_reducible apply Blk.store3 | with_reducible apply Blk.store4 | (with_reducible apply Blk.farp; (first | omega | (simp <;> omega))) | with_reducible apply Blk.allocp | with_reducible apply Blk.drew | with_reducible apply Blk.drewN))) hc4
          have cQ4 := hQ4.cell; have fQ4 := hQ4.frozen; have lQ4 := hQ4.lt; have mQ4 := Nat.ne_of_gt lQ4; have nQ4 := Nat.ne_of_lt lQ4
          have hb4 : Below w.heap.size w v4 := (by repeat (first | with_reducible exact Below.refl _ _ | with_reducible assumption | with_reducible apply Below.drew | with_reducible apply below_drewN | (with_reducible apply below_setp; (first | omega | (simp <;> omega))) | (with_reducible apply below_allocp; (first | omega | (simp <;> omega))) | (with_reducible refine below_viap (by assumption) ?_ ?_; (first | omega | (simp <;> omega)))))
          clear hP3 cP3 fP3 lP3 mP3 nP3
          obtain ⟨bl, cl, rfl⟩ := own_shape hl4
          go_wp2_with fail
          refine (HP.out _).mono ?_
          rintro e v5 ⟨rfl, hc5⟩
          have hz5 := hc5.size
          (try simp at hz5)
          have hP5 : Blk v5 (v2.heap.size) 35 #[.int .i64 0, .int .i64 0, .int .i64 0] := Blk.call (by (repeat (first | with_reducible assumption | (with_reducible apply Blk.new_at; (first | rfl | (simp; done))) | with_reducible apply Blk.store3 | with_reducible apply Blk.store4 | (with_reducible apply Blk.farp; (first | omega | (simp <;> omega))) | with_reducible apply Blk.allocp | with_reducible apply Blk.drew | with_reducible apply Blk.drewN))) hc5
          have cP5 := hP5.cell; have fP5 := hP5.frozen; have lP5 := hP5.lt; have mP5 := Nat.ne_of_gt lP5; have nP5 := Nat.ne_of_lt lP5
          have hQ5 : Blk v5 (v3.heap.size) 35 #[.int .i64 0, .int .i64 0, .int .i64 0] := Blk.call (by (repeat (first | with_reducible assumption | (with_reducible apply Blk.new_at; (first | rfl | (simp; done))) | with_reducible apply Blk.store3 | with_reducible apply Blk.store4 | (with_reducible apply Blk.farp; (first | omega | (simp <;> omega))) | with_reducible apply Blk.allocp | with_reducible apply Blk.drew | with_reducible apply Blk.drewN))) hc5
          have cQ5 := hQ5.cell; have fQ5 := hQ5.frozen; have lQ5 := hQ5.lt; have mQ5 := Nat.ne_of_gt lQ5; have nQ5 := Nat.ne_of_lt lQ5
          have hb5 : Below w.heap.size w v5 := (by repeat (first | with_reducible exact Below.refl _ _ | with_reducible assumption | with_reducible apply Below.drew | with_reducible apply below_drewN | (with_reducible apply below_setp; (first | omega | (simp <;> omega))) | (with_reducible apply below_allocp; (first | omega | (simp <;> omega))) | (with_reducible refine below_viap (by assumption) ?_ ?_; (first | omega | (simp <;> omega)))))
          clear hP4 cP4 fP4 lP4 mP4 nP4 hQ4 cQ4 fQ4 lQ4 mQ4 nQ4
          go_wp2
          go_ret
          exact ⟨rfl, (by repeat (first | with_reducible exact Below.refl _ _ | with_reducible assumption | with_reducible apply Below.drew | with_reducible apply below_drewN | (with_reducible apply below_setp; (first | omega | (simp <;> omega))) | (with_reducible apply below_allocp; (first | omega | (simp <;> omega))) | (with_reducible refine below_viap (by assumption) ?_ ?_; (first | omega | (simp <;> omega)))))⟩
        | true =>
          rw [hb] at HP
          obtain rfl := hN hb
          clear HN hb hN
          go_wp2_with fail
          refine (HI.out _).mono ?_
          rintro e v2 ⟨rfl, hc2⟩
          have hz2 := hc2.size
          (try simp at hz2)
          have hb2 : Below w.heap.size w v2 := (by repeat (first | with_reducible exact Below.refl _ _ | with_reducible assumption | with_reducible apply Below.drew | with_reducible apply below_drewN | (with_reducible apply below_setp; (first | omega | (simp <;> omega))) | (with_reducible apply below_allocp; (first | omega | (simp <;> omega))) | (with_reducible refine below_viap (by assumption) ?_ ?_; (first | omega | (simp <;> omega)))))
          go_wp2_with fail
          refine (HS.out _).mono ?_
          rintro e v3 ⟨rfl, hc3⟩
          have hz3 := hc3.size
          (try simp at hz3)
          have hP3 : Blk v3 (v2.heap.size) 35 #[.int .i64 0, .int .i64 0, .int .i64 0] := Blk.call (by (repeat (first | with_reducible assumption | (with_reducible apply Blk.new_at; (first | rfl | (simp; done))) | with_reducible apply Blk.store3 | with_reducible apply Blk.store4 | (with_reducible apply Blk.farp; (first | omega | (simp <;> omega))) | with_reducible apply Blk.allocp | with_reducible apply Blk.drew | with_reducible apply Blk.drewN))) hc3
          have cP3 := hP3.cell; have fP3 := hP3.frozen; have lP3 := hP3.lt; have mP3 := Nat.ne_of_gt lP3; have nP3 := Nat.ne_of_lt lP3
          have hb3 : Below w.heap.size w v3 := (by repeat (first | with_reducible exact Below.refl _ _ | with_reducible assumption | with_reducible apply Below.drew | with_reducible apply below_drewN | (with_reducible apply below_setp; (first | omega | (simp <;> omega))) | (with_reducible apply below_allocp; (first | omega | (simp <;> omega))) | (with_reducible refine below_viap (by assumption) ?_ ?_; (first | omega | (simp <;> omega)))))
          go_wp2_with fail
          refine (HL.out _).mono ?_
          rintro e v4 ⟨vl, rfl, hl4, hc4⟩
          have hz4 := hc4.size
          (try simp at hz4)
          have hP4 : Blk v4 (v2.heap.size) 35 #[.int .i64 0, .int .i64 0, .int .i64 0] := Blk.call (by (repeat (first | with_reducible assumption | (with_reducible apply Blk.new_at; (first | rfl | (simp; done))) | with_reducible apply Blk.store3 | with_reducible apply Blk.store4 | (with_reducible apply Blk.farp; (first | omega | (simp <;> omega))) | with_reducible apply Blk.allocp | with_reducible apply Blk.drew | with_reducible apply Blk.drewN))) hc4
          have cP4 := hP4.cell; have fP4 := hP4.frozen; have lP4 := hP4.lt; have mP4 := Nat.ne_of_gt lP4; have nP4 := Nat.ne_of_lt lP4
          have hQ4 : Blk v4 (v3.heap.size) 35 #[.int .i64 0, .int .i64 0, .int .i64 0] := Blk.call (by (repeat (first | with_reducible assumption | (with_reducible apply Blk.new_at; (first | rfl | (simp; done))) | with_reducible apply Blk.store3 | with_reducible apply Blk.store4 | (with_reducible apply Blk.farp; (first | omega | (simp <;> omega))) | with_reducible apply Blk.allocp | with_reducible apply Blk.drew | with_reducible apply Blk.drewN))) hc4
          have cQ4 := hQ4.cell; have fQ4 := hQ4.frozen; have lQ4 := hQ4.lt; have mQ4 := Nat.ne_of_gt lQ4; have nQ4 := Nat.ne_of_lt lQ4
          have hb4 : Below w.heap.size w v4 := (by repeat (first | with_reducible exact Below.refl _ _ | with_reducible assumption | with_reducible apply Below.drew | with_reducible apply below_drewN | (with_reducible apply below_setp; (first | omega | (simp <;> omega))) | (with_reducible apply below_allocp; (first | omega | (simp <;> omega))) | (with_reducible refine below_viap (by assumption) ?_ ?_; (first | omega | (simp <;> omega)))))
          clear hP3 cP3 fP3 lP3 mP3 nP3
          obtain ⟨bl, cl, rfl⟩ := own_shape hl4
          go_wp2_with fail
          refine (HP.out _).mono ?_
          rintro e v5 ⟨rfl, hc5⟩
          have hz5 := hc5.size
          (try simp at hz5)
          have hP5 : Blk v5 (v2.heap.size) 35 #[.int .i64 0, .int .i64 0, .int .i64 0] := Blk.call (by (repeat (first | with_reducible assumption | (with_reducible apply Blk.new_at; (first | rfl | (simp; done))) | with_reducible apply Blk.store3 | with_reducible apply Blk.store4 | (with_reducible apply Blk.farp; (first | omega | (simp <;> omega))) | with_reducible apply Blk.allocp | with_reducible apply Blk.drew | with_reducible apply Blk.drewN))) hc5
          have cP5 := hP5.cell; have fP5 := hP5.frozen; have lP5 := hP5.lt; have mP5 := Nat.ne_of_gt lP5; have nP5 := Nat.ne_of_lt lP5
          have hQ5 : Blk v5 (v3.heap.size) 35 #[.int .i64 0, .int .i64 0, .int .i64 0] := Blk.call (by (repeat (first | with_reducible assumption | (with_reducible apply Blk.new_at; (first | rfl | (simp; done))) | with_reducible apply Blk.store3 | with_reducible apply Blk.store4 | (with_reducible apply Blk.farp; (first | omega | (simp <;> omega))) | with_reducible apply Blk.allocp | with_reducible apply Blk.drew | with_reducible apply Blk.drewN))) hc5
          have cQ5 := hQ5.cell; have fQ5 := hQ5.frozen; have lQ5 := hQ5.lt; have mQ5 := Nat.ne_of_gt lQ5; have nQ5 := Nat.ne_of_lt lQ5
          have hb5 : Below w.heap.size w v5 := (by repeat (first | with_reducible exact Below.refl _ _ | with_reducible assumption | with_reducible apply Below.drew | with_reducible apply below_drewN | (with_reducible apply below_setp; (first | omega | (simp <;> omega))) | (with_reducible apply below_allocp; (first | omega | (simp <;> omega))) | (with_reducible refine below_viap (by assumption) ?_ ?_; (first | omega | (simp <;> omega)))))
          clear hP4 cP4 fP4 lP4 mP4 nP4 hQ4 cQ4 fQ4 lQ4 mQ4 nQ4
          go_wp2
          go_ret
          exact ⟨rfl, (by repeat (first | with_reducible exact Below.refl _ _ | with_reducible assumption | with_reducible apply Below.drew | with_reducible apply below_drewN | (with_reducible apply below_setp; (first | omega | (simp <;> omega))) | (with_reducible apply below_allocp; (first | omega | (simp <;> omega))) | (with_reducible refine below_viap (by assumption) ?_ ?_; (first | omega | (simp <;> omega)))))⟩
    | some g =>
      have HI := Lib.hid (fun w => primeC_any d p g w hpr)
      have HS := Lib.hid (fun w => specPC_some d p g w hpr)
      obtain ⟨ds, sh, pa, dc, icl, rm, L1, L2, l2, l1, gv, vv⟩ := pc_row hpr
      have D := dsc_of ds
      have HL := Lib.hid (fun w => implRep_any d p _ true w (.inr (.inr ⟨ds, sh, rfl, rfl⟩)))
      have HV := Lib.hid (fun w => invF_any d (red g) w D rm)
      have HF := Lib.hid (fun w => implPF_any d p w)
      rw [hpr] at HF
      dsimp only [pfV, Option.isSome_some, Option.getD_some] at HF
      have HD := Lib.hid (fun w => implDisc_c g.a g.b g.c w icl)
      have hdd : disc ⟨g.a, g.b, g.c⟩ = d := dc
      rw [hdd] at HD
      obtain ⟨V, ok, hV, hV0⟩ := vaV_ex d p
      have HA := Lib.hid (fun w => implVA_any d p V ok w hV)
      have HG := Lib.hid (fun w => implGenV_any _ _ _ _ true w gv)
      have hgl := gn_len D rm
      have hVV := Lib.hid (vv V ok hV)
      have Hl1 := Lib.hid l1
      have HL1 := Lib.hid L1
      have HL2 := Lib.hid L2
      clear hpr ds sh dc icl gv vv hV hdd rm D hV0 l1 L1 L2
      generalize (clsL d).filter (repP d p) = R at *
      generalize gnL d (red g) = G at *
      generalize red (oppF (red g)) = q at *
      generalize red g = r at *
      obtain ⟨x, y, z, rfl⟩ := Fm.ex g
      dsimp only at pa HF HD
      subst pa
      obtain ⟨N, hN⟩ : ∃ N, R.length = N := ⟨_, rfl⟩
      have HN := Lib.hid hN
      rw [hN] at l2 Hl1
      obtain ⟨r1, r2, r3⟩ := r
      obtain ⟨q1, q2, q3⟩ := q
      dsimp only at HI HS HV HG
      rcases fm3_cases r1 r2 r3 q1 q2 q3 with ⟨rfl, rfl, rfl⟩ | hne | ⟨rfl, hne⟩ | ⟨rfl, rfl, hne⟩
      · have hN1 := Hl1.out rfl
        clear Hl1
        cases ok with
        | false =>
          clear hVV
          go_wp2_with fail
          refine (HI.out _).mono ?_
          rintro e v2 ⟨rfl, hc2⟩
          have hz2 := hc2.size
          (try simp at hz2)
          have hb2 : Below w.heap.size w v2 := (by repeat (first | with_reducible exact Below.refl _ _ | with_reducible assumption | with_reducible apply Below.drew | with_reducible apply below_drewN | (with_reducible apply below_setp; (first | omega | (simp <;> omega))) | (with_reducible apply below_allocp; (first | omega | (simp <;> omega))) | (with_reducible refine below_viap (by assumption) ?_ ?_; (first | omega | (simp <;> omega)))))
          go_wp2_with fail
          refine (HS.out _).mono ?_
          rintro e v3 ⟨rfl, hc3⟩
          have hz3 := hc3.size
          (try simp at hz3)
          have hP3 : Blk v3 (v2.heap.size) 35 #[.int .i64 r1, .int .i64 r2, .int .i64 r3] := Blk.call (by (repeat (first | with_reducible assumption | (with_reducible apply Blk.new_at; (first | rfl | (simp; done))) | with_reducible apply Blk.store3 | with_reducible apply Blk.store4 | (with_reducible apply Blk.farp; (first | omega | (simp <;> omega))) | with_reducible apply Blk.allocp | with_reducible apply Blk.drew | with_reducible apply Blk.drewN))) hc3
          have cP3 := hP3.cell; have fP3 := hP3.frozen; have lP3 := hP3.lt; have mP3 := Nat.ne_of_gt lP3; have nP3 := Nat.ne_of_lt lP3
          have hb3 : Below w.heap.size w v3 := (by repeat (first | with_reducible exact Below.refl _ _ | with_reducible assumption | with_reducible apply Below.drew | with_reducible apply below_drewN | (with_reducible apply below_setp; (first | omega | (simp <;> omega))) | (with_reducible apply below_allocp; (first | omega | (simp <;> omega))) | (with_reducible refine below_viap (by assumption) ?_ ?_; (first | omega | (simp <;> omega)))))
          go_wp2_with fail
          refine (HL.out _).mono ?_
          rintro e v4 ⟨vl, rfl, hl4, hc4⟩
          have hz4 := hc4.size
          (try simp at hz4)
          have hP4 : Blk v4 (v2.heap.size) 35 #[.int .i64 r1, .int .i64 r2, .int .i64 r3] := Blk.call (by (repeat (first | with_reducible assumption | (with_reducible apply Blk.new_at; (first | rfl | (simp; done))) | with_reducible apply Blk.store3 | with_reducible apply Blk.store4 | (with_reducible apply Blk.farp; (first | omega | (simp <;> omega))) | with_reducible apply Blk.allocp | with_reducible apply Blk.drew | with_reducible apply Blk.drewN))) hc4
          have cP4 := hP4.cell; have fP4 := hP4.frozen; have lP4 := hP4.lt; have mP4 := Nat.ne_of_gt lP4; have nP4 := Nat.ne_of_lt lP4
          have hQ4 : Blk v4 (v3.heap.size) 35 #[.int .i64 r1, .int .i64 r2, .int .i64 r3] := Blk.call (by (repeat (first | with_reducible assumption | (with_reducible apply Blk.new_at; (first | rfl | (simp; done))) | with_reducible apply Blk.store3 | with_reducible apply Blk.store4 | (with_reducible apply Blk.farp; (first | omega | (simp <;> omega))) | with_reducible apply Blk.allocp | with_reducible apply Blk.drew | with_reducible apply Blk.drewN))) hc4
          have cQ4 := hQ4.cell; have fQ4 := hQ4.frozen; have lQ4 := hQ4.lt; have mQ4 := Nat.ne_of_gt lQ4; have nQ4 := Nat.ne_of_lt lQ4
          have hb4 : Below w.heap.size w v4 := (by repeat (first | with_reducible exact Below.refl _ _ | with_reducible assumption | with_reducible apply Below.drew | with_reducible apply below_drewN | (with_reducible apply below_setp; (first | omega | (simp <;> omega))) | (with_reducible apply below_allocp; (first | omega | (simp <;> omega))) | (with_reducible refine below_viap (by assumption) ?_ ?_; (first | omega | (simp <;> omega)))))
          clear hP3 cP3 fP3 lP3 mP3 nP3
          obtain ⟨bl, cl, rfl⟩ := own_shape hl4
          rw [hN] at hl4 ⊢
          clear hN
          go_wp2_with fail
          refine (HV.out _).mono ?_
          rintro e v5 ⟨rfl, hc5⟩
          have hz5 := hc5.size
          (try simp at hz5)
          have hP5 : Blk v5 (v2.heap.size) 35 #[.int .i64 r1, .int .i64 r2, .int .i64 r3] := Blk.call (by (repeat (first | with_reducible assumption | (with_reducible apply Blk.new_at; (first | rfl | (simp; done))) | with_reducible apply Blk.store3 | with_reducible apply Blk.store4 | (with_reducible apply Blk.farp; (first | omega | (simp <;> omega))) | with_reducible apply Blk.allocp | with_reducible apply Blk.drew | with_reducible apply Blk.drewN))) hc5
          have cP5 := hP5.cell; have fP5 := hP5.frozen; have lP5 := hP5.lt; have mP5 := Nat.ne_of_gt lP5; have nP5 := Nat.ne_of_lt lP5
          have hl5 := own_call hc5 hl4
          have hb5 : Below w.heap.size w v5 := (by repeat (first | with_reducible exact Below.refl _ _ | with_reducible assumption | with_reducible apply Below.drew | with_reducible apply below_drewN | (with_reducible apply below_setp; (first | omega | (simp <;> omega))) | (with_reducible apply below_allocp; (first | omega | (simp <;> omega))) | (with_reducible refine below_viap (by assumption) ?_ ?_; (first | omega | (simp <;> omega)))))
          clear hP4 cP4 fP4 lP4 mP4 nP4 hl4
          go_wp2_with fail
          refine (pHas_yes _ _ R ⟨r1, r2, r3⟩ _ (by rw [HN.out]; omega) (by rw [HN.out]; first | exact hl5 | (have := hl5; exact (by repeat (first | with_reducible assumption | with_reducible apply own_alloc | with_reducible apply own_drew | with_reducible apply own_drewN | (with_reducible refine own_setp (by assumption) ?_ ?_; (first | omega | (simp <;> omega))) | (with_reducible refine own_call (by assumption) ?_))))) HL1.out).mono ?_
          rintro e v6 ⟨rfl, hc6⟩
          have hz6 := hc6.size
          (try simp at hz6)
          have hP6 : Blk v6 (v2.heap.size) 35 #[.int .i64 r1, .int .i64 r2, .int .i64 r3] := Blk.call (by (repeat (first | with_reducible assumption | (with_reducible apply Blk.new_at; (first | rfl | (simp; done))) | with_reducible apply Blk.store3 | with_reducible apply Blk.store4 | (with_reducible apply Blk.farp; (first | omega | (simp <;> omega))) | with_reducible apply Blk.allocp | with_reducible apply Blk.drew | with_reducible apply Blk.drewN))) hc6
          have cP6 := hP6.cell; have fP6 := hP6.frozen; have lP6 := hP6.lt; have mP6 := Nat.ne_of_gt lP6; have nP6 := Nat.ne_of_lt lP6
          have hI6 : Blk v6 (v5.heap.size) 35 #[.int .i64 r1, .int .i64 r2, .int .i64 r3] := Blk.call (by (repeat (first | with_reducible assumption | (with_reducible apply Blk.new_at; (first | rfl | (simp; done))) | with_reducible apply Blk.store3 | with_reducible apply Blk.store4 | (with_reducible apply Blk.farp; (first | omega | (simp <;> omega))) | with_reducible apply Blk.allocp | with_reducible apply Blk.drew | with_reducible apply Blk.drewN))) hc6
          have cI6 := hI6.cell; have fI6 := hI6.frozen; have lI6 := hI6.lt; have mI6 := Nat.ne_of_gt lI6; have nI6 := Nat.ne_of_lt lI6
          have hl6 := own_call hc6 (by have := hl5; exact (by repeat (first | with_reducible assumption | with_reducible apply own_alloc | with_reducible apply own_drew | with_reducible apply own_drewN | (with_reducible refine own_setp (by assumption) ?_ ?_; (first | omega | (simp <;> omega))) | (with_reducible refine own_call (by assumption) ?_))))
          have hb6 : Below w.heap.size w v6 := (by repeat (first | with_reducible exact Below.refl _ _ | with_reducible assumption | with_reducible apply Below.drew | with_reducible apply below_drewN | (with_reducible apply below_setp; (first | omega | (simp <;> omega))) | (with_reducible apply below_allocp; (first | omega | (simp <;> omega))) | (with_reducible refine below_viap (by assumption) ?_ ?_; (first | omega | (simp <;> omega)))))
          clear hP5 cP5 fP5 lP5 mP5 nP5 hl5
          go_wp2_with fail
          refine (pHas_yes _ _ R ⟨r1, r2, r3⟩ _ (by rw [HN.out]; omega) (by rw [HN.out]; first | exact hl6 | (have := hl6; exact (by repeat (first | with_reducible assumption | with_reducible apply own_alloc | with_reducible apply own_drew | with_reducible apply own_drewN | (with_reducible refine own_setp (by assumption) ?_ ?_; (first | omega | (simp <;> omega))) | (with_reducible refine own_call (by assumption) ?_))))) HL2.out).mono ?_
          rintro e v7 ⟨rfl, hc7⟩
          have hz7 := hc7.size
          (try simp at hz7)
          have hP7 : Blk v7 (v2.heap.size) 35 #[.int .i64 r1, .int .i64 r2, .int .i64 r3] := Blk.call (by (repeat (first | with_reducible assumption | (with_reducible apply Blk.new_at; (first | rfl | (simp; done))) | with_reducible apply Blk.store3 | with_reducible apply Blk.store4 | (with_reducible apply Blk.farp; (first | omega | (simp <;> omega))) | with_reducible apply Blk.allocp | with_reducible apply Blk.drew | with_reducible apply Blk.drewN))) hc7
          have cP7 := hP7.cell; have fP7 := hP7.frozen; have lP7 := hP7.lt; have mP7 := Nat.ne_of_gt lP7; have nP7 := Nat.ne_of_lt lP7
          have hI7 : Blk v7 (v5.heap.size) 35 #[.int .i64 r1, .int .i64 r2, .int .i64 r3] := Blk.call (by (repeat (first | with_reducible assumption | (with_reducible apply Blk.new_at; (first | rfl | (simp; done))) | with_reducible apply Blk.store3 | with_reducible apply Blk.store4 | (with_reducible apply Blk.farp; (first | omega | (simp <;> omega))) | with_reducible apply Blk.allocp | with_reducible apply Blk.drew | with_reducible apply Blk.drewN))) hc7
          have cI7 := hI7.cell; have fI7 := hI7.frozen; have lI7 := hI7.lt; have mI7 := Nat.ne_of_gt lI7; have nI7 := Nat.ne_of_lt lI7
          have hl7 := own_call hc7 hl6
          have hb7 : Below w.heap.size w v7 := (by repeat (first | with_reducible exact Below.refl _ _ | with_reducible assumption | with_reducible apply Below.drew | with_reducible apply below_drewN | (with_reducible apply below_setp; (first | omega | (simp <;> omega))) | (with_reducible apply below_allocp; (first | omega | (simp <;> omega))) | (with_reducible refine below_viap (by assumption) ?_ ?_; (first | omega | (simp <;> omega)))))
          clear hP6 cP6 fP6 lP6 mP6 nP6 hI6 cI6 fI6 lI6 mI6 nI6 hl6
          go_wp2_with fail
          refine (HA.out _).mono ?_
          rintro e v8 ⟨va, rfl, ha8, hc8⟩
          have hz8 := hc8.size
          (try simp at hz8)
          have hP8 : Blk v8 (v2.heap.size) 35 #[.int .i64 r1, .int .i64 r2, .int .i64 r3] := Blk.call (by (repeat (first | with_reducible assumption | (with_reducible apply Blk.new_at; (first | rfl | (simp; done))) | with_reducible apply Blk.store3 | with_reducible apply Blk.store4 | (with_reducible apply Blk.farp; (first | omega | (simp <;> omega))) | with_reducible apply Blk.allocp | with_reducible apply Blk.drew | with_reducible apply Blk.drewN))) hc8
          have cP8 := hP8.cell; have fP8 := hP8.frozen; have lP8 := hP8.lt; have mP8 := Nat.ne_of_gt lP8; have nP8 := Nat.ne_of_lt lP8
          have hI8 : Blk v8 (v5.heap.size) 35 #[.int .i64 r1, .int .i64 r2, .int .i64 r3] := Blk.call (by (repeat (first | with_reducible assumption | (with_reducible apply Blk.new_at; (first | rfl | (simp; done))) | with_reducible apply Blk.store3 | with_reducible apply Blk.store4 | (with_reducible apply Blk.farp; (first | omega | (simp <;> omega))) | with_reducible apply Blk.allocp | with_reducible apply Blk.drew | with_reducible apply Blk.drewN))) hc8
          have cI8 := hI8.cell; have fI8 := hI8.frozen; have lI8 := hI8.lt; have mI8 := Nat.ne_of_gt lI8; have nI8 := Nat.ne_of_lt lI8
          have hl8 := own_call hc8 hl7
          have hb8 : Below w.heap.size w v8 := (by repeat (first | with_reducible exact Below.refl _ _ | with_reducible assumption | with_reducible apply Below.drew | with_reducible apply below_drewN | (with_reducible apply below_setp; (first | omega | (simp <;> omega))) | (with_reducible apply below_allocp; (first | omega | (simp <;> omega))) | (with_reducible refine below_viap (by assumption) ?_ ?_; (first | omega | (simp <;> omega)))))
          clear hP7 cP7 fP7 lP7 mP7 nP7 hI7 cI7 fI7 lI7 mI7 nI7 hl7
          obtain ⟨ba, ca, rfl⟩ := own_shape ha8
          go_wp2_with fail
          refine (HG.out _).mono ?_
          rintro e v9 ⟨vg, rfl, hg9, hc9⟩
          have hz9 := hc9.size
          (try simp at hz9)
          have hP9 : Blk v9 (v2.heap.size) 35 #[.int .i64 r1, .int .i64 r2, .int .i64 r3] := Blk.call (by (repeat (first | with_reducible assumption | (with_reducible apply Blk.new_at; (first | rfl | (simp; done))) | with_reducible apply Blk.store3 | with_reducible apply Blk.store4 | (with_reducible apply Blk.farp; (first | omega | (simp <;> omega))) | with_reducible apply Blk.allocp | with_reducible apply Blk.drew | with_reducible apply Blk.drewN))) hc9
          have cP9 := hP9.cell; have fP9 := hP9.frozen; have lP9 := hP9.lt; have mP9 := Nat.ne_of_gt lP9; have nP9 := Nat.ne_of_lt lP9
          have hI9 : Blk v9 (v5.heap.size) 35 #[.int .i64 r1, .int .i64 r2, .int .i64 r3] := Blk.call (by (repeat (first | with_reducible assumption | (with_reducible apply Blk.new_at; (first | rfl | (simp; done))) | with_reducible apply Blk.store3 | with_reducible apply Blk.store4 | (with_reducible apply Blk.farp; (first | omega | (simp <;> omega))) | with_reducible apply Blk.allocp | with_reducible apply Blk.drew | with_reducible apply Blk.drewN))) hc9
          have cI9 := hI9.cell; have fI9 := hI9.frozen; have lI9 := hI9.lt; have mI9 := Nat.ne_of_gt lI9; have nI9 := Nat.ne_of_lt lI9
          have hl9 := own_call hc9 hl8
          have ha9 := own_call hc9 ha8
          have hb9 : Below w.heap.size w v9 := (by repeat (first | with_reducible exact Below.refl _ _ | with_reducible assumption | with_reducible apply Below.drew | with_reducible apply below_drewN | (with_reducible apply below_setp; (first | omega | (simp <;> omega))) | (with_reducible apply below_allocp; (first | omega | (simp <;> omega))) | (with_reducible refine below_viap (by assumption) ?_ ?_; (first | omega | (simp <;> omega)))))
          clear hP8 cP8 fP8 lP8 mP8 nP8 hI8 cI8 fI8 lI8 mI8 nI8 hl8 ha8
          go_wp2_with fail
          refine (HF.out _).mono ?_
          rintro e v10 ⟨rfl, hc10⟩
          have hz10 := hc10.size
          (try simp at hz10)
          have hb10 : Below w.heap.size w v10 := (by repeat (first | with_reducible exact Below.refl _ _ | with_reducible assumption | with_reducible apply Below.drew | with_reducible apply below_drewN | (with_reducible apply below_setp; (first | omega | (simp <;> omega))) | (with_reducible apply below_allocp; (first | omega | (simp <;> omega))) | (with_reducible refine below_viap (by assumption) ?_ ?_; (first | omega | (simp <;> omega)))))
          go_wp2_with fail
          refine (HD.out _).mono ?_
          rintro e v11 ⟨rfl, hc11⟩
          have hz11 := hc11.size
          (try simp at hz11)
          have hE11 : Blk v11 (v10.heap.size) 35 #[.int .i64 x, .int .i64 y, .int .i64 z] := Blk.call (by (repeat (first | with_reducible assumption | (with_reducible apply Blk.new_at; (first | rfl | (simp; done))) | with_reducible apply Blk.store3 | with_reducible apply Blk.store4 | (with_reducible apply Blk.farp; (first | omega | (simp <;> omega))) | with_reducible apply Blk.allocp | with_reducible apply Blk.drew | with_reducible apply Blk.drewN))) hc11
          have cE11 := hE11.cell; have fE11 := hE11.frozen; have lE11 := hE11.lt; have mE11 := Nat.ne_of_gt lE11; have nE11 := Nat.ne_of_lt lE11
          have hb11 : Below w.heap.size w v11 := (by repeat (first | with_reducible exact Below.refl _ _ | with_reducible assumption | with_reducible apply Below.drew | with_reducible apply below_drewN | (with_reducible apply below_setp; (first | omega | (simp <;> omega))) | (with_reducible apply below_allocp; (first | omega | (simp <;> omega))) | (with_reducible refine below_viap (by assumption) ?_ ?_; (first | omega | (simp <;> omega)))))
          go_wp2
          go_ret
          exact ⟨rfl, (by repeat (first | with_reducible exact Below.refl _ _ | with_reducible assumption | with_reducible apply Below.drew | with_reducible apply below_drewN | (with_reducible apply below_setp; (first | omega | (simp <;> omega))) | (with_reducible apply below_allocp; (first | omega | (simp <;> omega))) | (with_reducible refine below_viap (by assumption) ?_ ?_; (first | omega | (simp <;> omega)))))⟩
        | true =>
          obtain rfl := hVV.out rfl
          clear hVV
          go_wp2_with fail
          refine (HI.out _).mono ?_
          rintro e v2 ⟨rfl, hc2⟩
          have hz2 := hc2.size
          (try simp at hz2)
          have hb2 : Below w.heap.size w v2 := (by repeat (first | with_reducible exact Below.refl _ _ | with_reducible assumption | with_reducible apply Below.drew | with_reducible apply below_drewN | (with_reducible apply below_setp; (first | omega | (simp <;> omega))) | (with_reducible apply below_allocp; (first | omega | (simp <;> omega))) | (with_reducible refine below_viap (by assumption) ?_ ?_; (first | omega | (simp <;> omega)))))
          go_wp2_with fail
          refine (HS.out _).mono ?_
          rintro e v3 ⟨rfl, hc3⟩
          have hz3 := hc3.size
          (try simp at hz3)
          have hP3 : Blk v3 (v2.heap.size) 35 #[.int .i64 r1, .int .i64 r2, .int .i64 r3] := Blk.call (by (repeat (first | with_reducible assumption | (with_reducible apply Blk.new_at; (first | rfl | (simp; done))) | with_reducible apply Blk.store3 | with_reducible apply Blk.store4 | (with_reducible apply Blk.farp; (first | omega | (simp <;> omega))) | with_reducible apply Blk.allocp | with_reducible apply Blk.drew | with_reducible apply Blk.drewN))) hc3
          have cP3 := hP3.cell; have fP3 := hP3.frozen; have lP3 := hP3.lt; have mP3 := Nat.ne_of_gt lP3; have nP3 := Nat.ne_of_lt lP3
          have hb3 : Below w.heap.size w v3 := (by repeat (first | with_reducible exact Below.refl _ _ | with_reducible assumption | with_reducible apply Below.drew | with_reducible apply below_drewN | (with_reducible apply below_setp; (first | omega | (simp <;> omega))) | (with_reducible apply below_allocp; (first | omega | (simp <;> omega))) | (with_reducible refine below_viap (by assumption) ?_ ?_; (first | omega | (simp <;> omega)))))
          go_wp2_with fail
          refine (HL.out _).mono ?_
          rintro e v4 ⟨vl, rfl, hl4, hc4⟩
          have hz4 := hc4.size
          (try simp at hz4)
          have hP4 : Blk v4 (v2.heap.size) 35 #[.int .i64 r1, .int .i64 r2, .int .i64 r3] := Blk.call (by (repeat (first | with_reducible assumption | (with_reducible apply Blk.new_at; (first | rfl | (simp; done))) | with_reducible apply Blk.store3 | with_reducible apply Blk.store4 | (with_reducible apply Blk.farp; (first | omega | (simp <;> omega))) | with_reducible apply Blk.allocp | with_reducible apply Blk.drew | with_reducible apply Blk.drewN))) hc4
          have cP4 := hP4.cell; have fP4 := hP4.frozen; have lP4 := hP4.lt; have mP4 := Nat.ne_of_gt lP4; have nP4 := Nat.ne_of_lt lP4
          have hQ4 : Blk v4 (v3.heap.size) 35 #[.int .i64 r1, .int .i64 r2, .int .i64 r3] := Blk.call (by (repeat (first | with_reducible assumption | (with_reducible apply Blk.new_at; (first | rfl | (simp; done))) | with_reducible apply Blk.store3 | with_reducible apply Blk.store4 | (with_reducible apply Blk.farp; (first | omega | (simp <;> omega))) | with_reducible apply Blk.allocp | with_reducible apply Blk.drew | with_reducible apply Blk.drewN))) hc4
          have cQ4 := hQ4.cell; have fQ4 := hQ4.frozen; have lQ4 := hQ4.lt; have mQ4 := Nat.ne_of_gt lQ4; have nQ4 := Nat.ne_of_lt lQ4
          have hb4 : Below w.heap.size w v4 := (by repeat (first | with_reducible exact Below.refl _ _ | with_reducible assumption | with_reducible apply Below.drew | with_reducible apply below_drewN | (with_reducible apply below_setp; (first | omega | (simp <;> omega))) | (with_reducible apply below_allocp; (first | omega | (simp <;> omega))) | (with_reducible refine below_viap (by assumption) ?_ ?_; (first | omega | (simp <;> omega)))))
          clear hP3 cP3 fP3 lP3 mP3 nP3
          obtain ⟨bl, cl, rfl⟩ := own_shape hl4
          rw [hN] at hl4 ⊢
          clear hN
          go_wp2_with fail
          refine (HV.out _).mono ?_
          rintro e v5 ⟨rfl, hc5⟩
          have hz5 := hc5.size
          (try simp at hz5)
          have hP5 : Blk v5 (v2.heap.size) 35 #[.int .i64 r1, .int .i64 r2, .int .i64 r3] := Blk.call (by (repeat (first | with_reducible assumption | (with_reducible apply Blk.new_at; (first | rfl | (simp; done))) | with_reducible apply Blk.store3 | with_reducible apply Blk.store4 | (with_reducible apply Blk.farp; (first | omega | (simp <;> omega))) | with_reducible apply Blk.allocp | with_reducible apply Blk.drew | with_reducible apply Blk.drewN))) hc5
          have cP5 := hP5.cell; have fP5 := hP5.frozen; have lP5 := hP5.lt; have mP5 := Nat.ne_of_gt lP5; have nP5 := Nat.ne_of_lt lP5
          have hl5 := own_call hc5 hl4
          have hb5 : Below w.heap.size w v5 := (by repeat (first | with_reducible exact Below.refl _ _ | with_reducible assumption | with_reducible apply Below.drew | with_reducible apply below_drewN | (with_reducible apply below_setp; (first | omega | (simp <;> omega))) | (with_reducible apply below_allocp; (first | omega | (simp <;> omega))) | (with_reducible refine below_viap (by assumption) ?_ ?_; (first | omega | (simp <;> omega)))))
          clear hP4 cP4 fP4 lP4 mP4 nP4 hl4
          go_wp2_with fail
          refine (pHas_yes _ _ R ⟨r1, r2, r3⟩ _ (by rw [HN.out]; omega) (by rw [HN.out]; first | exact hl5 | (have := hl5; exact (by repeat (first | with_reducible assumption | with_reducible apply own_alloc | with_reducible apply own_drew | with_reducible apply own_drewN | (with_reducible refine own_setp (by assumption) ?_ ?_; (first | omega | (simp <;> omega))) | (with_reducible refine own_call (by assumption) ?_))))) HL1.out).mono ?_
          rintro e v6 ⟨rfl, hc6⟩
          have hz6 := hc6.size
          (try simp at hz6)
          have hP6 : Blk v6 (v2.heap.size) 35 #[.int .i64 r1, .int .i64 r2, .int .i64 r3] := Blk.call (by (repeat (first | with_reducible assumption | (with_reducible apply Blk.new_at; (first | rfl | (simp; done))) | with_reducible apply Blk.store3 | with_reducible apply Blk.store4 | (with_reducible apply Blk.farp; (first | omega | (simp <;> omega))) | with_reducible apply Blk.allocp | with_reducible apply Blk.drew | with_reducible apply Blk.drewN))) hc6
          have cP6 := hP6.cell; have fP6 := hP6.frozen; have lP6 := hP6.lt; have mP6 := Nat.ne_of_gt lP6; have nP6 := Nat.ne_of_lt lP6
          have hI6 : Blk v6 (v5.heap.size) 35 #[.int .i64 r1, .int .i64 r2, .int .i64 r3] := Blk.call (by (repeat (first | with_reducible assumption | (with_reducible apply Blk.new_at; (first | rfl | (simp; done))) | with_reducible apply Blk.store3 | with_reducible apply Blk.store4 | (with_reducible apply Blk.farp; (first | omega | (simp <;> omega))) | with_reducible apply Blk.allocp | with_reducible apply Blk.drew | with_reducible apply Blk.drewN))) hc6
          have cI6 := hI6.cell; have fI6 := hI6.frozen; have lI6 := hI6.lt; have mI6 := Nat.ne_of_gt lI6; have nI6 := Nat.ne_of_lt lI6
          have hl6 := own_call hc6 (by have := hl5; exact (by repeat (first | with_reducible assumption | with_reducible apply own_alloc | with_reducible apply own_drew | with_reducible apply own_drewN | (with_reducible refine own_setp (by assumption) ?_ ?_; (first | omega | (simp <;> omega))) | (with_reducible refine own_call (by assumption) ?_))))
          have hb6 : Below w.heap.size w v6 := (by repeat (first | with_reducible exact Below.refl _ _ | with_reducible assumption | with_reducible apply Below.drew | with_reducible apply below_drewN | (with_reducible apply below_setp; (first | omega | (simp <;> omega))) | (with_reducible apply below_allocp; (first | omega | (simp <;> omega))) | (with_reducible refine below_viap (by assumption) ?_ ?_; (first | omega | (simp <;> omega)))))
          clear hP5 cP5 fP5 lP5 mP5 nP5 hl5
          go_wp2_with fail
          refine (pHas_yes _ _ R ⟨r1, r2, r3⟩ _ (by rw [HN.out]; omega) (by rw [HN.out]; first | exact hl6 | (have := hl6; exact (by repeat (first | with_reducible assumption | with_reducible apply own_alloc | with_reducible apply own_drew | with_reducible apply own_drewN | (with_reducible refine own_setp (by assumption) ?_ ?_; (first | omega | (simp <;> omega))) | (with_reducible refine own_call (by assumption) ?_))))) HL2.out).mono ?_
          rintro e v7 ⟨rfl, hc7⟩
          have hz7 := hc7.size
          (try simp at hz7)
          have hP7 : Blk v7 (v2.heap.size) 35 #[.int .i64 r1, .int .i64 r2, .int .i64 r3] := Blk.call (by (repeat (first | with_reducible assumption | (with_reducible apply Blk.new_at; (first | rfl | (simp; done))) | with_reducible apply Blk.store3 | with_reducible apply Blk.store4 | (with_reducible apply Blk.farp; (first | omega | (simp <;> omega))) | with_reducible apply Blk.allocp | with_reducible apply Blk.drew | with_reducible apply Blk.drewN))) hc7
          have cP7 := hP7.cell; have fP7 := hP7.frozen; have lP7 := hP7.lt; have mP7 := Nat.ne_of_gt lP7; have nP7 := Nat.ne_of_lt lP7
          have hI7 : Blk v7 (v5.heap.size) 35 #[.int .i64 r1, .int .i64 r2, .int .i64 r3] := Blk.call (by (repeat (first | with_reducible assumption | (with_reducible apply Blk.new_at; (first | rfl | (simp; done))) | with_reducible apply Blk.store3 | with_reducible apply Blk.store4 | (with_reducible apply Blk.farp; (first | omega | (simp <;> omega))) | with_reducible apply Blk.allocp | with_reducible apply Blk.drew | with_reducible apply Blk.drewN))) hc7
          have cI7 := hI7.cell; have fI7 := hI7.frozen; have lI7 := hI7.lt; have mI7 := Nat.ne_of_gt lI7; have nI7 := Nat.ne_of_lt lI7
          have hl7 := own_call hc7 hl6
          have hb7 : Below w.heap.size w v7 := (by repeat (first | with_reducible exact Below.refl _ _ | with_reducible assumption | with_reducible apply Below.drew | with_reducible apply below_drewN | (with_reducible apply below_setp; (first | omega | (simp <;> omega))) | (with_reducible apply below_allocp; (first | omega | (simp <;> omega))) | (with_reducible refine below_viap (by assumption) ?_ ?_; (first | omega | (simp <;> omega)))))
          clear hP6 cP6 fP6 lP6 mP6 nP6 hI6 cI6 fI6 lI6 mI6 nI6 hl6
          go_wp2_with fail
          refine (HA.out _).mono ?_
          rintro e v8 ⟨va, rfl, ha8, hc8⟩
          have hz8 := hc8.size
          (try simp at hz8)
          have hP8 : Blk v8 (v2.heap.size) 35 #[.int .i64 r1, .int .i64 r2, .int .i64 r3] := Blk.call (by (repeat (first | with_reducible assumption | (with_reducible apply Blk.new_at; (first | rfl | (simp; done))) | with_reducible apply Blk.store3 | with_reducible apply Blk.store4 | (with_reducible apply Blk.farp; (first | omega | (simp <;> omega))) | with_reducible apply Blk.allocp | with_reducible apply Blk.drew | with_reducible apply Blk.drewN))) hc8
          have cP8 := hP8.cell; have fP8 := hP8.frozen; have lP8 := hP8.lt; have mP8 := Nat.ne_of_gt lP8; have nP8 := Nat.ne_of_lt lP8
          have hI8 : Blk v8 (v5.heap.size) 35 #[.int .i64 r1, .int .i64 r2, .int .i64 r3] := Blk.call (by (repeat (first | with_reducible assumption | (with_reducible apply Blk.new_at; (first | rfl | (simp; done))) | with_reducible apply Blk.store3 | with_reducible apply Blk.store4 | (with_reducible apply Blk.farp; (first | omega | (simp <;> omega))) | with_reducible apply Blk.allocp | with_reducible apply Blk.drew | with_reducible apply Blk.drewN))) hc8
          have cI8 := hI8.cell; have fI8 := hI8.frozen; have lI8 := hI8.lt; have mI8 := Nat.ne_of_gt lI8; have nI8 := Nat.ne_of_lt lI8
          have hl8 := own_call hc8 hl7
          have hb8 : Below w.heap.size w v8 := (by repeat (first | with_reducible exact Below.refl _ _ | with_reducible assumption | with_reducible apply Below.drew | with_reducible apply below_drewN | (with_reducible apply below_setp; (first | omega | (simp <;> omega))) | (with_reducible apply below_allocp; (first | omega | (simp <;> omega))) | (with_reducible refine below_viap (by assumption) ?_ ?_; (first | omega | (simp <;> omega)))))
          clear hP7 cP7 fP7 lP7 mP7 nP7 hI7 cI7 fI7 lI7 mI7 nI7 hl7
          obtain ⟨ba, ca, rfl⟩ := own_shape ha8
          go_wp2_with fail
          refine (HG.out _).mono ?_
          rintro e v9 ⟨vg, rfl, hg9, hc9⟩
          have hz9 := hc9.size
          (try simp at hz9)
          have hP9 : Blk v9 (v2.heap.size) 35 #[.int .i64 r1, .int .i64 r2, .int .i64 r3] := Blk.call (by (repeat (first | with_reducible assumption | (with_reducible apply Blk.new_at; (first | rfl | (simp; done))) | with_reducible apply Blk.store3 | with_reducible apply Blk.store4 | (with_reducible apply Blk.farp; (first | omega | (simp <;> omega))) | with_reducible apply Blk.allocp | with_reducible apply Blk.drew | with_reducible apply Blk.drewN))) hc9
          have cP9 := hP9.cell; have fP9 := hP9.frozen; have lP9 := hP9.lt; have mP9 := Nat.ne_of_gt lP9; have nP9 := Nat.ne_of_lt lP9
          have hI9 : Blk v9 (v5.heap.size) 35 #[.int .i64 r1, .int .i64 r2, .int .i64 r3] := Blk.call (by (repeat (first | with_reducible assumption | (with_reducible apply Blk.new_at; (first | rfl | (simp; done))) | with_reducible apply Blk.store3 | with_reducible apply Blk.store4 | (with_reducible apply Blk.farp; (first | omega | (simp <;> omega))) | with_reducible apply Blk.allocp | with_reducible apply Blk.drew | with_reducible apply Blk.drewN))) hc9
          have cI9 := hI9.cell; have fI9 := hI9.frozen; have lI9 := hI9.lt; have mI9 := Nat.ne_of_gt lI9; have nI9 := Nat.ne_of_lt lI9
          have hl9 := own_call hc9 hl8
          have ha9 := own_call hc9 ha8
          have hb9 : Below w.heap.size w v9 := (by repeat (first | with_reducible exact Below.refl _ _ | with_reducible assumption | with_reducible apply Below.drew | with_reducible apply below_drewN | (with_reducible apply below_setp; (first | omega | (simp <;> omega))) | (with_reducible apply below_allocp; (first | omega | (simp <;> omega))) | (with_reducible refine below_viap (by assumption) ?_ ?_; (first | omega | (simp <;> omega)))))
          clear hP8 cP8 fP8 lP8 mP8 nP8 hI8 cI8 fI8 lI8 mI8 nI8 hl8 ha8
          go_wp2_with fail
          refine (sameInts_same _ vg _ _ V _ (by first | omega | (simp <;> omega)) ha9 hg9).mono ?_
          rintro e v10 ⟨rfl, hc10⟩
          have hz10 := hc10.size
          (try simp at hz10)
          have hP10 : Blk v10 (v2.heap.size) 35 #[.int .i64 r1, .int .i64 r2, .int .i64 r3] := Blk.call (by (repeat (first | with_reducible assumption | (with_reducible apply Blk.new_at; (first | rfl | (simp; done))) | with_reducible apply Blk.store3 | with_reducible apply Blk.store4 | (with_reducible apply Blk.farp; (first | omega | (simp <;> omega))) | with_reducible apply Blk.allocp | with_reducible apply Blk.drew | with_reducible apply Blk.drewN))) hc10
          have cP10 := hP10.cell; have fP10 := hP10.frozen; have lP10 := hP10.lt; have mP10 := Nat.ne_of_gt lP10; have nP10 := Nat.ne_of_lt lP10
          have hI10 : Blk v10 (v5.heap.size) 35 #[.int .i64 r1, .int .i64 r2, .int .i64 r3] := Blk.call (by (repeat (first | with_reducible assumption | (with_reducible apply Blk.new_at; (first | rfl | (simp; done))) | with_reducible apply Blk.store3 | with_reducible apply Blk.store4 | (with_reducible apply Blk.farp; (first | omega | (simp <;> omega))) | with_reducible apply Blk.allocp | with_reducible apply Blk.drew | with_reducible apply Blk.drewN))) hc10
          have cI10 := hI10.cell; have fI10 := hI10.frozen; have lI10 := hI10.lt; have mI10 := Nat.ne_of_gt lI10; have nI10 := Nat.ne_of_lt lI10
          have hl10 := own_call hc10 hl9
          have ha10 := own_call hc10 ha9
          have hg10 := own_call hc10 hg9
          have hb10 : Below w.heap.size w v10 := (by repeat (first | with_reducible exact Below.refl _ _ | with_reducible assumption | with_reducible apply Below.drew | with_reducible apply below_drewN | (with_reducible apply below_setp; (first | omega | (simp <;> omega))) | (with_reducible apply below_allocp; (first | omega | (simp <;> omega))) | (with_reducible refine below_viap (by assumption) ?_ ?_; (first | omega | (simp <;> omega)))))
          clear hP9 cP9 fP9 lP9 mP9 nP9 hI9 cI9 fI9 lI9 mI9 nI9 hl9 ha9 hg9
          go_wp2_with fail
          refine (HF.out _).mono ?_
          rintro e v11 ⟨rfl, hc11⟩
          have hz11 := hc11.size
          (try simp at hz11)
          have hb11 : Below w.heap.size w v11 := (by repeat (first | with_reducible exact Below.refl _ _ | with_reducible assumption | with_reducible apply Below.drew | with_reducible apply below_drewN | (with_reducible apply below_setp; (first | omega | (simp <;> omega))) | (with_reducible apply below_allocp; (first | omega | (simp <;> omega))) | (with_reducible refine below_viap (by assumption) ?_ ?_; (first | omega | (simp <;> omega)))))
          go_wp2_with fail
          refine (HD.out _).mono ?_
          rintro e v12 ⟨rfl, hc12⟩
          have hz12 := hc12.size
          (try simp at hz12)
          have hE12 : Blk v12 (v11.heap.size) 35 #[.int .i64 x, .int .i64 y, .int .i64 z] := Blk.call (by (repeat (first | with_reducible assumption | (with_reducible apply Blk.new_at; (first | rfl | (simp; done))) | with_reducible apply Blk.store3 | with_reducible apply Blk.store4 | (with_reducible apply Blk.farp; (first | omega | (simp <;> omega))) | with_reducible apply Blk.allocp | with_reducible apply Blk.drew | with_reducible apply Blk.drewN))) hc12
          have cE12 := hE12.cell; have fE12 := hE12.frozen; have lE12 := hE12.lt; have mE12 := Nat.ne_of_gt lE12; have nE12 := Nat.ne_of_lt lE12
          have hb12 : Below w.heap.size w v12 := (by repeat (first | with_reducible exact Below.refl _ _ | with_reducible assumption | with_reducible apply Below.drew | with_reducible apply below_drewN | (with_reducible apply below_setp; (first | omega | (simp <;> omega))) | (with_reducible apply below_allocp; (first | omega | (simp <;> omega))) | (with_reducible refine below_viap (by assumption) ?_ ?_; (first | omega | (simp <;> omega)))))
          go_wp2
          go_ret
          exact ⟨rfl, (by repeat (first | with_reducible exact Below.refl _ _ | with_reducible assumption | with_reducible apply Below.drew | with_reducible apply below_drewN | (with_reducible apply below_setp; (first | omega | (simp <;> omega))) | (with_reducible apply below_allocp; (first | omega | (simp <;> omega))) | (with_reducible refine below_viap (by assumption) ?_ ?_; (first | omega | (simp <;> omega)))))⟩
      · clear Hl1
        cases ok with
        | false =>
          clear hVV
          go_wp2_with fail
          refine (HI.out _).mono ?_
          rintro e v2 ⟨rfl, hc2⟩
          have hz2 := hc2.size
          (try simp at hz2)
          have hb2 : Below w.heap.size w v2 := (by repeat (first | with_reducible exact Below.refl _ _ | with_reducible assumption | with_reducible apply Below.drew | with_reducible apply below_drewN | (with_reducible apply below_setp; (first | omega | (simp <;> omega))) | (with_reducible apply below_allocp; (first | omega | (simp <;> omega))) | (with_reducible refine below_viap (by assumption) ?_ ?_; (first | omega | (simp <;> omega)))))
          go_wp2_with fail
          refine (HS.out _).mono ?_
          rintro e v3 ⟨rfl, hc3⟩
          have hz3 := hc3.size
          (try simp at hz3)
          have hP3 : Blk v3 (v2.heap.size) 35 #[.int .i64 r1, .int .i64 r2, .int .i64 r3] := Blk.call (by (repeat (first | with_reducible assumption | (with_reducible apply Blk.new_at; (first | rfl | (simp; done))) | with_reducible apply Blk.store3 | with_reducible apply Blk.store4 | (with_reducible apply Blk.farp; (first | omega | (simp <;> omega))) | with_reducible apply Blk.allocp | with_reducible apply Blk.drew | with_reducible apply Blk.drewN))) hc3
          have cP3 := hP3.cell; have fP3 := hP3.frozen; have lP3 := hP3.lt; have mP3 := Nat.ne_of_gt lP3; have nP3 := Nat.ne_of_lt lP3
          have hb3 : Below w.heap.size w v3 := (by repeat (first | with_reducible exact Below.refl _ _ | with_reducible assumption | with_reducible apply Below.drew | with_reducible apply below_drewN | (with_reducible apply below_setp; (first | omega | (simp <;> omega))) | (with_reducible apply below_allocp; (first | omega | (simp <;> omega))) | (with_reducible refine below_viap (by assumption) ?_ ?_; (first | omega | (simp <;> omega)))))
          go_wp2_with fail
          refine (HL.out _).mono ?_
          rintro e v4 ⟨vl, rfl, hl4, hc4⟩
          have hz4 := hc4.size
          (try simp at hz4)
          have hP4 : Blk v4 (v2.heap.size) 35 #[.int .i64 r1, .int .i64 r2, .int .i64 r3] := Blk.call (by (repeat (first | with_reducible assumption | (with_reducible apply Blk.new_at; (first | rfl | (simp; done))) | with_reducible apply Blk.store3 | with_reducible apply Blk.store4 | (with_reducible apply Blk.farp; (first | omega | (simp <;> omega))) | with_reducible apply Blk.allocp | with_reducible apply Blk.drew | with_reducible apply Blk.drewN))) hc4
          have cP4 := hP4.cell; have fP4 := hP4.frozen; have lP4 := hP4.lt; have mP4 := Nat.ne_of_gt lP4; have nP4 := Nat.ne_of_lt lP4
          have hQ4 : Blk v4 (v3.heap.size) 35 #[.int .i64 r1, .int .i64 r2, .int .i64 r3] := Blk.call (by (repeat (first | with_reducible assumption | (with_reducible apply Blk.new_at; (first | rfl | (simp; done))) | with_reducible apply Blk.store3 | with_reducible apply Blk.store4 | (with_reducible apply Blk.farp; (first | omega | (simp <;> omega))) | with_reducible apply Blk.allocp | with_reducible apply Blk.drew | with_reducible apply Blk.drewN))) hc4
          have cQ4 := hQ4.cell; have fQ4 := hQ4.frozen; have lQ4 := hQ4.lt; have mQ4 := Nat.ne_of_gt lQ4; have nQ4 := Nat.ne_of_lt lQ4
          have hb4 : Below w.heap.size w v4 := (by repeat (first | with_reducible exact Below.refl _ _ | with_reducible assumption | with_reducible apply Below.drew | with_reducible apply below_drewN | (with_reducible apply below_setp; (first | omega | (simp <;> omega))) | (with_reducible apply below_allocp; (first | omega | (simp <;> omega))) | (with_reducible refine below_viap (by assumption) ?_ ?_; (first | omega | (simp <;> omega)))))
          clear hP3 cP3 fP3 lP3 mP3 nP3
          obtain ⟨bl, cl, rfl⟩ := own_shape hl4
          rw [hN] at hl4 ⊢
          clear hN
          go_wp2_with fail
          refine (HV.out _).mono ?_
          rintro e v5 ⟨rfl, hc5⟩
          have hz5 := hc5.size
          (try simp at hz5)
          have hP5 : Blk v5 (v2.heap.size) 35 #[.int .i64 r1, .int .i64 r2, .int .i64 r3] := Blk.call (by (repeat (first | with_reducible assumption | (with_reducible apply Blk.new_at; (first | rfl | (simp; done))) | with_reducible apply Blk.store3 | with_reducible apply Blk.store4 | (with_reducible apply Blk.farp; (first | omega | (simp <;> omega))) | with_reducible apply Blk.allocp | with_reducible apply Blk.drew | with_reducible apply Blk.drewN))) hc5
          have cP5 := hP5.cell; have fP5 := hP5.frozen; have lP5 := hP5.lt; have mP5 := Nat.ne_of_gt lP5; have nP5 := Nat.ne_of_lt lP5
          have hl5 := own_call hc5 hl4
          have hb5 : Below w.heap.size w v5 := (by repeat (first | with_reducible exact Below.refl _ _ | with_reducible assumption | with_reducible apply Below.drew | with_reducible apply below_drewN | (with_reducible apply below_setp; (first | omega | (simp <;> omega))) | (with_reducible apply below_allocp; (first | omega | (simp <;> omega))) | (with_reducible refine below_viap (by assumption) ?_ ?_; (first | omega | (simp <;> omega)))))
          clear hP4 cP4 fP4 lP4 mP4 nP4 hl4
          go_wp2_with fail
          refine (pHas_yes _ _ R ⟨r1, r2, r3⟩ _ (by rw [HN.out]; omega) (by rw [HN.out]; first | exact hl5 | (have := hl5; exact (by repeat (first | with_reducible assumption | with_reducible apply own_alloc | with_reducible apply own_drew | with_reducible apply own_drewN | (with_reducible refine own_setp (by assumption) ?_ ?_; (first | omega | (simp <;> omega))) | (with_reducible refine own_call (by assumption) ?_))))) HL1.out).mono ?_
          rintro e v6 ⟨rfl, hc6⟩
          have hz6 := hc6.size
          (try simp at hz6)
          have hP6 : Blk v6 (v2.heap.size) 35 #[.int .i64 r1, .int .i64 r2, .int .i64 r3] := Blk.call (by (repeat (first | with_reducible assumption | (with_reducible apply Blk.new_at; (first | rfl | (simp; done))) | with_reducible apply Blk.store3 | with_reducible apply Blk.store4 | (with_reducible apply Blk.farp; (first | omega | (simp <;> omega))) | with_reducible apply Blk.allocp | with_reducible apply Blk.drew | with_reducible apply Blk.drewN))) hc6
          have cP6 := hP6.cell; have fP6 := hP6.frozen; have lP6 := hP6.lt; have mP6 := Nat.ne_of_gt lP6; have nP6 := Nat.ne_of_lt lP6
          have hI6 : Blk v6 (v5.heap.size) 35 #[.int .i64 q1, .int .i64 q2, .int .i64 q3] := Blk.call (by (repeat (first | with_reducible assumption | (with_reducible apply Blk.new_at; (first | rfl | (simp; done))) | with_reducible apply Blk.store3 | with_reducible apply Blk.store4 | (with_reducible apply Blk.farp; (first | omega | (simp <;> omega))) | with_reducible apply Blk.allocp | with_reducible apply Blk.drew | with_reducible apply Blk.drewN))) hc6
          have cI6 := hI6.cell; have fI6 := hI6.frozen; have lI6 := hI6.lt; have mI6 := Nat.ne_of_gt lI6; have nI6 := Nat.ne_of_lt lI6
          have hl6 := own_call hc6 (by have := hl5; exact (by repeat (first | with_reducible assumption | with_reducible apply own_alloc | with_reducible apply own_drew | with_reducible apply own_drewN | (with_reducible refine own_setp (by assumption) ?_ ?_; (first | omega | (simp <;> omega))) | (with_reducible refine own_call (by assumption) ?_))))
          have hb6 : Below w.heap.size w v6 := (by repeat (first | with_reducible exact Below.refl _ _ | with_reducible assumption | with_reducible apply Below.drew | with_reducible apply below_drewN | (with_reducible apply below_setp; (first | omega | (simp <;> omega))) | (with_reducible apply below_allocp; (first | omega | (simp <;> omega))) | (with_reducible refine below_viap (by assumption) ?_ ?_; (first | omega | (simp <;> omega)))))
          clear hP5 cP5 fP5 lP5 mP5 nP5 hl5
          go_wp2_with fail
          refine (pHas_yes _ _ R ⟨q1, q2, q3⟩ _ (by rw [HN.out]; omega) (by rw [HN.out]; first | exact hl6 | (have := hl6; exact (by repeat (first | with_reducible assumption | with_reducible apply own_alloc | with_reducible apply own_drew | with_reducible apply own_drewN | (with_reducible refine own_setp (by assumption) ?_ ?_; (first | omega | (simp <;> omega))) | (with_reducible refine own_call (by assumption) ?_))))) HL2.out).mono ?_
          rintro e v7 ⟨rfl, hc7⟩
          have hz7 := hc7.size
          (try simp at hz7)
          have hP7 : Blk v7 (v2.heap.size) 35 #[.int .i64 r1, .int .i64 r2, .int .i64 r3] := Blk.call (by (repeat (first | with_reducible assumption | (with_reducible apply Blk.new_at; (first | rfl | (simp; done))) | with_reducible apply Blk.store3 | with_reducible apply Blk.store4 | (with_reducible apply Blk.farp; (first | omega | (simp <;> omega))) | with_reducible apply Blk.allocp | with_reducible apply Blk.drew | with_reducible apply Blk.drewN))) hc7
          have cP7 := hP7.cell; have fP7 := hP7.frozen; have lP7 := hP7.lt; have mP7 := Nat.ne_of_gt lP7; have nP7 := Nat.ne_of_lt lP7
          have hI7 : Blk v7 (v5.heap.size) 35 #[.int .i64 q1, .int .i64 q2, .int .i64 q3] := Blk.call (by (repeat (first | with_reducible assumption | (with_reducible apply Blk.new_at; (first | rfl | (simp; done))) | with_reducible apply Blk.store3 | with_reducible apply Blk.store4 | (with_reducible apply Blk.farp; (first | omega | (simp <;> omega))) | with_reducible apply Blk.allocp | with_reducible apply Blk.drew | with_reducible apply Blk.drewN))) hc7
          have cI7 := hI7.cell; have fI7 := hI7.frozen; have lI7 := hI7.lt; have mI7 := Nat.ne_of_gt lI7; have nI7 := Nat.ne_of_lt lI7
          have hl7 := own_call hc7 hl6
          have hb7 : Below w.heap.size w v7 := (by repeat (first | with_reducible exact Below.refl _ _ | with_reducible assumption | with_reducible apply Below.drew | with_reducible apply below_drewN | (with_reducible apply below_setp; (first | omega | (simp <;> omega))) | (with_reducible apply below_allocp; (first | omega | (simp <;> omega))) | (with_reducible refine below_viap (by assumption) ?_ ?_; (first | omega | (simp <;> omega)))))
          clear hP6 cP6 fP6 lP6 mP6 nP6 hI6 cI6 fI6 lI6 mI6 nI6 hl6
          go_wp2_with fail
          refine (HA.out _).mono ?_
          rintro e v8 ⟨va, rfl, ha8, hc8⟩
          have hz8 := hc8.size
          (try simp at hz8)
          have hP8 : Blk v8 (v2.heap.size) 35 #[.int .i64 r1, .int .i64 r2, .int .i64 r3] := Blk.call (by (repeat (first | with_reducible assumption | (with_reducible apply Blk.new_at; (first | rfl | (simp; done))) | with_reducible apply Blk.store3 | with_reducible apply Blk.store4 | (with_reducible apply Blk.farp; (first | omega | (simp <;> omega))) | with_reducible apply Blk.allocp | with_reducible apply Blk.drew | with_reducible apply Blk.drewN))) hc8
          have cP8 := hP8.cell; have fP8 := hP8.frozen; have lP8 := hP8.lt; have mP8 := Nat.ne_of_gt lP8; have nP8 := Nat.ne_of_lt lP8
          have hI8 : Blk v8 (v5.heap.size) 35 #[.int .i64 q1, .int .i64 q2, .int .i64 q3] := Blk.call (by (repeat (first | with_reducible assumption | (with_reducible apply Blk.new_at; (first | rfl | (simp; done))) | with_reducible apply Blk.store3 | with_reducible apply Blk.store4 | (with_reducible apply Blk.farp; (first | omega | (simp <;> omega))) | with_reducible apply Blk.allocp | with_reducible apply Blk.drew | with_reducible apply Blk.drewN))) hc8
          have cI8 := hI8.cell; have fI8 := hI8.frozen; have lI8 := hI8.lt; have mI8 := Nat.ne_of_gt lI8; have nI8 := Nat.ne_of_lt lI8
          have hl8 := own_call hc8 hl7
          have hb8 : Below w.heap.size w v8 := (by repeat (first | with_reducible exact Below.refl _ _ | with_reducible assumption | with_reducible apply Below.drew | with_reducible apply below_drewN | (with_reducible apply below_setp; (first | omega | (simp <;> omega))) | (with_reducible apply below_allocp; (first | omega | (simp <;> omega))) | (with_reducible refine below_viap (by assumption) ?_ ?_; (first | omega | (simp <;> omega)))))
          clear hP7 cP7 fP7 lP7 mP7 nP7 hI7 cI7 fI7 lI7 mI7 nI7 hl7
          obtain ⟨ba, ca, rfl⟩ := own_shape ha8
          go_wp2_with fail
          refine (HG.out _).mono ?_
          rintro e v9 ⟨vg, rfl, hg9, hc9⟩
          have hz9 := hc9.size
          (try simp at hz9)
          have hP9 : Blk v9 (v2.heap.size) 35 #[.int .i64 r1, .int .i64 r2, .int .i64 r3] := Blk.call (by (repeat (first | with_reducible assumption | (with_reducible apply Blk.new_at; (first | rfl | (simp; done))) | with_reducible apply Blk.store3 | with_reducible apply Blk.store4 | (with_reducible apply Blk.farp; (first | omega | (simp <;> omega))) | with_reducible apply Blk.allocp | with_reducible apply Blk.drew | with_reducible apply Blk.drewN))) hc9
          have cP9 := hP9.cell; have fP9 := hP9.frozen; have lP9 := hP9.lt; have mP9 := Nat.ne_of_gt lP9; have nP9 := Nat.ne_of_lt lP9
          have hI9 : Blk v9 (v5.heap.size) 35 #[.int .i64 q1, .int .i64 q2, .int .i64 q3] := Blk.call (by (repeat (first | with_reducible assumption | (with_reducible apply Blk.new_at; (first | rfl | (simp; done))) | with_reducible apply Blk.store3 | with_reducible apply Blk.store4 | (with_reducible apply Blk.farp; (first | omega | (simp <;> omega))) | with_reducible apply Blk.allocp | with_reducible apply Blk.drew | with_reducible apply Blk.drewN))) hc9
          have cI9 := hI9.cell; have fI9 := hI9.frozen; have lI9 := hI9.lt; have mI9 := Nat.ne_of_gt lI9; have nI9 := Nat.ne_of_lt lI9
          have hl9 := own_call hc9 hl8
          have ha9 := own_call hc9 ha8
          have hb9 : Below w.heap.size w v9 := (by repeat (first | with_reducible exact Below.refl _ _ | with_reducible assumption | with_reducible apply Below.drew | with_reducible apply below_drewN | (with_reducible apply below_setp; (first | omega | (simp <;> omega))) | (with_reducible apply below_allocp; (first | omega | (simp <;> omega))) | (with_reducible refine below_viap (by assumption) ?_ ?_; (first | omega | (simp <;> omega)))))
          clear hP8 cP8 fP8 lP8 mP8 nP8 hI8 cI8 fI8 lI8 mI8 nI8 hl8 ha8
          go_wp2_with fail
          refine (HF.out _).mono ?_
          rintro e v10 ⟨rfl, hc10⟩
          have hz10 := hc10.size
          (try simp at hz10)
          have hb10 : Below w.heap.size w v10 := (by repeat (first | with_reducible exact Below.refl _ _ | with_reducible assumption | with_reducible apply Below.drew | with_reducible apply below_drewN | (with_reducible apply below_setp; (first | omega | (simp <;> omega))) | (with_reducible apply below_allocp; (first | omega | (simp <;> omega))) | (with_reducible refine below_viap (by assumption) ?_ ?_; (first | omega | (simp <;> omega)))))
          go_wp2_with fail
          refine (HD.out _).mono ?_
          rintro e v11 ⟨rfl, hc11⟩
          have hz11 := hc11.size
          (try simp at hz11)
          have hE11 : Blk v11 (v10.heap.size) 35 #[.int .i64 x, .int .i64 y, .int .i64 z] := Blk.call (by (repeat (first | with_reducible assumption | (with_reducible apply Blk.new_at; (first | rfl | (simp; done))) | with_reducible apply Blk.store3 | with_reducible apply Blk.store4 | (with_reducible apply Blk.farp; (first | omega | (simp <;> omega))) | with_reducible apply Blk.allocp | with_reducible apply Blk.drew | with_reducible apply Blk.drewN))) hc11
          have cE11 := hE11.cell; have fE11 := hE11.frozen; have lE11 := hE11.lt; have mE11 := Nat.ne_of_gt lE11; have nE11 := Nat.ne_of_lt lE11
          have hb11 : Below w.heap.size w v11 := (by repeat (first | with_reducible exact Below.refl _ _ | with_reducible assumption | with_reducible apply Below.drew | with_reducible apply below_drewN | (with_reducible apply below_setp; (first | omega | (simp <;> omega))) | (with_reducible apply below_allocp; (first | omega | (simp <;> omega))) | (with_reducible refine below_viap (by assumption) ?_ ?_; (first | omega | (simp <;> omega)))))
          go_wp2
          go_ret
          exact ⟨rfl, (by repeat (first | with_reducible exact Below.refl _ _ | with_reducible assumption | with_reducible apply Below.drew | with_reducible apply below_drewN | (with_reducible apply below_setp; (first | omega | (simp <;> omega))) | (with_reducible apply below_allocp; (first | omega | (simp <;> omega))) | (with_reducible refine below_viap (by assumption) ?_ ?_; (first | omega | (simp <;> omega)))))⟩
        | true =>
          obtain rfl := hVV.out rfl
          clear hVV
          go_wp2_with fail
          refine (HI.out _).mono ?_
          rintro e v2 ⟨rfl, hc2⟩
          have hz2 := hc2.size
          (try simp at hz2)
          have hb2 : Below w.heap.size w v2 := (by repeat (first | with_reducible exact Below.refl _ _ | with_reducible assumption | with_reducible apply Below.drew | with_reducible apply below_drewN | (with_reducible apply below_setp; (first | omega | (simp <;> omega))) | (with_reducible apply below_allocp; (first | omega | (simp <;> omega))) | (with_reducible refine below_viap (by assumption) ?_ ?_; (first | omega | (simp <;> omega)))))
          go_wp2_with fail
          refine (HS.out _).mono ?_
          rintro e v3 ⟨rfl, hc3⟩
          have hz3 := hc3.size
          (try simp at hz3)
          have hP3 : Blk v3 (v2.heap.size) 35 #[.int .i64 r1, .int .i64 r2, .int .i64 r3] := Blk.call (by (repeat (first | with_reducible assumption | (with_reducible apply Blk.new_at; (first | rfl | (simp; done))) | with_reducible apply Blk.store3 | with_reducible apply Blk.store4 | (with_reducible apply Blk.farp; (first | omega | (simp <;> omega))) | with_reducible apply Blk.allocp | with_reducible apply Blk.drew | with_reducible apply Blk.drewN))) hc3
          have cP3 := hP3.cell; have fP3 := hP3.frozen; have lP3 := hP3.lt; have mP3 := Nat.ne_of_gt lP3; have nP3 := Nat.ne_of_lt lP3
          have hb3 : Below w.heap.size w v3 := (by repeat (first | with_reducible exact Below.refl _ _ | with_reducible assumption | with_reducible apply Below.drew | with_reducible apply below_drewN | (with_reducible apply below_setp; (first | omega | (simp <;> omega))) | (with_reducible apply below_allocp; (first | omega | (simp <;> omega))) | (with_reducible refine below_viap (by assumption) ?_ ?_; (first | omega | (simp <;> omega)))))
          go_wp2_with fail
          refine (HL.out _).mono ?_
          rintro e v4 ⟨vl, rfl, hl4, hc4⟩
          have hz4 := hc4.size
          (try simp at hz4)
          have hP4 : Blk v4 (v2.heap.size) 35 #[.int .i64 r1, .int .i64 r2, .int .i64 r3] := Blk.call (by (repeat (first | with_reducible assumption | (with_reducible apply Blk.new_at; (first | rfl | (simp; done))) | with_reducible apply Blk.store3 | with_reducible apply Blk.store4 | (with_reducible apply Blk.farp; (first | omega | (simp <;> omega))) | with_reducible apply Blk.allocp | with_reducible apply Blk.drew | with_reducible apply Blk.drewN))) hc4
          have cP4 := hP4.cell; have fP4 := hP4.frozen; have lP4 := hP4.lt; have mP4 := Nat.ne_of_gt lP4; have nP4 := Nat.ne_of_lt lP4
          have hQ4 : Blk v4 (v3.heap.size) 35 #[.int .i64 r1, .int .i64 r2, .int .i64 r3] := Blk.call (by (repeat (first | with_reducible assumption | (with_reducible apply Blk.new_at; (first | rfl | (simp; done))) | with_reducible apply Blk.store3 | with_reducible apply Blk.store4 | (with_reducible apply Blk.farp; (first | omega | (simp <;> omega))) | with_reducible apply Blk.allocp | with_reducible apply Blk.drew | with_reducible apply Blk.drewN))) hc4
          have cQ4 := hQ4.cell; have fQ4 := hQ4.frozen; have lQ4 := hQ4.lt; have mQ4 := Nat.ne_of_gt lQ4; have nQ4 := Nat.ne_of_lt lQ4
          have hb4 : Below w.heap.size w v4 := (by repeat (first | with_reducible exact Below.refl _ _ | with_reducible assumption | with_reducible apply Below.drew | with_reducible apply below_drewN | (with_reducible apply below_setp; (first | omega | (simp <;> omega))) | (with_reducible apply below_allocp; (first | omega | (simp <;> omega))) | (with_reducible refine below_viap (by assumption) ?_ ?_; (first | omega | (simp <;> omega)))))
          clear hP3 cP3 fP3 lP3 mP3 nP3
          obtain ⟨bl, cl, rfl⟩ := own_shape hl4
          rw [hN] at hl4 ⊢
          clear hN
          go_wp2_with fail
          refine (HV.out _).mono ?_
          rintro e v5 ⟨rfl, hc5⟩
          have hz5 := hc5.size
          (try simp at hz5)
          have hP5 : Blk v5 (v2.heap.size) 35 #[.int .i64 r1, .int .i64 r2, .int .i64 r3] := Blk.call (by (repeat (first | with_reducible assumption | (with_reducible apply Blk.new_at; (first | rfl | (simp; done))) | with_reducible apply Blk.store3 | with_reducible apply Blk.store4 | (with_reducible apply Blk.farp; (first | omega | (simp <;> omega))) | with_reducible apply Blk.allocp | with_reducible apply Blk.drew | with_reducible apply Blk.drewN))) hc5
          have cP5 := hP5.cell; have fP5 := hP5.frozen; have lP5 := hP5.lt; have mP5 := Nat.ne_of_gt lP5; have nP5 := Nat.ne_of_lt lP5
          have hl5 := own_call hc5 hl4
          have hb5 : Below w.heap.size w v5 := (by repeat (first | with_reducible exact Below.refl _ _ | with_reducible assumption | with_reducible apply Below.drew | with_reducible apply below_drewN | (with_reducible apply below_setp; (first | omega | (simp <;> omega))) | (with_reducible apply below_allocp; (first | omega | (simp <;> omega))) | (with_reducible refine below_viap (by assumption) ?_ ?_; (first | omega | (simp <;> omega)))))
          clear hP4 cP4 fP4 lP4 mP4 nP4 hl4
          go_wp2_with fail
          refine (pHas_yes _ _ R ⟨r1, r2, r3⟩ _ (by rw [HN.out]; omega) (by rw [HN.out]; first | exact hl5 | (have := hl5; exact (by repeat (first | with_reducible assumption | with_reducible apply own_alloc | with_reducible apply own_drew | with_reducible apply own_drewN | (with_reducible refine own_setp (by assumption) ?_ ?_; (first | omega | (simp <;> omega))) | (with_reducible refine own_call (by assumption) ?_))))) HL1.out).mono ?_
          rintro e v6 ⟨rfl, hc6⟩
          have hz6 := hc6.size
          (try simp at hz6)
          have hP6 : Blk v6 (v2.heap.size) 35 #[.int .i64 r1, .int .i64 r2, .int .i64 r3] := Blk.call (by (repeat (first | with_reducible assumption | (with_reducible apply Blk.new_at; (first | rfl | (simp; done))) | with_reducible apply Blk.store3 | with_reducible apply Blk.store4 | (with_reducible apply Blk.farp; (first | omega | (simp <;> omega))) | with_reducible apply Blk.allocp | with_reducible apply Blk.drew | with_reducible apply Blk.drewN))) hc6
          have cP6 := hP6.cell; have fP6 := hP6.frozen; have lP6 := hP6.lt; have mP6 := Nat.ne_of_gt lP6; have nP6 := Nat.ne_of_lt lP6
          have hI6 : Blk v6 (v5.heap.size) 35 #[.int .i64 q1, .int .i64 q2, .int .i64 q3] := Blk.call (by (repeat (first | with_reducible assumption | (with_reducible apply Blk.new_at; (first | rfl | (simp; done))) | with_reducible apply Blk.store3 | with_reducible apply Blk.store4 | (with_reducible apply Blk.farp; (first | omega | (simp <;> omega))) | with_reducible apply Blk.allocp | with_reducible apply Blk.drew | with_reducible apply Blk.drewN))) hc6
          have cI6 := hI6.cell; have fI6 := hI6.frozen; have lI6 := hI6.lt; have mI6 := Nat.ne_of_gt lI6; have nI6 := Nat.ne_of_lt lI6
          have hl6 := own_call hc6 (by have := hl5; exact (by repeat (first | with_reducible assumption | with_reducible apply own_alloc | with_reducible apply own_drew | with_reducible apply own_drewN | (with_reducible refine own_setp (by assumption) ?_ ?_; (first | omega | (simp <;> omega))) | (with_reducible refine own_call (by assumption) ?_))))
          have hb6 : Below w.heap.size w v6 := (by repeat (first | with_reducible exact Below.refl _ _ | with_reducible assumption | with_reducible apply Below.drew | with_reducible apply below_drewN | (with_reducible apply below_setp; (first | omega | (simp <;> omega))) | (with_reducible apply below_allocp; (first | omega | (simp <;> omega))) | (with_reducible refine below_viap (by assumption) ?_ ?_; (first | omega | (simp <;> omega)))))
          clear hP5 cP5 fP5 lP5 mP5 nP5 hl5
          go_wp2_with fail
          refine (pHas_yes _ _ R ⟨q1, q2, q3⟩ _ (by rw [HN.out]; omega) (by rw [HN.out]; first | exact hl6 | (have := hl6; exact (by repeat (first | with_reducible assumption | with_reducible apply own_alloc | with_reducible apply own_drew | with_reducible apply own_drewN | (with_reducible refine own_setp (by assumption) ?_ ?_; (first | omega | (simp <;> omega))) | (with_reducible refine own_call (by assumption) ?_))))) HL2.out).mono ?_
          rintro e v7 ⟨rfl, hc7⟩
          have hz7 := hc7.size
          (try simp at hz7)
          have hP7 : Blk v7 (v2.heap.size) 35 #[.int .i64 r1, .int .i64 r2, .int .i64 r3] := Blk.call (by (repeat (first | with_reducible assumption | (with_reducible apply Blk.new_at; (first | rfl | (simp; done))) | with_reducible apply Blk.store3 | with_reducible apply Blk.store4 | (with_reducible apply Blk.farp; (first | omega | (simp <;> omega))) | with_reducible apply Blk.allocp | with_reducible apply Blk.drew | with_reducible apply Blk.drewN))) hc7
          have cP7 := hP7.cell; have fP7 := hP7.frozen; have lP7 := hP7.lt; have mP7 := Nat.ne_of_gt lP7; have nP7 := Nat.ne_of_lt lP7
          have hI7 : Blk v7 (v5.heap.size) 35 #[.int .i64 q1, .int .i64 q2, .int .i64 q3] := Blk.call (by (repeat (first | with_reducible assumption | (with_reducible apply Blk.new_at; (first | rfl | (simp; done))) | with_reducible apply Blk.store3 | with_reducible apply Blk.store4 | (with_reducible apply Blk.farp; (first | omega | (simp <;> omega))) | with_reducible apply Blk.allocp | with_reducible apply Blk.drew | with_reducible apply Blk.drewN))) hc7
          have cI7 := hI7.cell; have fI7 := hI7.frozen; have lI7 := hI7.lt; have mI7 := Nat.ne_of_gt lI7; have nI7 := Nat.ne_of_lt lI7
          have hl7 := own_call hc7 hl6
          have hb7 : Below w.heap.size w v7 := (by repeat (first | with_reducible exact Below.refl _ _ | with_reducible assumption | with_reducible apply Below.drew | with_reducible apply below_drewN | (with_reducible apply below_setp; (first | omega | (simp <;> omega))) | (with_reducible apply below_allocp; (first | omega | (simp <;> omega))) | (with_reducible refine below_viap (by assumption) ?_ ?_; (first | omega | (simp <;> omega)))))
          clear hP6 cP6 fP6 lP6 mP6 nP6 hI6 cI6 fI6 lI6 mI6 nI6 hl6
          go_wp2_with fail
          refine (HA.out _).mono ?_
          rintro e v8 ⟨va, rfl, ha8, hc8⟩
          have hz8 := hc8.size
          (try simp at hz8)
          have hP8 : Blk v8 (v2.heap.size) 35 #[.int .i64 r1, .int .i64 r2, .int .i64 r3] := Blk.call (by (repeat (first | with_reducible assumption | (with_reducible apply Blk.new_at; (first | rfl | (simp; done))) | with_reducible apply Blk.store3 | with_reducible apply Blk.store4 | (with_reducible apply Blk.farp; (first | omega | (simp <;> omega))) | with_reducible apply Blk.allocp | with_reducible apply Blk.drew | with_reducible apply Blk.drewN))) hc8
          have cP8 := hP8.cell; have fP8 := hP8.frozen; have lP8 := hP8.lt; have mP8 := Nat.ne_of_gt lP8; have nP8 := Nat.ne_of_lt lP8
          have hI8 : Blk v8 (v5.heap.size) 35 #[.int .i64 q1, .int .i64 q2, .int .i64 q3] := Blk.call (by (repeat (first | with_reducible assumption | (with_reducible apply Blk.new_at; (first | rfl | (simp; done))) | with_reducible apply Blk.store3 | with_reducible apply Blk.store4 | (with_reducible apply Blk.farp; (first | omega | (simp <;> omega))) | with_reducible apply Blk.allocp | with_reducible apply Blk.drew | with_reducible apply Blk.drewN))) hc8
          have cI8 := hI8.cell; have fI8 := hI8.frozen; have lI8 := hI8.lt; have mI8 := Nat.ne_of_gt lI8; have nI8 := Nat.ne_of_lt lI8
          have hl8 := own_call hc8 hl7
          have hb8 : Below w.heap.size w v8 := (by repeat (first | with_reducible exact Below.refl _ _ | with_reducible assumption | with_reducible apply Below.drew | with_reducible apply below_drewN | (with_reducible apply below_setp; (first | omega | (simp <;> omega))) | (with_reducible apply below_allocp; (first | omega | (simp <;> omega))) | (with_reducible refine below_viap (by assumption) ?_ ?_; (first | omega | (simp <;> omega)))))
          clear hP7 cP7 fP7 lP7 mP7 nP7 hI7 cI7 fI7 lI7 mI7 nI7 hl7
          obtain ⟨ba, ca, rfl⟩ := own_shape ha8
          go_wp2_with fail
          refine (HG.out _).mono ?_
          rintro e v9 ⟨vg, rfl, hg9, hc9⟩
          have hz9 := hc9.size
          (try simp at hz9)
          have hP9 : Blk v9 (v2.heap.size) 35 #[.int .i64 r1, .int .i64 r2, .int .i64 r3] := Blk.call (by (repeat (first | with_reducible assumption | (with_reducible apply Blk.new_at; (first | rfl | (simp; done))) | with_reducible apply Blk.store3 | with_reducible apply Blk.store4 | (with_reducible apply Blk.farp; (first | omega | (simp <;> omega))) | with_reducible apply Blk.allocp | with_reducible apply Blk.drew | with_reducible apply Blk.drewN))) hc9
          have cP9 := hP9.cell; have fP9 := hP9.frozen; have lP9 := hP9.lt; have mP9 := Nat.ne_of_gt lP9; have nP9 := Nat.ne_of_lt lP9
          have hI9 : Blk v9 (v5.heap.size) 35 #[.int .i64 q1, .int .i64 q2, .int .i64 q3] := Blk.call (by (repeat (first | with_reducible assumption | (with_reducible apply Blk.new_at; (first | rfl | (simp; done))) | with_reducible apply Blk.store3 | with_reducible apply Blk.store4 | (with_reducible apply Blk.farp; (first | omega | (simp <;> omega))) | with_reducible apply Blk.allocp | with_reducible apply Blk.drew | with_reducible apply Blk.drewN))) hc9
          have cI9 := hI9.cell; have fI9 := hI9.frozen; have lI9 := hI9.lt; have mI9 := Nat.ne_of_gt lI9; have nI9 := Nat.ne_of_lt lI9
          have hl9 := own_call hc9 hl8
          have ha9 := own_call hc9 ha8
          have hb9 : Below w.heap.size w v9 := (by repeat (first | with_reducible exact Below.refl _ _ | with_reducible assumption | with_reducible apply Below.drew | with_reducible apply below_drewN | (with_reducible apply below_setp; (first | omega | (simp <;> omega))) | (with_reducible apply below_allocp; (first | omega | (simp <;> omega))) | (with_reducible refine below_viap (by assumption) ?_ ?_; (first | omega | (simp <;> omega)))))
          clear hP8 cP8 fP8 lP8 mP8 nP8 hI8 cI8 fI8 lI8 mI8 nI8 hl8 ha8
          go_wp2_with fail
          refine (sameInts_same _ vg _ _ V _ (by first | omega | (simp <;> omega)) ha9 hg9).mono ?_
          rintro e v10 ⟨rfl, hc10⟩
          have hz10 := hc10.size
          (try simp at hz10)
          have hP10 : Blk v10 (v2.heap.size) 35 #[.int .i64 r1, .int .i64 r2, .int .i64 r3] := Blk.call (by (repeat (first | with_reducible assumption | (with_reducible apply Blk.new_at; (first | rfl | (simp; done))) | with_reducible apply Blk.store3 | with_reducible apply Blk.store4 | (with_reducible apply Blk.farp; (first | omega | (simp <;> omega))) | with_reducible apply Blk.allocp | with_reducible apply Blk.drew | with_reducible apply Blk.drewN))) hc10
          have cP10 := hP10.cell; have fP10 := hP10.frozen; have lP10 := hP10.lt; have mP10 := Nat.ne_of_gt lP10; have nP10 := Nat.ne_of_lt lP10
          have hI10 : Blk v10 (v5.heap.size) 35 #[.int .i64 q1, .int .i64 q2, .int .i64 q3] := Blk.call (by (repeat (first | with_reducible assumption | (with_reducible apply Blk.new_at; (first | rfl | (simp; done))) | with_reducible apply Blk.store3 | with_reducible apply Blk.store4 | (with_reducible apply Blk.farp; (first | omega | (simp <;> omega))) | with_reducible apply Blk.allocp | with_reducible apply Blk.drew | with_reducible apply Blk.drewN))) hc10
          have cI10 := hI10.cell; have fI10 := hI10.frozen; have lI10 := hI10.lt; have mI10 := Nat.ne_of_gt lI10; have nI10 := Nat.ne_of_lt lI10
          have hl10 := own_call hc10 hl9
          have ha10 := own_call hc10 ha9
          have hg10 := own_call hc10 hg9
          have hb10 : Below w.heap.size w v10 := (by repeat (first | with_reducible exact Below.refl _ _ | with_reducible assumption | with_reducible apply Below.drew | with_reducible apply below_drewN | (with_reducible apply below_setp; (first | omega | (simp <;> omega))) | (with_reducible apply below_allocp; (first | omega | (simp <;> omega))) | (with_reducible refine below_viap (by assumption) ?_ ?_; (first | omega | (simp <;> omega)))))
          clear hP9 cP9 fP9 lP9 mP9 nP9 hI9 cI9 fI9 lI9 mI9 nI9 hl9 ha9 hg9
          go_wp2_with fail
          refine (HF.out _).mono ?_
          rintro e v11 ⟨rfl, hc11⟩
          have hz11 := hc11.size
          (try simp at hz11)
          have hb11 : Below w.heap.size w v11 := (by repeat (first | with_reducible exact Below.refl _ _ | with_reducible assumption | with_reducible apply Below.drew | with_reducible apply below_drewN | (with_reducible apply below_setp; (first | omega | (simp <;> omega))) | (with_reducible apply below_allocp; (first | omega | (simp <;> omega))) | (with_reducible refine below_viap (by assumption) ?_ ?_; (first | omega | (simp <;> omega)))))
          go_wp2_with fail
          refine (HD.out _).mono ?_
          rintro e v12 ⟨rfl, hc12⟩
          have hz12 := hc12.size
          (try simp at hz12)
          have hE12 : Blk v12 (v11.heap.size) 35 #[.int .i64 x, .int .i64 y, .int .i64 z] := Blk.call (by (repeat (first | with_reducible assumption | (with_reducible apply Blk.new_at; (first | rfl | (simp; done))) | with_reducible apply Blk.store3 | with_reducible apply Blk.store4 | (with_reducible apply Blk.farp; (first | omega | (simp <;> omega))) | with_reducible apply Blk.allocp | with_reducible apply Blk.drew | with_reducible apply Blk.drewN))) hc12
          have cE12 := hE12.cell; have fE12 := hE12.frozen; have lE12 := hE12.lt; have mE12 := Nat.ne_of_gt lE12; have nE12 := Nat.ne_of_lt lE12
          have hb12 : Below w.heap.size w v12 := (by repeat (first | with_reducible exact Below.refl _ _ | with_reducible assumption | with_reducible apply Below.drew | with_reducible apply below_drewN | (with_reducible apply below_setp; (first | omega | (simp <;> omega))) | (with_reducible apply below_allocp; (first | omega | (simp <;> omega))) | (with_reducible refine below_viap (by assumption) ?_ ?_; (first | omega | (simp <;> omega)))))
          go_wp2
          go_ret
          exact ⟨rfl, (by repeat (first | with_reducible exact Below.refl _ _ | with_reducible assumption | with_reducible apply Below.drew | with_reducible apply below_drewN | (with_reducible apply below_setp; (first | omega | (simp <;> omega))) | (with_reducible apply below_allocp; (first | omega | (simp <;> omega))) | (with_reducible refine below_viap (by assumption) ?_ ?_; (first | omega | (simp <;> omega)))))⟩
      · clear Hl1
        cases ok with
        | false =>
          clear hVV
          go_wp2_with fail
          refine (HI.out _).mono ?_
          rintro e v2 ⟨rfl, hc2⟩
          have hz2 := hc2.size
          (try simp at hz2)
          have hb2 : Below w.heap.size w v2 := (by repeat (first | with_reducible exact Below.refl _ _ | with_reducible assumption | with_reducible apply Below.drew | with_reducible apply below_drewN | (with_reducible apply below_setp; (first | omega | (simp <;> omega))) | (with_reducible apply below_allocp; (first | omega | (simp <;> omega))) | (with_reducible refine below_viap (by assumption) ?_ ?_; (first | omega | (simp <;> omega)))))
          go_wp2_with fail
          refine (HS.out _).mono ?_
          rintro e v3 ⟨rfl, hc3⟩
          have hz3 := hc3.size
          (try simp at hz3)
          have hP3 : Blk v3 (v2.heap.size) 35 #[.int .i64 r1, .int .i64 r2, .int .i64 r3] := Blk.call (by (repeat (first | with_reducible assumption | (with_reducible apply Blk.new_at; (first | rfl | (simp; done))) | with_reducible apply Blk.store3 | with_reducible apply Blk.store4 | (with_reducible apply Blk.farp; (first | omega | (simp <;> omega))) | with_reducible apply Blk.allocp | with_reducible apply Blk.drew | with_reducible apply Blk.drewN))) hc3
          have cP3 := hP3.cell; have fP3 := hP3.frozen; have lP3 := hP3.lt; have mP3 := Nat.ne_of_gt lP3; have nP3 := Nat.ne_of_lt lP3
          have hb3 : Below w.heap.size w v3 := (by repeat (first | with_reducible exact Below.refl _ _ | with_reducible assumption | with_reducible apply Below.drew | with_reducible apply below_drewN | (with_reducible apply below_setp; (first | omega | (simp <;> omega))) | (with_reducible apply below_allocp; (first | omega | (simp <;> omega))) | (with_reducible refine below_viap (by assumption) ?_ ?_; (first | omega | (simp <;> omega)))))
          go_wp2_with fail
          refine (HL.out _).mono ?_
          rintro e v4 ⟨vl, rfl, hl4, hc4⟩
          have hz4 := hc4.size
          (try simp at hz4)
          have hP4 : Blk v4 (v2.heap.size) 35 #[.int .i64 r1, .int .i64 r2, .int .i64 r3] := Blk.call (by (repeat (first | with_reducible assumption | (with_reducible apply Blk.new_at; (first | rfl | (simp; done))) | with_reducible apply Blk.store3 | with_reducible apply Blk.store4 | (with_reducible apply Blk.farp; (first | omega | (simp <;> omega))) | with_reducible apply Blk.allocp | with_reducible apply Blk.drew | with_reducible apply Blk.drewN))) hc4
          have cP4 := hP4.cell; have fP4 := hP4.frozen; have lP4 := hP4.lt; have mP4 := Nat.ne_of_gt lP4; have nP4 := Nat.ne_of_lt lP4
          have hQ4 : Blk v4 (v3.heap.size) 35 #[.int .i64 r1, .int .i64 r2, .int .i64 r3] := Blk.call (by (repeat (first | with_reducible assumption | (with_reducible apply Blk.new_at; (first | rfl | (simp; done))) | with_reducible apply Blk.store3 | with_reducible apply Blk.store4 | (with_reducible apply Blk.farp; (first | omega | (simp <;> omega))) | with_reducible apply Blk.allocp | with_reducible apply Blk.drew | with_reducible apply Blk.drewN))) hc4
          have cQ4 := hQ4.cell; have fQ4 := hQ4.frozen; have lQ4 := hQ4.lt; have mQ4 := Nat.ne_of_gt lQ4; have nQ4 := Nat.ne_of_lt lQ4
          have hb4 : Below w.heap.size w v4 := (by repeat (first | with_reducible exact Below.refl _ _ | with_reducible assumption | with_reducible apply Below.drew | with_reducible apply below_drewN | (with_reducible apply below_setp; (first | omega | (simp <;> omega))) | (with_reducible apply below_allocp; (first | omega | (simp <;> omega))) | (with_reducible refine below_viap (by assumption) ?_ ?_; (first | omega | (simp <;> omega)))))
          clear hP3 cP3 fP3 lP3 mP3 nP3
          obtain ⟨bl, cl, rfl⟩ := own_shape hl4
          rw [hN] at hl4 ⊢
          clear hN
          go_wp2_with fail
          refine (HV.out _).mono ?_
          rintro e v5 ⟨rfl, hc5⟩
          have hz5 := hc5.size
          (try simp at hz5)
          have hP5 : Blk v5 (v2.heap.size) 35 #[.int .i64 r1, .int .i64 r2, .int .i64 r3] := Blk.call (by (repeat (first | with_reducible assumption | (with_reducible apply Blk.new_at; (first | rfl | (simp; done))) | with_reducible apply Blk.store3 | with_reducible apply Blk.store4 | (with_reducible apply Blk.farp; (first | omega | (simp <;> omega))) | with_reducible apply Blk.allocp | with_reducible apply Blk.drew | with_reducible apply Blk.drewN))) hc5
          have cP5 := hP5.cell; have fP5 := hP5.frozen; have lP5 := hP5.lt; have mP5 := Nat.ne_of_gt lP5; have nP5 := Nat.ne_of_lt lP5
          have hl5 := own_call hc5 hl4
          have hb5 : Below w.heap.size w v5 := (by repeat (first | with_reducible exact Below.refl _ _ | with_reducible assumption | with_reducible apply Below.drew | with_reducible apply below_drewN | (with_reducible apply below_setp; (first | omega | (simp <;> omega))) | (with_reducible apply below_allocp; (first | omega | (simp <;> omega))) | (with_reducible refine below_viap (by assumption) ?_ ?_; (first | omega | (simp <;> omega)))))
          clear hP4 cP4 fP4 lP4 mP4 nP4 hl4
          go_wp2_with fail
          refine (pHas_yes _ _ R ⟨r1, r2, r3⟩ _ (by rw [HN.out]; omega) (by rw [HN.out]; first | exact hl5 | (have := hl5; exact (by repeat (first | with_reducible assumption | with_reducible apply own_alloc | with_reducible apply own_drew | with_reducible apply own_drewN | (with_reducible refine own_setp (by assumption) ?_ ?_; (first | omega | (simp <;> omega))) | (with_reducible refine own_call (by assumption) ?_))))) HL1.out).mono ?_
          rintro e v6 ⟨rfl, hc6⟩
          have hz6 := hc6.size
          (try simp at hz6)
          have hP6 : Blk v6 (v2.heap.size) 35 #[.int .i64 r1, .int .i64 r2, .int .i64 r3] := Blk.call (by (repeat (first | with_reducible assumption | (with_reducible apply Blk.new_at; (first | rfl | (simp; done))) | with_reducible apply Blk.store3 | with_reducible apply Blk.store4 | (with_reducible apply Blk.farp; (first | omega | (simp <;> omega))) | with_reducible apply Blk.allocp | with_reducible apply Blk.drew | with_reducible apply Blk.drewN))) hc6
          have cP6 := hP6.cell; have fP6 := hP6.frozen; have lP6 := hP6.lt; have mP6 := Nat.ne_of_gt lP6; have nP6 := Nat.ne_of_lt lP6
          have hI6 : Blk v6 (v5.heap.size) 35 #[.int .i64 r1, .int .i64 q2, .int .i64 q3] := Blk.call (by (repeat (first | with_reducible assumption | (with_reducible apply Blk.new_at; (first | rfl | (simp; done))) | with_reducible apply Blk.store3 | with_reducible apply Blk.store4 | (with_reducible apply Blk.farp; (first | omega | (simp <;> omega))) | with_reducible apply Blk.allocp | with_reducible apply Blk.drew | with_reducible apply Blk.drewN))) hc6
          have cI6 := hI6.cell; have fI6 := hI6.frozen; have lI6 := hI6.lt; have mI6 := Nat.ne_of_gt lI6; have nI6 := Nat.ne_of_lt lI6
          have hl6 := own_call hc6 (by have := hl5; exact (by repeat (first | with_reducible assumption | with_reducible apply own_alloc | with_reducible apply own_drew | with_reducible apply own_drewN | (with_reducible refine own_setp (by assumption) ?_ ?_; (first | omega | (simp <;> omega))) | (with_reducible refine own_call (by assumption) ?_))))
          have hb6 : Below w.heap.size w v6 := (by repeat (first | with_reducible exact Below.refl _ _ | with_reducible assumption | with_reducible apply Below.drew | with_reducible apply below_drewN | (with_reducible apply below_setp; (first | omega | (simp <;> omega))) | (with_reducible apply below_allocp; (first | omega | (simp <;> omega))) | (with_reducible refine below_viap (by assumption) ?_ ?_; (first | omega | (simp <;> omega)))))
          clear hP5 cP5 fP5 lP5 mP5 nP5 hl5
          go_wp2_with fail
          refine (pHas_yes _ _ R ⟨r1, q2, q3⟩ _ (by rw [HN.out]; omega) (by rw [HN.out]; first | exact hl6 | (have := hl6; exact (by repeat (first | with_reducible assumption | with_reducible apply own_alloc | with_reducible apply own_drew | with_reducible apply own_drewN | (with_reducible refine own_setp (by assumption) ?_ ?_; (first | omega | (simp <;> omega))) | (with_reducible refine own_call (by assumption) ?_))))) HL2.out).mono ?_
          rintro e v7 ⟨rfl, hc7⟩
          have hz7 := hc7.size
          (try simp at hz7)
          have hP7 : Blk v7 (v2.heap.size) 35 #[.int .i64 r1, .int .i64 r2, .int .i64 r3] := Blk.call (by (repeat (first | with_reducible assumption | (with_reducible apply Blk.new_at; (first | rfl | (simp; done))) | with_reducible apply Blk.store3 | with_reducible apply Blk.store4 | (with_reducible apply Blk.farp; (first | omega | (simp <;> omega))) | with_reducible apply Blk.allocp | with_reducible apply Blk.drew | with_reducible apply Blk.drewN))) hc7
          have cP7 := hP7.cell; have fP7 := hP7.frozen; have lP7 := hP7.lt; have mP7 := Nat.ne_of_gt lP7; have nP7 := Nat.ne_of_lt lP7
          have hI7 : Blk v7 (v5.heap.size) 35 #[.int .i64 r1, .int .i64 q2, .int .i64 q3] := Blk.call (by (repeat (first | with_reducible assumption | (with_reducible apply Blk.new_at; (first | rfl | (simp; done))) | with_reducible apply Blk.store3 | with_reducible apply Blk.store4 | (with_reducible apply Blk.farp; (first | omega | (simp <;> omega))) | with_reducible apply Blk.allocp | with_reducible apply Blk.drew | with_reducible apply Blk.drewN))) hc7
          have cI7 := hI7.cell; have fI7 := hI7.frozen; have lI7 := hI7.lt; have mI7 := Nat.ne_of_gt lI7; have nI7 := Nat.ne_of_lt lI7
          have hl7 := own_call hc7 hl6
          have hb7 : Below w.heap.size w v7 := (by repeat (first | with_reducible exact Below.refl _ _ | with_reducible assumption | with_reducible apply Below.drew | with_reducible apply below_drewN | (with_reducible apply below_setp; (first | omega | (simp <;> omega))) | (with_reducible apply below_allocp; (first | omega | (simp <;> omega))) | (with_reducible refine below_viap (by assumption) ?_ ?_; (first | omega | (simp <;> omega)))))
          clear hP6 cP6 fP6 lP6 mP6 nP6 hI6 cI6 fI6 lI6 mI6 nI6 hl6
          go_wp2_with fail
          refine (HA.out _).mono ?_
          rintro e v8 ⟨va, rfl, ha8, hc8⟩
          have hz8 := hc8.size
          (try simp at hz8)
          have hP8 : Blk v8 (v2.heap.size) 35 #[.int .i64 r1, .int .i64 r2, .int .i64 r3] := Blk.call (by (repeat (first | with_reducible assumption | (with_reducible apply Blk.new_at; (first | rfl | (simp; done))) | with_reducible apply Blk.store3 | with_reducible apply Blk.store4 | (with_reducible apply Blk.farp; (first | omega | (simp <;> omega))) | with_reducible apply Blk.allocp | with_reducible apply Blk.drew | with_reducible apply Blk.drewN))) hc8
          have cP8 := hP8.cell; have fP8 := hP8.frozen; have lP8 := hP8.lt; have mP8 := Nat.ne_of_gt lP8; have nP8 := Nat.ne_of_lt lP8
          have hI8 : Blk v8 (v5.heap.size) 35 #[.int .i64 r1, .int .i64 q2, .int .i64 q3] := Blk.call (by (repeat (first | with_reducible assumption | (with_reducible apply Blk.new_at; (first | rfl | (simp; done))) | with_reducible apply Blk.store3 | with_reducible apply Blk.store4 | (with_reducible apply Blk.farp; (first | omega | (simp <;> omega))) | with_reducible apply Blk.allocp | with_reducible apply Blk.drew | with_reducible apply Blk.drewN))) hc8
          have cI8 := hI8.cell; have fI8 := hI8.frozen; have lI8 := hI8.lt; have mI8 := Nat.ne_of_gt lI8; have nI8 := Nat.ne_of_lt lI8
          have hl8 := own_call hc8 hl7
          have hb8 : Below w.heap.size w v8 := (by repeat (first | with_reducible exact Below.refl _ _ | with_reducible assumption | with_reducible apply Below.drew | with_reducible apply below_drewN | (with_reducible apply below_setp; (first | omega | (simp <;> omega))) | (with_reducible apply below_allocp; (first | omega | (simp <;> omega))) | (with_reducible refine below_viap (by assumption) ?_ ?_; (first | omega | (simp <;> omega)))))
          clear hP7 cP7 fP7 lP7 mP7 nP7 hI7 cI7 fI7 lI7 mI7 nI7 hl7
          obtain ⟨ba, ca, rfl⟩ := own_shape ha8
          go_wp2_with fail
          refine (HG.out _).mono ?_
          rintro e v9 ⟨vg, rfl, hg9, hc9⟩
          have hz9 := hc9.size
          (try simp at hz9)
          have hP9 : Blk v9 (v2.heap.size) 35 #[.int .i64 r1, .int .i64 r2, .int .i64 r3] := Blk.call (by (repeat (first | with_reducible assumption | (with_reducible apply Blk.new_at; (first | rfl | (simp; done))) | with_reducible apply Blk.store3 | with_reducible apply Blk.store4 | (with_reducible apply Blk.farp; (first | omega | (simp <;> omega))) | with_reducible apply Blk.allocp | with_reducible apply Blk.drew | with_reducible apply Blk.drewN))) hc9
          have cP9 := hP9.cell; have fP9 := hP9.frozen; have lP9 := hP9.lt; have mP9 := Nat.ne_of_gt lP9; have nP9 := Nat.ne_of_lt lP9
          have hI9 : Blk v9 (v5.heap.size) 35 #[.int .i64 r1, .int .i64 q2, .int .i64 q3] := Blk.call (by (repeat (first | with_reducible assumption | (with_reducible apply Blk.new_at; (first | rfl | (simp; done))) | with_reducible apply Blk.store3 | with_reducible apply Blk.store4 | (with_reducible apply Blk.farp; (first | omega | (simp <;> omega))) | with_reducible apply Blk.allocp | with_reducible apply Blk.drew | with_reducible apply Blk.drewN))) hc9
          have cI9 := hI9.cell; have fI9 := hI9.frozen; have lI9 := hI9.lt; have mI9 := Nat.ne_of_gt lI9; have nI9 := Nat.ne_of_lt lI9
          have hl9 := own_call hc9 hl8
          have ha9 := own_call hc9 ha8
          have hb9 : Below w.heap.size w v9 := (by repeat (first | with_reducible exact Below.refl _ _ | with_reducible assumption | with_reducible apply Below.drew | with_reducible apply below_drewN | (with_reducible apply below_setp; (first | omega | (simp <;> omega))) | (with_reducible apply below_allocp; (first | omega | (simp <;> omega))) | (with_reducible refine below_viap (by assumption) ?_ ?_; (first | omega | (simp <;> omega)))))
          clear hP8 cP8 fP8 lP8 mP8 nP8 hI8 cI8 fI8 lI8 mI8 nI8 hl8 ha8
          go_wp2_with fail
          refine (HF.out _).mono ?_
          rintro e v10 ⟨rfl, hc10⟩
          have hz10 := hc10.size
          (try simp at hz10)
          have hb10 : Below w.heap.size w v10 := (by repeat (first | with_reducible exact Below.refl _ _ | with_reducible assumption | with_reducible apply Below.drew | with_reducible apply below_drewN | (with_reducible apply below_setp; (first | omega | (simp <;> omega))) | (with_reducible apply below_allocp; (first | omega | (simp <;> omega))) | (with_reducible refine below_viap (by assumption) ?_ ?_; (first | omega | (simp <;> omega)))))
          go_wp2_with fail
          refine (HD.out _).mono ?_
          rintro e v11 ⟨rfl, hc11⟩
          have hz11 := hc11.size
          (try simp at hz11)
          have hE11 : Blk v11 (v10.heap.size) 35 #[.int .i64 x, .int .i64 y, .int .i64 z] := Blk.call (by (repeat (first | with_reducible assumption | (with_reducible apply Blk.new_at; (first | rfl | (simp; done))) | with_reducible apply Blk.store3 | with_reducible apply Blk.store4 | (with_reducible apply Blk.farp; (first | omega | (simp <;> omega))) | with_reducible apply Blk.allocp | with_reducible apply Blk.drew | with_reducible apply Blk.drewN))) hc11
          have cE11 := hE11.cell; have fE11 := hE11.frozen; have lE11 := hE11.lt; have mE11 := Nat.ne_of_gt lE11; have nE11 := Nat.ne_of_lt lE11
          have hb11 : Below w.heap.size w v11 := (by repeat (first | with_reducible exact Below.refl _ _ | with_reducible assumption | with_reducible apply Below.drew | with_reducible apply below_drewN | (with_reducible apply below_setp; (first | omega | (simp <;> omega))) | (with_reducible apply below_allocp; (first | omega | (simp <;> omega))) | (with_reducible refine below_viap (by assumption) ?_ ?_; (first | omega | (simp <;> omega)))))
          go_wp2
          go_ret
          exact ⟨rfl, (by repeat (first | with_reducible exact Below.refl _ _ | with_reducible assumption | with_reducible apply Below.drew | with_reducible apply below_drewN | (with_reducible apply below_setp; (first | omega | (simp <;> omega))) | (with_reducible apply below_allocp; (first | omega | (simp <;> omega))) | (with_reducible refine below_viap (by assumption) ?_ ?_; (first | omega | (simp <;> omega)))))⟩
        | true =>
          obtain rfl := hVV.out rfl
          clear hVV
          go_wp2_with fail
          refine (HI.out _).mono ?_
          rintro e v2 ⟨rfl, hc2⟩
          have hz2 := hc2.size
          (try simp at hz2)
          have hb2 : Below w.heap.size w v2 := (by repeat (first | with_reducible exact Below.refl _ _ | with_reducible assumption | with_reducible apply Below.drew | with_reducible apply below_drewN | (with_reducible apply below_setp; (first | omega | (simp <;> omega))) | (with_reducible apply below_allocp; (first | omega | (simp <;> omega))) | (with_reducible refine below_viap (by assumption) ?_ ?_; (first | omega | (simp <;> omega)))))
          go_wp2_with fail
          refine (HS.out _).mono ?_
          rintro e v3 ⟨rfl, hc3⟩
          have hz3 := hc3.size
          (try simp at hz3)
          have hP3 : Blk v3 (v2.heap.size) 35 #[.int .i64 r1, .int .i64 r2, .int .i64 r3] := Blk.call (by (repeat (first | with_reducible assumption | (with_reducible apply Blk.new_at; (first | rfl | (simp; done))) | with_reducible apply Blk.store3 | with_reducible apply Blk.store4 | (with_reducible apply Blk.farp; (first | omega | (simp <;> omega))) | with_reducible apply Blk.allocp | with_reducible apply Blk.drew | with_reducible apply Blk.drewN))) hc3
          have cP3 := hP3.cell; have fP3 := hP3.frozen; have lP3 := hP3.lt; have mP3 := Nat.ne_of_gt lP3; have nP3 := Nat.ne_of_lt lP3
          have hb3 : Below w.heap.size w v3 := (by repeat (first | with_reducible exact Below.refl _ _ | with_reducible assumption | with_reducible apply Below.drew | with_reducible apply below_drewN | (with_reducible apply below_setp; (first | omega | (simp <;> omega))) | (with_reducible apply below_allocp; (first | omega | (simp <;> omega))) | (with_reducible refine below_viap (by assumption) ?_ ?_; (first | omega | (simp <;> omega)))))
          go_wp2_with fail
          refine (HL.out _).mono ?_
          rintro e v4 ⟨vl, rfl, hl4, hc4⟩
          have hz4 := hc4.size
          (try simp at hz4)
          have hP4 : Blk v4 (v2.heap.size) 35 #[.int .i64 r1, .int .i64 r2, .int .i64 r3] := Blk.call (by (repeat (first | with_reducible assumption | (with_reducible apply Blk.new_at; (first | rfl | (simp; done))) | with_reducible apply Blk.store3 | with_reducible apply Blk.store4 | (with_reducible apply Blk.farp; (first | omega | (simp <;> omega))) | with_reducible apply Blk.allocp | with_reducible apply Blk.drew | with_reducible apply Blk.drewN))) hc4
          have cP4 := hP4.cell; have fP4 := hP4.frozen; have lP4 := hP4.lt; have mP4 := Nat.ne_of_gt lP4; have nP4 := Nat.ne_of_lt lP4
          have hQ4 : Blk v4 (v3.heap.size) 35 #[.int .i64 r1, .int .i64 r2, .int .i64 r3] := Blk.call (by (repeat (first | with_reducible assumption | (with_reducible apply Blk.new_at; (first | rfl | (simp; done))) | with_reducible apply Blk.store3 | with_reducible apply Blk.store4 | (with_reducible apply Blk.farp; (first | omega | (simp <;> omega))) | with_reducible apply Blk.allocp | with_reducible apply Blk.drew | with_reducible apply Blk.drewN))) hc4
          have cQ4 := hQ4.cell; have fQ4 := hQ4.frozen; have lQ4 := hQ4.lt; have mQ4 := Nat.ne_of_gt lQ4; have nQ4 := Nat.ne_of_lt lQ4
          have hb4 : Below w.heap.size w v4 := (by repeat (first | with_reducible exact Below.refl _ _ | with_reducible assumption | with_reducible apply Below.drew | with_reducible apply below_drewN | (with_reducible apply below_setp; (first | omega | (simp <;> omega))) | (with_reducible apply below_allocp; (first | omega | (simp <;> omega))) | (with_reducible refine below_viap (by assumption) ?_ ?_; (first | omega | (simp <;> omega)))))
          clear hP3 cP3 fP3 lP3 mP3 nP3
          obtain ⟨bl, cl, rfl⟩ := own_shape hl4
          rw [hN] at hl4 ⊢
          clear hN
          go_wp2_with fail
          refine (HV.out _).mono ?_
          rintro e v5 ⟨rfl, hc5⟩
          have hz5 := hc5.size
          (try simp at hz5)
          have hP5 : Blk v5 (v2.heap.size) 35 #[.int .i64 r1, .int .i64 r2, .int .i64 r3] := Blk.call (by (repeat (first | with_reducible assumption | (with_reducible apply Blk.new_at; (first | rfl | (simp; done))) | with_reducible apply Blk.store3 | with_reducible apply Blk.store4 | (with_reducible apply Blk.farp; (first | omega | (simp <;> omega))) | with_reducible apply Blk.allocp | with_reducible apply Blk.drew | with_reducible apply Blk.drewN))) hc5
          have cP5 := hP5.cell; have fP5 := hP5.frozen; have lP5 := hP5.lt; have mP5 := Nat.ne_of_gt lP5; have nP5 := Nat.ne_of_lt lP5
          have hl5 := own_call hc5 hl4
          have hb5 : Below w.heap.size w v5 := (by repeat (first | with_reducible exact Below.refl _ _ | with_reducible assumption | with_reducible apply Below.drew | with_reducible apply below_drewN | (with_reducible apply below_setp; (first | omega | (simp <;> omega))) | (with_reducible apply below_allocp; (first | omega | (simp <;> omega))) | (with_reducible refine below_viap (by assumption) ?_ ?_; (first | omega | (simp <;> omega)))))
          clear hP4 cP4 fP4 lP4 mP4 nP4 hl4
          go_wp2_with fail
          refine (pHas_yes _ _ R ⟨r1, r2, r3⟩ _ (by rw [HN.out]; omega) (by rw [HN.out]; first | exact hl5 | (have := hl5; exact (by repeat (first | with_reducible assumption | with_reducible apply own_alloc | with_reducible apply own_drew | with_reducible apply own_drewN | (with_reducible refine own_setp (by assumption) ?_ ?_; (first | omega | (simp <;> omega))) | (with_reducible refine own_call (by assumption) ?_))))) HL1.out).mono ?_
          rintro e v6 ⟨rfl, hc6⟩
          have hz6 := hc6.size
          (try simp at hz6)
          have hP6 : Blk v6 (v2.heap.size) 35 #[.int .i64 r1, .int .i64 r2, .int .i64 r3] := Blk.call (by (repeat (first | with_reducible assumption | (with_reducible apply Blk.new_at; (first | rfl | (simp; done))) | with_reducible apply Blk.store3 | with_reducible apply Blk.store4 | (with_reducible apply Blk.farp; (first | omega | (simp <;> omega))) | with_reducible apply Blk.allocp | with_reducible apply Blk.drew | with_reducible apply Blk.drewN))) hc6
          have cP6 := hP6.cell; have fP6 := hP6.frozen; have lP6 := hP6.lt; have mP6 := Nat.ne_of_gt lP6; have nP6 := Nat.ne_of_lt lP6
          have hI6 : Blk v6 (v5.heap.size) 35 #[.int .i64 r1, .int .i64 q2, .int .i64 q3] := Blk.call (by (repeat (first | with_reducible assumption | (with_reducible apply Blk.new_at; (first | rfl | (simp; done))) | with_reducible apply Blk.store3 | with_reducible apply Blk.store4 | (with_reducible apply Blk.farp; (first | omega | (simp <;> omega))) | with_reducible apply Blk.allocp | with_reducible apply Blk.drew | with_reducible apply Blk.drewN))) hc6
          have cI6 := hI6.cell; have fI6 := hI6.frozen; have lI6 := hI6.lt; have mI6 := Nat.ne_of_gt lI6; have nI6 := Nat.ne_of_lt lI6
          have hl6 := own_call hc6 (by have := hl5; exact (by repeat (first | with_reducible assumption | with_reducible apply own_alloc | with_reducible apply own_drew | with_reducible apply own_drewN | (with_reducible refine own_setp (by assumption) ?_ ?_; (first | omega | (simp <;> omega))) | (with_reducible refine own_call (by assumption) ?_))))
          have hb6 : Below w.heap.size w v6 := (by repeat (first | with_reducible exact Below.refl _ _ | with_reducible assumption | with_reducible apply Below.drew | with_reducible apply below_drewN | (with_reducible apply below_setp; (first | omega | (simp <;> omega))) | (with_reducible apply below_allocp; (first | omega | (simp <;> omega))) | (with_reducible refine below_viap (by assumption) ?_ ?_; (first | omega | (simp <;> omega)))))
          clear hP5 cP5 fP5 lP5 mP5 nP5 hl5
          go_wp2_with fail
          refine (pHas_yes _ _ R ⟨r1, q2, q3⟩ _ (by rw [HN.out]; omega) (by rw [HN.out]; first | exact hl6 | (have := hl6; exact (by repeat (first | with_reducible assumption | with_reducible apply own_alloc | with_reducible apply own_drew | with_reducible apply own_drewN | (with_reducible refine own_setp (by assumption) ?_ ?_; (first | omega | (simp <;> omega))) | (with_reducible refine own_call (by assumption) ?_))))) HL2.out).mono ?_
          rintro e v7 ⟨rfl, hc7⟩
          have hz7 := hc7.size
          (try simp at hz7)
          have hP7 : Blk v7 (v2.heap.size) 35 #[.int .i64 r1, .int .i64 r2, .int .i64 r3] := Blk.call (by (repeat (first | with_reducible assumption | (with_reducible apply Blk.new_at; (first | rfl | (simp; done))) | with_reducible apply Blk.store3 | with_reducible apply Blk.store4 | (with_reducible apply Blk.farp; (first | omega | (simp <;> omega))) | with_reducible apply Blk.allocp | with_reducible apply Blk.drew | with_reducible apply Blk.drewN))) hc7
          have cP7 := hP7.cell; have fP7 := hP7.frozen; have lP7 := hP7.lt; have mP7 := Nat.ne_of_gt lP7; have nP7 := Nat.ne_of_lt lP7
          have hI7 : Blk v7 (v5.heap.size) 35 #[.int .i64 r1, .int .i64 q2, .int .i64 q3] := Blk.call (by (repeat (first | with_reducible assumption | (with_reducible apply Blk.new_at; (first | rfl | (simp; done))) | with_reducible apply Blk.store3 | with_reducible apply Blk.store4 | (with_reducible apply Blk.farp; (first | omega | (simp <;> omega))) | with_reducible apply Blk.allocp | with_reducible apply Blk.drew | with_reducible apply Blk.drewN))) hc7
          have cI7 := hI7.cell; have fI7 := hI7.frozen; have lI7 := hI7.lt; have mI7 := Nat.ne_of_gt lI7; have nI7 := Nat.ne_of_lt lI7
          have hl7 := own_call hc7 hl6
          have hb7 : Below w.heap.size w v7 := (by repeat (first | with_reducible exact Below.refl _ _ | with_reducible assumption | with_reducible apply Below.drew | with_reducible apply below_drewN | (with_reducible apply below_setp; (first | omega | (simp <;> omega))) | (with_reducible apply below_allocp; (first | omega | (simp <;> omega))) | (with_reducible refine below_viap (by assumption) ?_ ?_; (first | omega | (simp <;> omega)))))
          clear hP6 cP6 fP6 lP6 mP6 nP6 hI6 cI6 fI6 lI6 mI6 nI6 hl6
          go_wp2_with fail
          refine (HA.out _).mono ?_
          rintro e v8 ⟨va, rfl, ha8, hc8⟩
          have hz8 := hc8.size
          (try simp at hz8)
          have hP8 : Blk v8 (v2.heap.size) 35 #[.int .i64 r1, .int .i64 r2, .int .i64 r3] := Blk.call (by (repeat (first | with_reducible assumption | (with_reducible apply Blk.new_at; (first | rfl | (simp; done))) | with_reducible apply Blk.store3 | with_reducible apply Blk.store4 | (with_reducible apply Blk.farp; (first | omega | (simp <;> omega))) | with_reducible apply Blk.allocp | with_reducible apply Blk.drew | with_reducible apply Blk.drewN))) hc8
          have cP8 := hP8.cell; have fP8 := hP8.frozen; have lP8 := hP8.lt; have mP8 := Nat.ne_of_gt lP8; have nP8 := Nat.ne_of_lt lP8
          have hI8 : Blk v8 (v5.heap.size) 35 #[.int .i64 r1, .int .i64 q2, .int .i64 q3] := Blk.call (by (repeat (first | with_reducible assumption | (with_reducible apply Blk.new_at; (first | rfl | (simp; done))) | with_reducible apply Blk.store3 | with_reducible apply Blk.store4 | (with_reducible apply Blk.farp; (first | omega | (simp <;> omega))) | with_reducible apply Blk.allocp | with_reducible apply Blk.drew | with_reducible apply Blk.drewN))) hc8
          have cI8 := hI8.cell; have fI8 := hI8.frozen; have lI8 := hI8.lt; have mI8 := Nat.ne_of_gt lI8; have nI8 := Nat.ne_of_lt lI8
          have hl8 := own_call hc8 hl7
          have hb8 : Below w.heap.size w v8 := (by repeat (first | with_reducible exact Below.refl _ _ | with_reducible assumption | with_reducible apply Below.drew | with_reducible apply below_drewN | (with_reducible apply below_setp; (first | omega | (simp <;> omega))) | (with_reducible apply below_allocp; (first | omega | (simp <;> omega))) | (with_reducible refine below_viap (by assumption) ?_ ?_; (first | omega | (simp <;> omega)))))
          clear hP7 cP7 fP7 lP7 mP7 nP7 hI7 cI7 fI7 lI7 mI7 nI7 hl7
          obtain ⟨ba, ca, rfl⟩ := own_shape ha8
          go_wp2_with fail
          refine (HG.out _).mono ?_
          rintro e v9 ⟨vg, rfl, hg9, hc9⟩
          have hz9 := hc9.size
          (try simp at hz9)
          have hP9 : Blk v9 (v2.heap.size) 35 #[.int .i64 r1, .int .i64 r2, .int .i64 r3] := Blk.call (by (repeat (first | with_reducible assumption | (with_reducible apply Blk.new_at; (first | rfl | (simp; done))) | with_reducible apply Blk.store3 | with_reducible apply Blk.store4 | (with_reducible apply Blk.farp; (first | omega | (simp <;> omega))) | with_reducible apply Blk.allocp | with_reducible apply Blk.drew | with_reducible apply Blk.drewN))) hc9
          have cP9 := hP9.cell; have fP9 := hP9.frozen; have lP9 := hP9.lt; have mP9 := Nat.ne_of_gt lP9; have nP9 := Nat.ne_of_lt lP9
          have hI9 : Blk v9 (v5.heap.size) 35 #[.int .i64 r1, .int .i64 q2, .int .i64 q3] := Blk.call (by (repeat (first | with_reducible assumption | (with_reducible apply Blk.new_at; (first | rfl | (simp; done))) | with_reducible apply Blk.store3 | with_reducible apply Blk.store4 | (with_reducible apply Blk.farp; (first | omega | (simp <;> omega))) | with_reducible apply Blk.allocp | with_reducible apply Blk.drew | with_reducible apply Blk.drewN))) hc9
          have cI9 := hI9.cell; have fI9 := hI9.frozen; have lI9 := hI9.lt; have mI9 := Nat.ne_of_gt lI9; have nI9 := Nat.ne_of_lt lI9
          have hl9 := own_call hc9 hl8
          have ha9 := own_call hc9 ha8
          have hb9 : Below w.heap.size w v9 := (by repeat (first | with_reducible exact Below.refl _ _ | with_reducible assumption | with_reducible apply Below.drew | with_reducible apply below_drewN | (with_reducible apply below_setp; (first | omega | (simp <;> omega))) | (with_reducible apply below_allocp; (first | omega | (simp <;> omega))) | (with_reducible refine below_viap (by assumption) ?_ ?_; (first | omega | (simp <;> omega)))))
          clear hP8 cP8 fP8 lP8 mP8 nP8 hI8 cI8 fI8 lI8 mI8 nI8 hl8 ha8
          go_wp2_with fail
          refine (sameInts_same _ vg _ _ V _ (by first | omega | (simp <;> omega)) ha9 hg9).mono ?_
          rintro e v10 ⟨rfl, hc10⟩
          have hz10 := hc10.size
          (try simp at hz10)
          have hP10 : Blk v10 (v2.heap.size) 35 #[.int .i64 r1, .int .i64 r2, .int .i64 r3] := Blk.call (by (repeat (first | with_reducible assumption | (with_reducible apply Blk.new_at; (first | rfl | (simp; done))) | with_reducible apply Blk.store3 | with_reducible apply Blk.store4 | (with_reducible apply Blk.farp; (first | omega | (simp <;> omega))) | with_reducible apply Blk.allocp | with_reducible apply Blk.drew | with_reducible apply Blk.drewN))) hc10
          have cP10 := hP10.cell; have fP10 := hP10.frozen; have lP10 := hP10.lt; have mP10 := Nat.ne_of_gt lP10; have nP10 := Nat.ne_of_lt lP10
          have hI10 : Blk v10 (v5.heap.size) 35 #[.int .i64 r1, .int .i64 q2, .int .i64 q3] := Blk.call (by (repeat (first | with_reducible assumption | (with_reducible apply Blk.new_at; (first | rfl | (simp; done))) | with_reducible apply Blk.store3 | with_reducible apply Blk.store4 | (with_reducible apply Blk.farp; (first | omega | (simp <;> omega))) | with_reducible apply Blk.allocp | with_reducible apply Blk.drew | with_reducible apply Blk.drewN))) hc10
          have cI10 := hI10.cell; have fI10 := hI10.frozen; have lI10 := hI10.lt; have mI10 := Nat.ne_of_gt lI10; have nI10 := Nat.ne_of_lt lI10
          have hl10 := own_call hc10 hl9
          have ha10 := own_call hc10 ha9
          have hg10 := own_call hc10 hg9
          have hb10 : Below w.heap.size w v10 := (by repeat (first | with_reducible exact Below.refl _ _ | with_reducible assumption | with_reducible apply Below.drew | with_reducible apply below_drewN | (with_reducible apply below_setp; (first | omega | (simp <;> omega))) | (with_reducible apply below_allocp; (first | omega | (simp <;> omega))) | (with_reducible refine below_viap (by assumption) ?_ ?_; (first | omega | (simp <;> omega)))))
          clear hP9 cP9 fP9 lP9 mP9 nP9 hI9 cI9 fI9 lI9 mI9 nI9 hl9 ha9 hg9
          go_wp2_with fail
          refine (HF.out _).mono ?_
          rintro e v11 ⟨rfl, hc11⟩
          have hz11 := hc11.size
          (try simp at hz11)
          have hb11 : Below w.heap.size w v11 := (by repeat (first | with_reducible exact Below.refl _ _ | with_reducible assumption | with_reducible apply Below.drew | with_reducible apply below_drewN | (with_reducible apply below_setp; (first | omega | (simp <;> omega))) | (with_reducible apply below_allocp; (first | omega | (simp <;> omega))) | (with_reducible refine below_viap (by assumption) ?_ ?_; (first | omega | (simp <;> omega)))))
          go_wp2_with fail
          refine (HD.out _).mono ?_
          rintro e v12 ⟨rfl, hc12⟩
          have hz12 := hc12.size
          (try simp at hz12)
          have hE12 : Blk v12 (v11.heap.size) 35 #[.int .i64 x, .int .i64 y, .int .i64 z] := Blk.call (by (repeat (first | with_reducible assumption | (with_reducible apply Blk.new_at; (first | rfl | (simp; done))) | with_reducible apply Blk.store3 | with_reducible apply Blk.store4 | (with_reducible apply Blk.farp; (first | omega | (simp <;> omega))) | with_reducible apply Blk.allocp | with_reducible apply Blk.drew | with_reducible apply Blk.drewN))) hc12
          have cE12 := hE12.cell; have fE12 := hE12.frozen; have lE12 := hE12.lt; have mE12 := Nat.ne_of_gt lE12; have nE12 := Nat.ne_of_lt lE12
          have hb12 : Below w.heap.size w v12 := (by repeat (first | with_reducible exact Below.refl _ _ | with_reducible assumption | with_reducible apply Below.drew | with_reducible apply below_drewN | (with_reducible apply below_setp; (first | omega | (simp <;> omega))) | (with_reducible apply below_allocp; (first | omega | (simp <;> omega))) | (with_reducible refine below_viap (by assumption) ?_ ?_; (first | omega | (simp <;> omega)))))
          go_wp2
          go_ret
          exact ⟨rfl, (by repeat (first | with_reducible exact Below.refl _ _ | with_reducible assumption | with_reducible apply Below.drew | with_reducible apply below_drewN | (with_reducible apply below_setp; (first | omega | (simp <;> omega))) | (with_reducible apply below_allocp; (first | omega | (simp <;> omega))) | (with_reducible refine below_viap (by assumption) ?_ ?_; (first | omega | (simp <;> omega)))))⟩
      · clear Hl1
        cases ok with
        | false =>
          clear hVV
          go_wp2_with fail
          refine (HI.out _).mono ?_
          rintro e v2 ⟨rfl, hc2⟩
          have hz2 := hc2.size
          (try simp at hz2)
          have hb2 : Below w.heap.size w v2 := (by repeat (first | with_reducible exact Below.refl _ _ | with_reducible assumption | with_reducible apply Below.drew | with_reducible apply below_drewN | (with_reducible apply below_setp; (first | omega | (simp <;> omega))) | (with_reducible apply below_allocp; (first | omega | (simp <;> omega))) | (with_reducible refine below_viap (by assumption) ?_ ?_; (first | omega | (simp <;> omega)))))
          go_wp2_with fail
          refine (HS.out _).mono ?_
          rintro e v3 ⟨rfl, hc3⟩
          have hz3 := hc3.size
          (try simp at hz3)
          have hP3 : Blk v3 (v2.heap.size) 35 #[.int .i64 r1, .int .i64 r2, .int .i64 r3] := Blk.call (by (repeat (first | with_reducible assumption | (with_reducible apply Blk.new_at; (first | rfl | (simp; done))) | with_reducible apply Blk.store3 | with_reducible apply Blk.store4 | (with_reducible apply Blk.farp; (first | omega | (simp <;> omega))) | with_reducible apply Blk.allocp | with_reducible apply Blk.drew | with_reducible apply Blk.drewN))) hc3
          have cP3 := hP3.cell; have fP3 := hP3.frozen; have lP3 := hP3.lt; have mP3 := Nat.ne_of_gt lP3; have nP3 := Nat.ne_of_lt lP3
          have hb3 : Below w.heap.size w v3 := (by repeat (first | with_reducible exact Below.refl _ _ | with_reducible assumption | with_reducible apply Below.drew | with_reducible apply below_drewN | (with_reducible apply below_setp; (first | omega | (simp <;> omega))) | (with_reducible apply below_allocp; (first | omega | (simp <;> omega))) | (with_reducible refine below_viap (by assumption) ?_ ?_; (first | omega | (simp <;> omega)))))
          go_wp2_with fail
          refine (HL.out _).mono ?_
          rintro e v4 ⟨vl, rfl, hl4, hc4⟩
          have hz4 := hc4.size
          (try simp at hz4)
          have hP4 : Blk v4 (v2.heap.size) 35 #[.int .i64 r1, .int .i64 r2, .int .i64 r3] := Blk.call (by (repeat (first | with_reducible assumption | (with_reducible apply Blk.new_at; (first | rfl | (simp; done))) | with_reducible apply Blk.store3 | with_reducible apply Blk.store4 | (with_reducible apply Blk.farp; (first | omega | (simp <;> omega))) | with_reducible apply Blk.allocp | with_reducible apply Blk.drew | with_reducible apply Blk.drewN))) hc4
          have cP4 := hP4.cell; have fP4 := hP4.frozen; have lP4 := hP4.lt; have mP4 := Nat.ne_of_gt lP4; have nP4 := Nat.ne_of_lt lP4
          have hQ4 : Blk v4 (v3.heap.size) 35 #[.int .i64 r1, .int .i64 r2, .int .i64 r3] := Blk.call (by (repeat (first | with_reducible assumption | (with_reducible apply Blk.new_at; (first | rfl | (simp; done))) | with_reducible apply Blk.store3 | with_reducible apply Blk.store4 | (with_reducible apply Blk.farp; (first | omega | (simp <;> omega))) | with_reducible apply Blk.allocp | with_reducible apply Blk.drew | with_reducible apply Blk.drewN))) hc4
          have cQ4 := hQ4.cell; have fQ4 := hQ4.frozen; have lQ4 := hQ4.lt; have mQ4 := Nat.ne_of_gt lQ4; have nQ4 := Nat.ne_of_lt lQ4
          have hb4 : Below w.heap.size w v4 := (by repeat (first | with_reducible exact Below.refl _ _ | with_reducible assumption | with_reducible apply Below.drew | with_reducible apply below_drewN | (with_reducible apply below_setp; (first | omega | (simp <;> omega))) | (with_reducible apply below_allocp; (first | omega | (simp <;> omega))) | (with_reducible refine below_viap (by assumption) ?_ ?_; (first | omega | (simp <;> omega)))))
          clear hP3 cP3 fP3 lP3 mP3 nP3
          obtain ⟨bl, cl, rfl⟩ := own_shape hl4
          rw [hN] at hl4 ⊢
          clear hN
          go_wp2_with fail
          refine (HV.out _).mono ?_
          rintro e v5 ⟨rfl, hc5⟩
          have hz5 := hc5.size
          (try simp at hz5)
          have hP5 : Blk v5 (v2.heap.size) 35 #[.int .i64 r1, .int .i64 r2, .int .i64 r3] := Blk.call (by (repeat (first | with_reducible assumption | (with_reducible apply Blk.new_at; (first | rfl | (simp; done))) | with_reducible apply Blk.store3 | with_reducible apply Blk.store4 | (with_reducible apply Blk.farp; (first | omega | (simp <;> omega))) | with_reducible apply Blk.allocp | with_reducible apply Blk.drew | with_reducible apply Blk.drewN))) hc5
          have cP5 := hP5.cell; have fP5 := hP5.frozen; have lP5 := hP5.lt; have mP5 := Nat.ne_of_gt lP5; have nP5 := Nat.ne_of_lt lP5
          have hl5 := own_call hc5 hl4
          have hb5 : Below w.heap.size w v5 := (by repeat (first | with_reducible exact Below.refl _ _ | with_reducible assumption | with_reducible apply Below.drew | with_reducible apply below_drewN | (with_reducible apply below_setp; (first | omega | (simp <;> omega))) | (with_reducible apply below_allocp; (first | omega | (simp <;> omega))) | (with_reducible refine below_viap (by assumption) ?_ ?_; (first | omega | (simp <;> omega)))))
          clear hP4 cP4 fP4 lP4 mP4 nP4 hl4
          go_wp2_with fail
          refine (pHas_yes _ _ R ⟨r1, r2, r3⟩ _ (by rw [HN.out]; omega) (by rw [HN.out]; first | exact hl5 | (have := hl5; exact (by repeat (first | with_reducible assumption | with_reducible apply own_alloc | with_reducible apply own_drew | with_reducible apply own_drewN | (with_reducible refine own_setp (by assumption) ?_ ?_; (first | omega | (simp <;> omega))) | (with_reducible refine own_call (by assumption) ?_))))) HL1.out).mono ?_
          rintro e v6 ⟨rfl, hc6⟩
          have hz6 := hc6.size
          (try simp at hz6)
          have hP6 : Blk v6 (v2.heap.size) 35 #[.int .i64 r1, .int .i64 r2, .int .i64 r3] := Blk.call (by (repeat (first | with_reducible assumption | (with_reducible apply Blk.new_at; (first | rfl | (simp; done))) | with_reducible apply Blk.store3 | with_reducible apply Blk.store4 | (with_reducible apply Blk.farp; (first | omega | (simp <;> omega))) | with_reducible apply Blk.allocp | with_reducible apply Blk.drew | with_reducible apply Blk.drewN))) hc6
          have cP6 := hP6.cell; have fP6 := hP6.frozen; have lP6 := hP6.lt; have mP6 := Nat.ne_of_gt lP6; have nP6 := Nat.ne_of_lt lP6
          have hI6 : Blk v6 (v5.heap.size) 35 #[.int .i64 r1, .int .i64 r2, .int .i64 q3] := Blk.call (by (repeat (first | with_reducible assumption | (with_reducible apply Blk.new_at; (first | rfl | (simp; done))) | with_reducible apply Blk.store3 | with_reducible apply Blk.store4 | (with_reducible apply Blk.farp; (first | omega | (simp <;> omega))) | with_reducible apply Blk.allocp | with_reducible apply Blk.drew | with_reducible apply Blk.drewN))) hc6
          have cI6 := hI6.cell; have fI6 := hI6.frozen; have lI6 := hI6.lt; have mI6 := Nat.ne_of_gt lI6; have nI6 := Nat.ne_of_lt lI6
          have hl6 := own_call hc6 (by have := hl5; exact (by repeat (first | with_reducible assumption | with_reducible apply own_alloc | with_reducible apply own_drew | with_reducible apply own_drewN | (with_reducible refine own_setp (by assumption) ?_ ?_; (first | omega | (simp <;> omega))) | (with_reducible refine own_call (by assumption) ?_))))
          have hb6 : Below w.heap.size w v6 := (by repeat (first | with_reducible exact Below.refl _ _ | with_reducible assumption | with_reducible apply Below.drew | with_reducible apply below_drewN | (with_reducible apply below_setp; (first | omega | (simp <;> omega))) | (with_reducible apply below_allocp; (first | omega | (simp <;> omega))) | (with_reducible refine below_viap (by assumption) ?_ ?_; (first | omega | (simp <;> omega)))))
          clear hP5 cP5 fP5 lP5 mP5 nP5 hl5
          go_wp2_with fail
          refine (pHas_yes _ _ R ⟨r1, r2, q3⟩ _ (by rw [HN.out]; omega) (by rw [HN.out]; first | exact hl6 | (have := hl6; exact (by repeat (first | with_reducible assumption | with_reducible apply own_alloc | with_reducible apply own_drew | with_reducible apply own_drewN | (with_reducible refine own_setp (by assumption) ?_ ?_; (first | omega | (simp <;> omega))) | (with_reducible refine own_call (by assumption) ?_))))) HL2.out).mono ?_
          rintro e v7 ⟨rfl, hc7⟩
          have hz7 := hc7.size
          (try simp at hz7)
          have hP7 : Blk v7 (v2.heap.size) 35 #[.int .i64 r1, .int .i64 r2, .int .i64 r3] := Blk.call (by (repeat (first | with_reducible assumption | (with_reducible apply Blk.new_at; (first | rfl | (simp; done))) | with_reducible apply Blk.store3 | with_reducible apply Blk.store4 | (with_reducible apply Blk.farp; (first | omega | (simp <;> omega))) | with_reducible apply Blk.allocp | with_reducible apply Blk.drew | with_reducible apply Blk.drewN))) hc7
          have cP7 := hP7.cell; have fP7 := hP7.frozen; have lP7 := hP7.lt; have mP7 := Nat.ne_of_gt lP7; have nP7 := Nat.ne_of_lt lP7
          have hI7 : Blk v7 (v5.heap.size) 35 #[.int .i64 r1, .int .i64 r2, .int .i64 q3] := Blk.call (by (repeat (first | with_reducible assumption | (with_reducible apply Blk.new_at; (first | rfl | (simp; done))) | with_reducible apply Blk.store3 | with_reducible apply Blk.store4 | (with_reducible apply Blk.farp; (first | omega | (simp <;> omega))) | with_reducible apply Blk.allocp | with_reducible apply Blk.drew | with_reducible apply Blk.drewN))) hc7
          have cI7 := hI7.cell; have fI7 := hI7.frozen; have lI7 := hI7.lt; have mI7 := Nat.ne_of_gt lI7; have nI7 := Nat.ne_of_lt lI7
          have hl7 := own_call hc7 hl6
          have hb7 : Below w.heap.size w v7 := (by repeat (first | with_reducible exact Below.refl _ _ | with_reducible assumption | with_reducible apply Below.drew | with_reducible apply below_drewN | (with_reducible apply below_setp; (first | omega | (simp <;> omega))) | (with_reducible apply below_allocp; (first | omega | (simp <;> omega))) | (with_reducible refine below_viap (by assumption) ?_ ?_; (first | omega | (simp <;> omega)))))
          clear hP6 cP6 fP6 lP6 mP6 nP6 hI6 cI6 fI6 lI6 mI6 nI6 hl6
          go_wp2_with fail
          refine (HA.out _).mono ?_
          rintro e v8 ⟨va, rfl, ha8, hc8⟩
          have hz8 := hc8.size
          (try simp at hz8)
          have hP8 : Blk v8 (v2.heap.size) 35 #[.int .i64 r1, .int .i64 r2, .int .i64 r3] := Blk.call (by (repeat (first | with_reducible assumption | (with_reducible apply Blk.new_at; (first | rfl | (simp; done))) | with_reducible apply Blk.store3 | with_reducible apply Blk.store4 | (with_reducible apply Blk.farp; (first | omega | (simp <;> omega))) | with_reducible apply Blk.allocp | with_reducible apply Blk.drew | with_reducible apply Blk.drewN))) hc8
          have cP8 := hP8.cell; have fP8 := hP8.frozen; have lP8 := hP8.lt; have mP8 := Nat.ne_of_gt lP8; have nP8 := Nat.ne_of_lt lP8
          have hI8 : Blk v8 (v5.heap.size) 35 #[.int .i64 r1, .int .i64 r2, .int .i64 q3] := Blk.call (by (repeat (first | with_reducible assumption | (with_reducible apply Blk.new_at; (first | rfl | (simp; done))) | with_reducible apply Blk.store3 | with_reducible apply Blk.store4 | (with_reducible apply Blk.farp; (first | omega | (simp <;> omega))) | with_reducible apply Blk.allocp | with_reducible apply Blk.drew | with_reducible apply Blk.drewN))) hc8
          have cI8 := hI8.cell; have fI8 := hI8.frozen; have lI8 := hI8.lt; have mI8 := Nat.ne_of_gt lI8; have nI8 := Nat.ne_of_lt lI8
          have hl8 := own_call hc8 hl7
          have hb8 : Below w.heap.size w v8 := (by repeat (first | with_reducible exact Below.refl _ _ | with_reducible assumption | with_reducible apply Below.drew | with_reducible apply below_drewN | (with_reducible apply below_setp; (first | omega | (simp <;> omega))) | (with_reducible apply below_allocp; (first | omega | (simp <;> omega))) | (with_reducible refine below_viap (by assumption) ?_ ?_; (first | omega | (simp <;> omega)))))
          clear hP7 cP7 fP7 lP7 mP7 nP7 hI7 cI7 fI7 lI7 mI7 nI7 hl7
          obtain ⟨ba, ca, rfl⟩ := own_shape ha8
          go_wp2_with fail
          refine (HG.out _).mono ?_
          rintro e v9 ⟨vg, rfl, hg9, hc9⟩
          have hz9 := hc9.size
          (try simp at hz9)
          have hP9 : Blk v9 (v2.heap.size) 35 #[.int .i64 r1, .int .i64 r2, .int .i64 r3] := Blk.call (by (repeat (first | with_reducible assumption | (with_reducible apply Blk.new_at; (first | rfl | (simp; done))) | with_reducible apply Blk.store3 | with_reducible apply Blk.store4 | (with_reducible apply Blk.farp; (first | omega | (simp <;> omega))) | with_reducible apply Blk.allocp | with_reducible apply Blk.drew | with_reducible apply Blk.drewN))) hc9
          have cP9 := hP9.cell; have fP9 := hP9.frozen; have lP9 := hP9.lt; have mP9 := Nat.ne_of_gt lP9; have nP9 := Nat.ne_of_lt lP9
          have hI9 : Blk v9 (v5.heap.size) 35 #[.int .i64 r1, .int .i64 r2, .int .i64 q3] := Blk.call (by (repeat (first | with_reducible assumption | (with_reducible apply Blk.new_at; (first | rfl | (simp; done))) | with_reducible apply Blk.store3 | with_reducible apply Blk.store4 | (with_reducible apply Blk.farp; (first | omega | (simp <;> omega))) | with_reducible apply Blk.allocp | with_reducible apply Blk.drew | with_reducible apply Blk.drewN))) hc9
          have cI9 := hI9.cell; have fI9 := hI9.frozen; have lI9 := hI9.lt; have mI9 := Nat.ne_of_gt lI9; have nI9 := Nat.ne_of_lt lI9
          have hl9 := own_call hc9 hl8
          have ha9 := own_call hc9 ha8
          have hb9 : Below w.heap.size w v9 := (by repeat (first | with_reducible exact Below.refl _ _ | with_reducible assumption | with_reducible apply Below.drew | with_reducible apply below_drewN | (with_reducible apply below_setp; (first | omega | (simp <;> omega))) | (with_reducible apply below_allocp; (first | omega | (simp <;> omega))) | (with_reducible refine below_viap (by assumption) ?_ ?_; (first | omega | (simp <;> omega)))))
          clear hP8 cP8 fP8 lP8 mP8 nP8 hI8 cI8 fI8 lI8 mI8 nI8 hl8 ha8
          go_wp2_with fail
          refine (HF.out _).mono ?_
          rintro e v10 ⟨rfl, hc10⟩
          have hz10 := hc10.size
          (try simp at hz10)
          have hb10 : Below w.heap.size w v10 := (by repeat (first | with_reducible exact Below.refl _ _ | with_reducible assumption | with_reducible apply Below.drew | with_reducible apply below_drewN | (with_reducible apply below_setp; (first | omega | (simp <;> omega))) | (with_reducible apply below_allocp; (first | omega | (simp <;> omega))) | (with_reducible refine below_viap (by assumption) ?_ ?_; (first | omega | (simp <;> omega)))))
          go_wp2_with fail
          refine (HD.out _).mono ?_
          rintro e v11 ⟨rfl, hc11⟩
          have hz11 := hc11.size
          (try simp at hz11)
          have hE11 : Blk v11 (v10.heap.size) 35 #[.int .i64 x, .int .i64 y, .int .i64 z] := Blk.call (by (repeat (first | with_reducible assumption | (with_reducible apply Blk.new_at; (first | rfl | (simp; done))) | with_reducible apply Blk.store3 | with_reducible apply Blk.store4 | (with_reducible apply Blk.farp; (first | omega | (simp <;> omega))) | with_reducible apply Blk.allocp | with_reducible apply Blk.drew | with_reducible apply Blk.drewN))) hc11
          have cE11 := hE11.cell; have fE11 := hE11.frozen; have lE11 := hE11.lt; have mE11 := Nat.ne_of_gt lE11; have nE11 := Nat.ne_of_lt lE11
          have hb11 : Below w.heap.size w v11 := (by repeat (first | with_reducible exact Below.refl _ _ | with_reducible assumption | with_reducible apply Below.drew | with_reducible apply below_drewN | (with_reducible apply below_setp; (first | omega | (simp <;> omega))) | (with_reducible apply below_allocp; (first | omega | (simp <;> omega))) | (with_reducible refine below_viap (by assumption) ?_ ?_; (first | omega | (simp <;> omega)))))
          go_wp2
          go_ret
          exact ⟨rfl, (by repeat (first | with_reducible exact Below.refl _ _ | with_reducible assumption | with_reducible apply Below.drew | with_reducible apply below_drewN | (with_reducible apply below_setp; (first | omega | (simp <;> omega))) | (with_reducible apply below_allocp; (first | omega | (simp <;> omega))) | (with_reducible refine below_viap (by assumption) ?_ ?_; (first | omega | (simp <;> omega)))))⟩
        | true =>
          obtain rfl := hVV.out rfl
          clear hVV
          go_wp2_with fail
          refine (HI.out _).mono ?_
          rintro e v2 ⟨rfl, hc2⟩
          have hz2 := hc2.size
          (try simp at hz2)
          have hb2 : Below w.heap.size w v2 := (by repeat (first | with_reducible exact Below.refl _ _ | with_reducible assumption | with_reducible apply Below.drew | with_reducible apply below_drewN | (with_reducible apply below_setp; (first | omega | (simp <;> omega))) | (with_reducible apply below_allocp; (first | omega | (simp <;> omega))) | (with_reducible refine below_viap (by assumption) ?_ ?_; (first | omega | (simp <;> omega)))))
          go_wp2_with fail
          refine (HS.out _).mono ?_
          rintro e v3 ⟨rfl, hc3⟩
          have hz3 := hc3.size
          (try simp at hz3)
          have hP3 : Blk v3 (v2.heap.size) 35 #[.int .i64 r1, .int .i64 r2, .int .i64 r3] := Blk.call (by (repeat (first | with_reducible assumption | (with_reducible apply Blk.new_at; (first | rfl | (simp; done))) | with_reducible apply Blk.store3 | with_reducible apply Blk.store4 | (with_reducible apply Blk.farp; (first | omega | (simp <;> omega))) | with_reducible apply Blk.allocp | with_reducible apply Blk.drew | with_reducible apply Blk.drewN))) hc3
          have cP3 := hP3.cell; have fP3 := hP3.frozen; have lP3 := hP3.lt; have mP3 := Nat.ne_of_gt lP3; have nP3 := Nat.ne_of_lt lP3
          have hb3 : Below w.heap.size w v3 := (by repeat (first | with_reducible exact Below.refl _ _ | with_reducible assumption | with_reducible apply Below.drew | with_reducible apply below_drewN | (with_reducible apply below_setp; (first | omega | (simp <;> omega))) | (with_reducible apply below_allocp; (first | omega | (simp <;> omega))) | (with_reducible refine below_viap (by assumption) ?_ ?_; (first | omega | (simp <;> omega)))))
          go_wp2_with fail
          refine (HL.out _).mono ?_
          rintro e v4 ⟨vl, rfl, hl4, hc4⟩
          have hz4 := hc4.size
          (try simp at hz4)
          have hP4 : Blk v4 (v2.heap.size) 35 #[.int .i64 r1, .int .i64 r2, .int .i64 r3] := Blk.call (by (repeat (first | with_reducible assumption | (with_reducible apply Blk.new_at; (first | rfl | (simp; done))) | with_reducible apply Blk.store3 | with_reducible apply Blk.store4 | (with_reducible apply Blk.farp; (first | omega | (simp <;> omega))) | with_reducible apply Blk.allocp | with_reducible apply Blk.drew | with_reducible apply Blk.drewN))) hc4
          have cP4 := hP4.cell; have fP4 := hP4.frozen; have lP4 := hP4.lt; have mP4 := Nat.ne_of_gt lP4; have nP4 := Nat.ne_of_lt lP4
          have hQ4 : Blk v4 (v3.heap.size) 35 #[.int .i64 r1, .int .i64 r2, .int .i64 r3] := Blk.call (by (repeat (first | with_reducible assumption | (with_reducible apply Blk.new_at; (first | rfl | (simp; done))) | with_reducible apply Blk.store3 | with_reducible apply Blk.store4 | (with_reducible apply Blk.farp; (first | omega | (simp <;> omega))) | with_reducible apply Blk.allocp | with_reducible apply Blk.drew | with_reducible apply Blk.drewN))) hc4
          have cQ4 := hQ4.cell; have fQ4 := hQ4.frozen; have lQ4 := hQ4.lt; have mQ4 := Nat.ne_of_gt lQ4; have nQ4 := Nat.ne_of_lt lQ4
          have hb4 : Below w.heap.size w v4 := (by repeat (first | with_reducible exact Below.refl _ _ | with_reducible assumption | with_reducible apply Below.drew | with_reducible apply below_drewN | (with_reducible apply below_setp; (first | omega | (simp <;> omega))) | (with_reducible apply below_allocp; (first | omega | (simp <;> omega))) | (with_reducible refine below_viap (by assumption) ?_ ?_; (first | omega | (simp <;> omega)))))
          clear hP3 cP3 fP3 lP3 mP3 nP3
          obtain ⟨bl, cl, rfl⟩ := own_shape hl4
          rw [hN] at hl4 ⊢
          clear hN
          go_wp2_with fail
          refine (HV.out _).mono ?_
          rintro e v5 ⟨rfl, hc5⟩
          have hz5 := hc5.size
          (try simp at hz5)
          have hP5 : Blk v5 (v2.heap.size) 35 #[.int .i64 r1, .int .i64 r2, .int .i64 r3] := Blk.call (by (repeat (first | with_reducible assumption | (with_reducible apply Blk.new_at; (first | rfl | (simp; done))) | with_reducible apply Blk.store3 | with_reducible apply Blk.store4 | (with_reducible apply Blk.farp; (first | omega | (simp <;> omega))) | with_reducible apply Blk.allocp | with_reducible apply Blk.drew | with_reducible apply Blk.drewN))) hc5
          have cP5 := hP5.cell; have fP5 := hP5.frozen; have lP5 := hP5.lt; have mP5 := Nat.ne_of_gt lP5; have nP5 := Nat.ne_of_lt lP5
          have hl5 := own_call hc5 hl4
          have hb5 : Below w.heap.size w v5 := (by repeat (first | with_reducible exact Below.refl _ _ | with_reducible assumption | with_reducible apply Below.drew | with_reducible apply below_drewN | (with_reducible apply below_setp; (first | omega | (simp <;> omega))) | (with_reducible apply below_allocp; (first | omega | (simp <;> omega))) | (with_reducible refine below_viap (by assumption) ?_ ?_; (first | omega | (simp <;> omega)))))
          clear hP4 cP4 fP4 lP4 mP4 nP4 hl4
          go_wp2_with fail
          refine (pHas_yes _ _ R ⟨r1, r2, r3⟩ _ (by rw [HN.out]; omega) (by rw [HN.out]; first | exact hl5 | (have := hl5; exact (by repeat (first | with_reducible assumption | with_reducible apply own_alloc | with_reducible apply own_drew | with_reducible apply own_drewN | (with_reducible refine own_setp (by assumption) ?_ ?_; (first | omega | (simp <;> omega))) | (with_reducible refine own_call (by assumption) ?_))))) HL1.out).mono ?_
          rintro e v6 ⟨rfl, hc6⟩
          have hz6 := hc6.size
          (try simp at hz6)
          have hP6 : Blk v6 (v2.heap.size) 35 #[.int .i64 r1, .int .i64 r2, .int .i64 r3] := Blk.call (by (repeat (first | with_reducible assumption | (with_reducible apply Blk.new_at; (first | rfl | (simp; done))) | with_reducible apply Blk.store3 | with_reducible apply Blk.store4 | (with_reducible apply Blk.farp; (first | omega | (simp <;> omega))) | with_reducible apply Blk.allocp | with_reducible apply Blk.drew | with_reducible apply Blk.drewN))) hc6
          have cP6 := hP6.cell; have fP6 := hP6.frozen; have lP6 := hP6.lt; have mP6 := Nat.ne_of_gt lP6; have nP6 := Nat.ne_of_lt lP6
          have hI6 : Blk v6 (v5.heap.size) 35 #[.int .i64 r1, .int .i64 r2, .int .i64 q3] := Blk.call (by (repeat (first | with_reducible assumption | (with_reducible apply Blk.new_at; (first | rfl | (simp; done))) | with_reducible apply Blk.store3 | with_reducible apply Blk.store4 | (with_reducible apply Blk.farp; (first | omega | (simp <;> omega))) | with_reducible apply Blk.allocp | with_reducible apply Blk.drew | with_reducible apply Blk.drewN))) hc6
          have cI6 := hI6.cell; have fI6 := hI6.frozen; have lI6 := hI6.lt; have mI6 := Nat.ne_of_gt lI6; have nI6 := Nat.ne_of_lt lI6
          have hl6 := own_call hc6 (by have := hl5; exact (by repeat (first | with_reducible assumption | with_reducible apply own_alloc | with_reducible apply own_drew | with_reducible apply own_drewN | (with_reducible refine own_setp (by assumption) ?_ ?_; (first | omega | (simp <;> omega))) | (with_reducible refine own_call (by assumption) ?_))))
          have hb6 : Below w.heap.size w v6 := (by repeat (first | with_reducible exact Below.refl _ _ | with_reducible assumption | with_reducible apply Below.drew | with_reducible apply below_drewN | (with_reducible apply below_setp; (first | omega | (simp <;> omega))) | (with_reducible apply below_allocp; (first | omega | (simp <;> omega))) | (with_reducible refine below_viap (by assumption) ?_ ?_; (first | omega | (simp <;> omega)))))
          clear hP5 cP5 fP5 lP5 mP5 nP5 hl5
          go_wp2_with fail
          refine (pHas_yes _ _ R ⟨r1, r2, q3⟩ _ (by rw [HN.out]; omega) (by rw [HN.out]; first | exact hl6 | (have := hl6; exact (by repeat (first | with_reducible assumption | with_reducible apply own_alloc | with_reducible apply own_drew | with_reducible apply own_drewN | (with_reducible refine own_setp (by assumption) ?_ ?_; (first | omega | (simp <;> omega))) | (with_reducible refine own_call (by assumption) ?_))))) HL2.out).mono ?_
          rintro e v7 ⟨rfl, hc7⟩
          have hz7 := hc7.size
          (try simp at hz7)
          have hP7 : Blk v7 (v2.heap.size) 35 #[.int .i64 r1, .int .i64 r2, .int .i64 r3] := Blk.call (by (repeat (first | with_reducible assumption | (with_reducible apply Blk.new_at; (first | rfl | (simp; done))) | with_reducible apply Blk.store3 | with_reducible apply Blk.store4 | (with_reducible apply Blk.farp; (first | omega | (simp <;> omega))) | with_reducible apply Blk.allocp | with_reducible apply Blk.drew | with_reducible apply Blk.drewN))) hc7
          have cP7 := hP7.cell; have fP7 := hP7.frozen; have lP7 := hP7.lt; have mP7 := Nat.ne_of_gt lP7; have nP7 := Nat.ne_of_lt lP7
          have hI7 : Blk v7 (v5.heap.size) 35 #[.int .i64 r1, .int .i64 r2, .int .i64 q3] := Blk.call (by (repeat (first | with_reducible assumption | (with_reducible apply Blk.new_at; (first | rfl | (simp; done))) | with_reducible apply Blk.store3 | with_reducible apply Blk.store4 | (with_reducible apply Blk.farp; (first | omega | (simp <;> omega))) | with_reducible apply Blk.allocp | with_reducible apply Blk.drew | with_reducible apply Blk.drewN))) hc7
          have cI7 := hI7.cell; have fI7 := hI7.frozen; have lI7 := hI7.lt; have mI7 := Nat.ne_of_gt lI7; have nI7 := Nat.ne_of_lt lI7
          have hl7 := own_call hc7 hl6
          have hb7 : Below w.heap.size w v7 := (by repeat (first | with_reducible exact Below.refl _ _ | with_reducible assumption | with_reducible apply Below.drew | with_reducible apply below_drewN | (with_reducible apply below_setp; (first | omega | (simp <;> omega))) | (with_reducible apply below_allocp; (first | omega | (simp <;> omega))) | (with_reducible refine below_viap (by assumption) ?_ ?_; (first | omega | (simp <;> omega)))))
          clear hP6 cP6 fP6 lP6 mP6 nP6 hI6 cI6 fI6 lI6 mI6 nI6 hl6
          go_wp2_with fail
          refine (HA.out _).mono ?_
          rintro e v8 ⟨va, rfl, ha8, hc8⟩
          have hz8 := hc8.size
          (try simp at hz8)
          have hP8 : Blk v8 (v2.heap.size) 35 #[.int .i64 r1, .int .i64 r2, .int .i64 r3] := Blk.call (by (repeat (first | with_reducible assumption | (with_reducible apply Blk.new_at; (first | rfl | (simp; done))) | with_reducible apply Blk.store3 | with_reducible apply Blk.store4 | (with_reducible apply Blk.farp; (first | omega | (simp <;> omega))) | with_reducible apply Blk.allocp | with_reducible apply Blk.drew | with_reducible apply Blk.drewN))) hc8
          have cP8 := hP8.cell; have fP8 := hP8.frozen; have lP8 := hP8.lt; have mP8 := Nat.ne_of_gt lP8; have nP8 := Nat.ne_of_lt lP8
          have hI8 : Blk v8 (v5.heap.size) 35 #[.int .i64 r1, .int .i64 r2, .int .i64 q3] := Blk.call (by (repeat (first | with_reducible assumption | (with_reducible apply Blk.new_at; (first | rfl | (simp; done))) | with_reducible apply Blk.store3 | with_reducible apply Blk.store4 | (with_reducible apply Blk.farp; (first | omega | (simp <;> omega))) | with_reducible apply Blk.allocp | with_reducible apply Blk.drew | with_reducible apply Blk.drewN))) hc8
          have cI8 := hI8.cell; have fI8 := hI8.frozen; have lI8 := hI8.lt; have mI8 := Nat.ne_of_gt lI8; have nI8 := Nat.ne_of_lt lI8
          have hl8 := own_call hc8 hl7
          have hb8 : Below w.heap.size w v8 := (by repeat (first | with_reducible exact Below.refl _ _ | with_reducible assumption | with_reducible apply Below.drew | with_reducible apply below_drewN | (with_reducible apply below_setp; (first | omega | (simp <;> omega))) | (with_reducible apply below_allocp; (first | omega | (simp <;> omega))) | (with_reducible refine below_viap (by assumption) ?_ ?_; (first | omega | (simp <;> omega)))))
          clear hP7 cP7 fP7 lP7 mP7 nP7 hI7 cI7 fI7 lI7 mI7 nI7 hl7
          obtain ⟨ba, ca, rfl⟩ := own_shape ha8
          go_wp2_with fail
          refine (HG.out _).mono ?_
          rintro e v9 ⟨vg, rfl, hg9, hc9⟩
          have hz9 := hc9.size
          (try simp at hz9)
          have hP9 : Blk v9 (v2.heap.size) 35 #[.int .i64 r1, .int .i64 r2, .int .i64 r3] := Blk.call (by (repeat (first | with_reducible assumption | (with_reducible apply Blk.new_at; (first | rfl | (simp; done))) | with_reducible apply Blk.store3 | with_reducible apply Blk.store4 | (with_reducible apply Blk.farp; (first | omega | (simp <;> omega))) | with_reducible apply Blk.allocp | with_reducible apply Blk.drew | with_reducible apply Blk.drewN))) hc9
          have cP9 := hP9.cell; have fP9 := hP9.frozen; have lP9 := hP9.lt; have mP9 := Nat.ne_of_gt lP9; have nP9 := Nat.ne_of_lt lP9
          have hI9 : Blk v9 (v5.heap.size) 35 #[.int .i64 r1, .int .i64 r2, .int .i64 q3] := Blk.call (by (repeat (first | with_reducible assumption | (with_reducible apply Blk.new_at; (first | rfl | (simp; done))) | with_reducible apply Blk.store3 | with_reducible apply Blk.store4 | (with_reducible apply Blk.farp; (first | omega | (simp <;> omega))) | with_reducible apply Blk.allocp | with_reducible apply Blk.drew | with_reducible apply Blk.drewN))) hc9
          have cI9 := hI9.cell; have fI9 := hI9.frozen; have lI9 := hI9.lt; have mI9 := Nat.ne_of_gt lI9; have nI9 := Nat.ne_of_lt lI9
          have hl9 := own_call hc9 hl8
          have ha9 := own_call hc9 ha8
          have hb9 : Below w.heap.size w v9 := (by repeat (first | with_reducible exact Below.refl _ _ | with_reducible assumption | with_reducible apply Below.drew | with_reducible apply below_drewN | (with_reducible apply below_setp; (first | omega | (simp <;> omega))) | (with_reducible apply below_allocp; (first | omega | (simp <;> omega))) | (with_reducible refine below_viap (by assumption) ?_ ?_; (first | omega | (simp <;> omega)))))
          clear hP8 cP8 fP8 lP8 mP8 nP8 hI8 cI8 fI8 lI8 mI8 nI8 hl8 ha8
          go_wp2_with fail
          refine (sameInts_same _ vg _ _ V _ (by first | omega | (simp <;> omega)) ha9 hg9).mono ?_
          rintro e v10 ⟨rfl, hc10⟩
          have hz10 := hc10.size
          (try simp at hz10)
          have hP10 : Blk v10 (v2.heap.size) 35 #[.int .i64 r1, .int .i64 r2, .int .i64 r3] := Blk.call (by (repeat (first | with_reducible assumption | (with_reducible apply Blk.new_at; (first | rfl | (simp; done))) | with_reducible apply Blk.store3 | with_reducible apply Blk.store4 | (with_reducible apply Blk.farp; (first | omega | (simp <;> omega))) | with_reducible apply Blk.allocp | with_reducible apply Blk.drew | with_reducible apply Blk.drewN))) hc10
          have cP10 := hP10.cell; have fP10 := hP10.frozen; have lP10 := hP10.lt; have mP10 := Nat.ne_of_gt lP10; have nP10 := Nat.ne_of_lt lP10
          have hI10 : Blk v10 (v5.heap.size) 35 #[.int .i64 r1, .int .i64 r2, .int .i64 q3] := Blk.call (by (repeat (first | with_reducible assumption | (with_reducible apply Blk.new_at; (first | rfl | (simp; done))) | with_reducible apply Blk.store3 | with_reducible apply Blk.store4 | (with_reducible apply Blk.farp; (first | omega | (simp <;> omega))) | with_reducible apply Blk.allocp | with_reducible apply Blk.drew | with_reducible apply Blk.drewN))) hc10
          have cI10 := hI10.cell; have fI10 := hI10.frozen; have lI10 := hI10.lt; have mI10 := Nat.ne_of_gt lI10; have nI10 := Nat.ne_of_lt lI10
          have hl10 := own_call hc10 hl9
          have ha10 := own_call hc10 ha9
          have hg10 := own_call hc10 hg9
          have hb10 : Below w.heap.size w v10 := (by repeat (first | with_reducible exact Below.refl _ _ | with_reducible assumption | with_reducible apply Below.drew | with_reducible apply below_drewN | (with_reducible apply below_setp; (first | omega | (simp <;> omega))) | (with_reducible apply below_allocp; (first | omega | (simp <;> omega))) | (with_reducible refine below_viap (by assumption) ?_ ?_; (first | omega | (simp <;> omega)))))
          clear hP9 cP9 fP9 lP9 mP9 nP9 hI9 cI9 fI9 lI9 mI9 nI9 hl9 ha9 hg9
          go_wp2_with fail
          refine (HF.out _).mono ?_
          rintro e v11 ⟨rfl, hc11⟩
          have hz11 := hc11.size
          (try simp at hz11)
          have hb11 : Below w.heap.size w v11 := (by repeat (first | with_reducible exact Below.refl _ _ | with_reducible assumption | with_reducible apply Below.drew | with_reducible apply below_drewN | (with_reducible apply below_setp; (first | omega | (simp <;> omega))) | (with_reducible apply below_allocp; (first | omega | (simp <;> omega))) | (with_reducible refine below_viap (by assumption) ?_ ?_; (first | omega | (simp <;> omega)))))
          go_wp2_with fail
          refine (HD.out _).mono ?_
          rintro e v12 ⟨rfl, hc12⟩
          have hz12 := hc12.size
          (try simp at hz12)
          have hE12 : Blk v12 (v11.heap.size) 35 #[.int .i64 x, .int .i64 y, .int .i64 z] := Blk.call (by (repeat (first | with_reducible assumption | (with_reducible apply Blk.new_at; (first | rfl | (simp; done))) | with_reducible apply Blk.store3 | with_reducible apply Blk.store4 | (with_reducible apply Blk.farp; (first | omega | (simp <;> omega))) | with_reducible apply Blk.allocp | with_reducible apply Blk.drew | with_reducible apply Blk.drewN))) hc12
          have cE12 := hE12.cell; have fE12 := hE12.frozen; have lE12 := hE12.lt; have mE12 := Nat.ne_of_gt lE12; have nE12 := Nat.ne_of_lt lE12
          have hb12 : Below w.heap.size w v12 := (by repeat (first | with_reducible exact Below.refl _ _ | with_reducible assumption | with_reducible apply Below.drew | with_reducible apply below_drewN | (with_reducible apply below_setp; (first | omega | (simp <;> omega))) | (with_reducible apply below_allocp; (first | omega | (simp <;> omega))) | (with_reducible refine below_viap (by assumption) ?_ ?_; (first | omega | (simp <;> omega)))))
          go_wp2
          go_ret
          exact ⟨rfl, (by repeat (first | with_reducible exact Below.refl _ _ | with_reducible assumption | with_reducible apply Below.drew | with_reducible apply below_drewN | (with_reducible apply below_setp; (first | omega | (simp <;> omega))) | (with_reducible apply below_allocp; (first | omega | (simp <;> omega))) | (with_reducible refine below_viap (by assumption) ?_ ?_; (first | omega | (simp <;> omega)))))⟩
  · have Hb := Lib.hid (fun w => big_yes A A2 zs.length es.length c c2 w hbig)
    clear HZ hbig
    go_enter Try.func7, Try.ntmps7
    go_wp2_with (go_at_call 11; (with_reducible refine (Hb.out _).mono ?_); rintro e v ⟨rfl, rfl⟩)
    go_ret
    exact ⟨rfl, (by repeat (first | with_reducible exact Below.refl _ _ | with_reducible assumption | with_reducible apply Below.drew | with_reducible apply below_drewN | (with_reducible apply below_setp; (first | omega | (simp <;> omega))) | (with_reducible apply below_allocp; (first | omega | (simp <;> omega))) | (with_reducible refine below_viap (by assumption) ?_ ?_; (first | omega | (simp <;> omega)))))⟩
theorem own_FnPrimeClasses : ownKnob Try.prog.godebug = none := by kernel_rfl

set_option maxRecDepth 100000 in
theorem lifted_FnPrimeClasses (os : Os) (started : os.Started) (H : Type) (enc : TypeId × Value → H) :
    ReturnsInHanded {} Try.checked os 7 .any (Rows.fnPrimeClassesSpec.pre6 enc Try.prog Try.f7 Rows.fnPrimeClassesRow.domain false) (Rows.fnPrimeClassesSpec.post enc Try.prog Try.f7 false true false false) := by
  refine returnsInHanded_of_change (C := Try.checked) own_FnPrimeClasses started (by kernel_rfl) Try.func7
    (ChangeSpec.witness6 (enc := enc) (C := Try.checked) false ⟨#[], #[.slice none 0 0, .slice none 0 0], []⟩ 8 (by kernel_rfl) (by kernel_rfl) (by kernel_rfl) (by kernel_rfl)) ?_
  intro W base args ds gs before hval0 hW hcnd _
  have hval : ∀ (j : Nat) t v, Try.f7.params[j]? = some t → args[j]? = some v → Value.okWide Try.prog W .any base t v := hval0
  have hW' := hW
  obtain ⟨p, q, hA0, hV, rfl, hfz, hnd⟩ := hW
  have hA : DataW.TrodAll enc Try.prog W 0 (fun _ => true) true Try.f7.params.toList args.toList ds p := hA0
  rw [Try.params7] at hA hval
  obtain ⟨v1, vs1, d1, ds1, p1, q1, hargs, rfl, rfl, h1, r1⟩ := trodAll_cons hA
  obtain ⟨v2, vs2, d2, ds2, p2, q2, rfl, rfl, rfl, h2, r2⟩ := trodAll_cons r1
  obtain ⟨rfl, rfl, rfl⟩ := trodAll_nil r2
  obtain rfl : args = #[v1, v2] := by cases args; simp_all
  obtain ⟨rfl, rfl⟩ := trodVars_none hV
  obtain ⟨zs, hrd⟩ := open_reB (hval 0 22 v1 rfl rfl) h1
  obtain ⟨es, hre⟩ := open_reB (hval 1 22 v2 rfl rfl) h2
  have hlt1 : ∀ x ∈ p1, x.block < W.heap.size := fun x hx => hW'.lt x (by simp [hx])
  have hlt2 : ∀ x ∈ p2, x.block < W.heap.size := fun x hx => hW'.lt x (by simp [hx])
  clear hA0 hval0
  refine (walk_FnPrimeClasses zs es v1 v2 W hrd hre).mono fun e W' ⟨he, hg⟩ => ?_
  subst he
  exact ⟨_, rfl, post_of_below (pa := p1 ++ (p2 ++ [])) (pv := []) hW' (fun _ _ _ => (trodAll_cons_mk (shut_bool Try.underlying4 _) trodAll_mk0)) (fun sp hsp => (trodAll_cons_mk (WideElems.Trod_stays laid_D3 (by kernel_rfl) (of_decide_eq_true (by kernel_rfl)) h1 (fun x hx => hg.same (hlt1 x hx)) (fun x hx => hsp x (by simp [hx]))) (trodAll_cons_mk (WideElems.Trod_stays laid_D3 (by kernel_rfl) (of_decide_eq_true (by kernel_rfl)) h2 (fun x hx => hg.same (hlt2 x hx)) (fun x hx => hsp x (by simp [hx]))) trodAll_mk0))) (fun _ _ => rfl) rfl
    hg (ok_one (by kernel_rfl) rfl (okWide_bool_mk Try.underlying4 _))⟩

/-- The statement. -/
theorem holds_FnPrimeClasses : Rows.FnPrimeClassesSaid :=
  OpenClaim.holds_of_wide 7 Try.f7 rfl rfl rfl rfl rfl rfl rfl ⟨rfl, rfl, rfl, rfl, rfl⟩ rfl rfl rfl rfl rfl (by kernel_rfl) Try.func7 (by kernel_rfl)
    (of_decide_eq_true (by kernel_rfl)) (by unfold Func.isWrapper; first | (rw [if_pos (by decide +kernel)]; kernel_rfl) | (rw [if_neg (by decide +kernel)]; exact ⟨rfl, rfl⟩))
    (fun os started H enc _ => lifted_FnPrimeClasses os started H enc)
#print axioms holds_FnPrimeClasses
end Go.Proofs.Ytbecjnmifdbnjaa
