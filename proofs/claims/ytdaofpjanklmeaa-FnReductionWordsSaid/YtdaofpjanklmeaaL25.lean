/- FnReductionWords returns true: for all drawn forms, the word of the reducing matrix multiplies to it; words of products multiply, and words of inverses are inverses. Conditions: none. -/
import Derived.Test.YtdaofpjanklmeaaWO
import Derived.Test.YtdaofpjanklmeaaDB
import Derived.Test.YtdaofpjanklmeaaW2
import Derived.Deep.DeepCutAuto
namespace Go.Proofs.Ytdaofpjanklmeaa
open Go.RowKit Go.ChangeShapes Go.WideShapes Go.ChangeAt Go.Joins

set_option maxRecDepth 100000 in
set_option maxHeartbeats 25600000 in
theorem walk_FnReductionWords (zs es : List Int) (v u : Value) (w : World) (hz : ReB zs v w) (he : ReB es u w) :
    Calls Try.prog 6 #[v, u] w fun e w' => e = .returned (.bool true) ∧ Below w.heap.size w w' := by
  have HZ := Lib.hid hz
  have HY := Lib.hid he
  obtain ⟨A, c1, rfl⟩ := hz.shape
  obtain ⟨A2, c2, rfl⟩ := he.shape
  clear hz he
  by_cases hbig : zs.length ≤ 1048576 ∧ es.length ≤ 1048576 - zs.length
  · have Hb := Lib.hid (fun w => big_no A A2 zs.length es.length c1 c2 w hbig.1 hbig.2)
    have HR := Lib.hid (HZ.out.rd hbig.1)
    have HE := Lib.hid (fun w' (hb : Below w.heap.size w w') => (HY.out.rd (by omega)).below hb (Nat.le_refl _))
    clear HZ HY hbig
    go_enter Try.func6, Try.ntmps6
    go_wp2_with (go_at_call 9; (with_reducible refine (Hb.out _).mono ?_); rintro e v ⟨rfl, rfl⟩)
    refine (drawRW_any zs _ _ _ HR.out (Nat.le_refl _)).mono ?_
    rintro e v1 ⟨f, rfl, hb1⟩
    have hz1 := hb1.size
    obtain ⟨hsg, hN, hmf⟩ := rw_facts f
    obtain ⟨m1, ok1, hWm⟩ := wmR_ex (rwS f) (rwL f)
    have HI := Lib.hid (fun w => implRW_any f w)
    have HS := Lib.hid (fun w => specRW_any f w)
    have HW1 := Lib.hid (fun v B w ho => implWM_any (rwS f) v B (rwL f) m1 ok1 w hsg ho hWm)
    have HW2 := Lib.hid (fun v B w ho => specWM_any (rwS f) v B (rwL f) m1 ok1 w hsg ho hWm)
    have HX := Lib.hid (fun (h : isDefB f.a f.b f.c = true) w => implReduce_d f.a f.b f.c w h (defB_def h))
    have HM := Lib.hid (hmf m1 ok1 hWm)
    have HN := Lib.hid hN
    clear hsg hmf hWm hN
    generalize rwS f = rs at *
    generalize rwL f = rl at *
    generalize isDefB f.a f.b f.c = dfb at *
    go_wp2_with fail
    refine (HI.out _).mono ?_
    rintro e v2 ⟨vl, rfl, hl2, hc2⟩
    have hz2 := hc2.size
    (try simp at hz2)
    have hF2 : Blk v2 (v1.heap.size) 35 #[.int .i64 f.a, .int .i64 f.b, .int .i64 f.c] := Blk.call (by (repeat (first | with_reducible assumption | (with_reducible apply Blk.new_at; (first | rfl | (simp; done))) | with_reducible apply Blk.store3 | with_reducible apply Blk.store4 | (with_reducible apply Blk.farp; (first | omega | (simp <;> omega))) | with_reducible apply Blk.allocp | with_reducible apply Blk.drew | with_reducible apply Blk.drewN))) hc2
    have cF2 := hF2.cell; have fF2 := hF2.frozen; have lF2 := hF2.lt; have mF2 := Nat.ne_of_gt lF2; have nF2 := Nat.ne_of_lt lF2
    have hb2 : Below w.heap.size w v2 := (by repeat (first | with_reducible exact Below.refl _ _ | with_reducible assumption | with_reducible apply Below.drew | with_reducible apply below_drewN | (with_reducible apply below_setp; (first | omega | (simp <;> omega))) | (with_reducible apply below_allocp; (first | omega | (simp <;> omega))) | (with_reducible refine below_viap (by assumption) ?_ ?_; (first | omega | (simp <;> omega)))))
    obtain ⟨bl, cl, rfl⟩ := own_shape hl2
    go_wp2_with fail
    refine (HS.out _).mono ?_
    rintro e v3 ⟨vm, rfl, hm3, hc3⟩
    have hz3 := hc3.size
    (try simp at hz3)
    have hF3 : Blk v3 (v1.heap.size) 35 #[.int .i64 f.a, .int .i64 f.b, .int .i64 f.c] := Blk.call (by (repeat (first | with_reducible assumption | (with_reducible apply Blk.new_at; (first | rfl | (simp; done))) | with_reducible apply Blk.store3 | with_reducible apply Blk.store4 | (with_reducible apply Blk.farp; (first | omega | (simp <;> omega))) | with_reducible apply Blk.allocp | with_reducible apply Blk.drew | with_reducible apply Blk.drewN))) hc3
    have cF3 := hF3.cell; have fF3 := hF3.frozen; have lF3 := hF3.lt; have mF3 := Nat.ne_of_gt lF3; have nF3 := Nat.ne_of_lt lF3
    have hP3 : Blk v3 (v2.heap.size) 70 #[.int .i64 rs, .slice bl rl.length cl] := Blk.call (by (repeat (first | with_reducible assumption | (with_reducible apply Blk.new_at; (first | rfl | (simp; done))) | with_reducible apply Blk.store3 | with_reducible apply Blk.store4 | (with_reducible apply Blk.farp; (first | omega | (simp <;> omega))) | with_reducible apply Blk.allocp | with_reducible apply Blk.drew | with_reducible apply Blk.drewN))) hc3
    have cP3 := hP3.cell; have fP3 := hP3.frozen; have lP3 := hP3.lt; have mP3 := Nat.ne_of_gt lP3; have nP3 := Nat.ne_of_lt lP3
    have hl3 := own_call hc3 (by have := hl2; exact (by repeat (first | with_reducible assumption | with_reducible apply own_alloc | with_reducible apply own_drew | with_reducible apply own_drewN | (with_reducible refine own_setp (by assumption) ?_ ?_; (first | omega | (simp <;> omega))) | (with_reducible refine own_call (by assumption) ?_))))
    have hb3 : Below w.heap.size w v3 := (by repeat (first | with_reducible exact Below.refl _ _ | with_reducible assumption | with_reducible apply Below.drew | with_reducible apply below_drewN | (with_reducible apply below_setp; (first | omega | (simp <;> omega))) | (with_reducible apply below_allocp; (first | omega | (simp <;> omega))) | (with_reducible refine below_viap (by assumption) ?_ ?_; (first | omega | (simp <;> omega)))))
    clear hF2 cF2 fF2 lF2 mF2 nF2 hl2
    obtain ⟨bm, cm, rfl⟩ := own_shape hm3
    go_wp2_with fail
    refine (sameInts_same (.slice bl rl.length cl) (.slice bm rl.length cm) _ _ rl _ (by have := HN.out; omega) (by first | exact hl3 | (have := hl3; exact (by repeat (first | with_reducible assumption | with_reducible apply own_alloc | with_reducible apply own_drew | with_reducible apply own_drewN | (with_reducible refine own_setp (by assumption) ?_ ?_; (first | omega | (simp <;> omega))) | (with_reducible refine own_call (by assumption) ?_))))) (by first | exact hm3 | (have := hm3; exact (by repeat (first | with_reducible assumption | with_reducible apply own_alloc | with_reducible apply own_drew | with_reducible apply own_drewN | (with_reducible refine own_setp (by assumption) ?_ ?_; (first | omega | (simp <;> omega))) | (with_reducible refine own_call (by assumption) ?_)))))).mono ?_
    rintro e v4 ⟨rfl, hc4⟩
    have hz4 := hc4.size
    (try simp at hz4)
    have hF4 : Blk v4 (v1.heap.size) 35 #[.int .i64 f.a, .int .i64 f.b, .int .i64 f.c] := Blk.call (by (repeat (first | with_reducible assumption | (with_reducible apply Blk.new_at; (first | rfl | (simp; done))) | with_reducible apply Blk.store3 | with_reducible apply Blk.store4 | (with_reducible apply Blk.farp; (first | omega | (simp <;> omega))) | with_reducible apply Blk.allocp | with_reducible apply Blk.drew | with_reducible apply Blk.drewN))) hc4
    have cF4 := hF4.cell; have fF4 := hF4.frozen; have lF4 := hF4.lt; have mF4 := Nat.ne_of_gt lF4; have nF4 := Nat.ne_of_lt lF4
    have hP4 : Blk v4 (v2.heap.size) 70 #[.int .i64 rs, .slice bl rl.length cl] := Blk.call (by (repeat (first | with_reducible assumption | (with_reducible apply Blk.new_at; (first | rfl | (simp; done))) | with_reducible apply Blk.store3 | with_reducible apply Blk.store4 | (with_reducible apply Blk.farp; (first | omega | (simp <;> omega))) | with_reducible apply Blk.allocp | with_reducible apply Blk.drew | with_reducible apply Blk.drewN))) hc4
    have cP4 := hP4.cell; have fP4 := hP4.frozen; have lP4 := hP4.lt; have mP4 := Nat.ne_of_gt lP4; have nP4 := Nat.ne_of_lt lP4
    have hQ4 : Blk v4 (v3.heap.size) 70 #[.int .i64 rs, .slice bm rl.length cm] := Blk.call (by (repeat (first | with_reducible assumption | (with_reducible apply Blk.new_at; (first | rfl | (simp; done))) | with_reducible apply Blk.store3 | with_reducible apply Blk.store4 | (with_reducible apply Blk.farp; (first | omega | (simp <;> omega))) | with_reducible apply Blk.allocp | with_reducible apply Blk.drew | with_reducible apply Blk.drewN))) hc4
    have cQ4 := hQ4.cell; have fQ4 := hQ4.frozen; have lQ4 := hQ4.lt; have mQ4 := Nat.ne_of_gt lQ4; have nQ4 := Nat.ne_of_lt lQ4
    have hl4 := own_call hc4 (by have := hl3; exact (by repeat (first | with_reducible assumption | with_reducible apply own_alloc | with_reducible apply own_drew | with_reducible apply own_drewN | (with_reducible refine own_setp (by assumption) ?_ ?_; (first | omega | (simp <;> omega))) | (with_reducible refine own_call (by assumption) ?_))))
    have hm4 := own_call hc4 (by have := hm3; exact (by repeat (first | with_reducible assumption | with_reducible apply own_alloc | with_reducible apply own_drew | with_reducible apply own_drewN | (with_reducible refine own_setp (by assumption) ?_ ?_; (first | omega | (simp <;> omega))) | (with_reducible refine own_call (by assumption) ?_))))
    have hb4 : Below w.heap.size w v4 := (by repeat (first | with_reducible exact Below.refl _ _ | with_reducible assumption | with_reducible apply Below.drew | with_reducible apply below_drewN | (with_reducible apply below_setp; (first | omega | (simp <;> omega))) | (with_reducible apply below_allocp; (first | omega | (simp <;> omega))) | (with_reducible refine below_viap (by assumption) ?_ ?_; (first | omega | (simp <;> omega)))))
    clear hF3 cF3 fF3 lF3 mF3 nF3 hP3 cP3 fP3 lP3 mP3 nP3 hl3 hm3
    go_upto_if 74 with fail
    go_cut [] (fun wx => Below v4.heap.size v4 wx)
    case first =>
      as_aux_lemma =>
        cases dfb with
        | false =>
          go_wp2_with fail
          go_meet
          exact Below.refl _ _
        | true =>
          have hX := Lib.hid (fun w => HX.out rfl w)
          clear HX
          go_wp2_with fail
          refine (HW1.out _ _ _ ⟨(by have := HN.out; omega), (by have := hl4; exact (by repeat (first | with_reducible assumption | with_reducible apply own_alloc | with_reducible apply own_drew | with_reducible apply own_drewN | (with_reducible refine own_setp (by assumption) ?_ ?_; (first | omega | (simp <;> omega))) | (with_reducible refine own_call (by assumption) ?_))))⟩).mono ?_
          rintro e v5 ⟨rfl, hc5⟩
          have hz5 := hc5.size
          (try simp at hz5)
          have hF5 : Blk v5 (v1.heap.size) 35 #[.int .i64 f.a, .int .i64 f.b, .int .i64 f.c] := Blk.call (by (repeat (first | with_reducible assumption | (with_reducible apply Blk.new_at; (first | rfl | (simp; done))) | with_reducible apply Blk.store3 | with_reducible apply Blk.store4 | (with_reducible apply Blk.farp; (first | omega | (simp <;> omega))) | with_reducible apply Blk.allocp | with_reducible apply Blk.drew | with_reducible apply Blk.drewN))) hc5
          have cF5 := hF5.cell; have fF5 := hF5.frozen; have lF5 := hF5.lt; have mF5 := Nat.ne_of_gt lF5; have nF5 := Nat.ne_of_lt lF5
          have hP5 : Blk v5 (v2.heap.size) 70 #[.int .i64 rs, .slice bl rl.length cl] := Blk.call (by (repeat (first | with_reducible assumption | (with_reducible apply Blk.new_at; (first | rfl | (simp; done))) | with_reducible apply Blk.store3 | with_reducible apply Blk.store4 | (with_reducible apply Blk.farp; (first | omega | (simp <;> omega))) | with_reducible apply Blk.allocp | with_reducible apply Blk.drew | with_reducible apply Blk.drewN))) hc5
          have cP5 := hP5.cell; have fP5 := hP5.frozen; have lP5 := hP5.lt; have mP5 := Nat.ne_of_gt lP5; have nP5 := Nat.ne_of_lt lP5
          have hQ5 : Blk v5 (v3.heap.size) 70 #[.int .i64 rs, .slice bm rl.length cm] := Blk.call (by (repeat (first | with_reducible assumption | (with_reducible apply Blk.new_at; (first | rfl | (simp; done))) | with_reducible apply Blk.store3 | with_reducible apply Blk.store4 | (with_reducible apply Blk.farp; (first | omega | (simp <;> omega))) | with_reducible apply Blk.allocp | with_reducible apply Blk.drew | with_reducible apply Blk.drewN))) hc5
          have cQ5 := hQ5.cell; have fQ5 := hQ5.frozen; have lQ5 := hQ5.lt; have mQ5 := Nat.ne_of_gt lQ5; have nQ5 := Nat.ne_of_lt lQ5
          have hl5 := own_call hc5 hl4
          have hm5 := own_call hc5 hm4
          have hb5 : Below v4.heap.size v4 v5 := (by repeat (first | with_reducible exact Below.refl _ _ | with_reducible assumption | with_reducible apply Below.drew | with_reducible apply below_drewN | (with_reducible apply below_setp; (first | omega | (simp <;> omega))) | (with_reducible apply below_allocp; (first | omega | (simp <;> omega))) | (with_reducible refine below_viap (by assumption) ?_ ?_; (first | omega | (simp <;> omega)))))
          clear hF4 cF4 fF4 lF4 mF4 nF4 hP4 cP4 fP4 lP4 mP4 nP4 hQ4 cQ4 fQ4 lQ4 mQ4 nQ4 hl4 hm4
          go_wp2_with fail
          refine (HW2.out _ _ _ ⟨(by have := HN.out; omega), (by have := hm5; exact (by repeat (first | with_reducible assumption | with_reducible apply own_alloc | with_reducible apply own_drew | with_reducible apply own_drewN | (with_reducible refine own_setp (by assumption) ?_ ?_; (first | omega | (simp <;> omega))) | (with_reducible refine own_call (by assumption) ?_))))⟩).mono ?_
          rintro e v6 ⟨rfl, hc6⟩
          have hz6 := hc6.size
          (try simp at hz6)
          have hF6 : Blk v6 (v1.heap.size) 35 #[.int .i64 f.a, .int .i64 f.b, .int .i64 f.c] := Blk.call (by (repeat (first | with_reducible assumption | (with_reducible apply Blk.new_at; (first | rfl | (simp; done))) | with_reducible apply Blk.store3 | with_reducible apply Blk.store4 | (with_reducible apply Blk.farp; (first | omega | (simp <;> omega))) | with_reducible apply Blk.allocp | with_reducible apply Blk.drew | with_reducible apply Blk.drewN))) hc6
          have cF6 := hF6.cell; have fF6 := hF6.frozen; have lF6 := hF6.lt; have mF6 := Nat.ne_of_gt lF6; have nF6 := Nat.ne_of_lt lF6
          have hP6 : Blk v6 (v2.heap.size) 70 #[.int .i64 rs, .slice bl rl.length cl] := Blk.call (by (repeat (first | with_reducible assumption | (with_reducible apply Blk.new_at; (first | rfl | (simp; done))) | with_reducible apply Blk.store3 | with_reducible apply Blk.store4 | (with_reducible apply Blk.farp; (first | omega | (simp <;> omega))) | with_reducible apply Blk.allocp | with_reducible apply Blk.drew | with_reducible apply Blk.drewN))) hc6
          have cP6 := hP6.cell; have fP6 := hP6.frozen; have lP6 := hP6.lt; have mP6 := Nat.ne_of_gt lP6; have nP6 := Nat.ne_of_lt lP6
          have hQ6 : Blk v6 (v3.heap.size) 70 #[.int .i64 rs, .slice bm rl.length cm] := Blk.call (by (repeat (first | with_reducible assumption | (with_reducible apply Blk.new_at; (first | rfl | (simp; done))) | with_reducible apply Blk.store3 | with_reducible apply Blk.store4 | (with_reducible apply Blk.farp; (first | omega | (simp <;> omega))) | with_reducible apply Blk.allocp | with_reducible apply Blk.drew | with_reducible apply Blk.drewN))) hc6
          have cQ6 := hQ6.cell; have fQ6 := hQ6.frozen; have lQ6 := hQ6.lt; have mQ6 := Nat.ne_of_gt lQ6; have nQ6 := Nat.ne_of_lt lQ6
          have hM6 : Blk v6 (v5.heap.size) 49 #[.int .i64 m1.p, .int .i64 m1.q, .int .i64 m1.r, .int .i64 m1.s] := Blk.call (by (repeat (first | with_reducible assumption | (with_reducible apply Blk.new_at; (first | rfl | (simp; done))) | with_reducible apply Blk.store3 | with_reducible apply Blk.store4 | (with_reducible apply Blk.farp; (first | omega | (simp <;> omega))) | with_reducible apply Blk.allocp | with_reducible apply Blk.drew | with_reducible apply Blk.drewN))) hc6
          have cM6 := hM6.cell; have fM6 := hM6.frozen; have lM6 := hM6.lt; have mM6 := Nat.ne_of_gt lM6; have nM6 := Nat.ne_of_lt lM6
          have hl6 := own_call hc6 (by have := hl5; exact (by repeat (first | with_reducible assumption | with_reducible apply own_alloc | with_reducible apply own_drew | with_reducible apply own_drewN | (with_reducible refine own_setp (by assumption) ?_ ?_; (first | omega | (simp <;> omega))) | (with_reducible refine own_call (by assumption) ?_))))
          have hm6 := own_call hc6 (by have := hm5; exact (by repeat (first | with_reducible assumption | with_reducible apply own_alloc | with_reducible apply own_drew | with_reducible apply own_drewN | (with_reducible refine own_setp (by assumption) ?_ ?_; (first | omega | (simp <;> omega))) | (with_reducible refine own_call (by assumption) ?_))))
          have hb6 : Below v4.heap.size v4 v6 := (by repeat (first | with_reducible exact Below.refl _ _ | with_reducible assumption | with_reducible apply Below.drew | with_reducible apply below_drewN | (with_reducible apply below_setp; (first | omega | (simp <;> omega))) | (with_reducible apply below_allocp; (first | omega | (simp <;> omega))) | (with_reducible refine below_viap (by assumption) ?_ ?_; (first | omega | (simp <;> omega)))))
          clear hF5 cF5 fF5 lF5 mF5 nF5 hP5 cP5 fP5 lP5 mP5 nP5 hQ5 cQ5 fQ5 lQ5 mQ5 nQ5 hl5 hm5
          go_wp2_with fail
          refine (hX.out _).mono ?_
          rintro e v7 ⟨rfl, hc7⟩
          have hz7 := hc7.size
          (try simp at hz7)
          have hF7 : Blk v7 (v1.heap.size) 35 #[.int .i64 f.a, .int .i64 f.b, .int .i64 f.c] := Blk.call (by (repeat (first | with_reducible assumption | (with_reducible apply Blk.new_at; (first | rfl | (simp; done))) | with_reducible apply Blk.store3 | with_reducible apply Blk.store4 | (with_reducible apply Blk.farp; (first | omega | (simp <;> omega))) | with_reducible apply Blk.allocp | with_reducible apply Blk.drew | with_reducible apply Blk.drewN))) hc7
          have cF7 := hF7.cell; have fF7 := hF7.frozen; have lF7 := hF7.lt; have mF7 := Nat.ne_of_gt lF7; have nF7 := Nat.ne_of_lt lF7
          have hP7 : Blk v7 (v2.heap.size) 70 #[.int .i64 rs, .slice bl rl.length cl] := Blk.call (by (repeat (first | with_reducible assumption | (with_reducible apply Blk.new_at; (first | rfl | (simp; done))) | with_reducible apply Blk.store3 | with_reducible apply Blk.store4 | (with_reducible apply Blk.farp; (first | omega | (simp <;> omega))) | with_reducible apply Blk.allocp | with_reducible apply Blk.drew | with_reducible apply Blk.drewN))) hc7
          have cP7 := hP7.cell; have fP7 := hP7.frozen; have lP7 := hP7.lt; have mP7 := Nat.ne_of_gt lP7; have nP7 := Nat.ne_of_lt lP7
          have hQ7 : Blk v7 (v3.heap.size) 70 #[.int .i64 rs, .slice bm rl.length cm] := Blk.call (by (repeat (first | with_reducible assumption | (with_reducible apply Blk.new_at; (first | rfl | (simp; done))) | with_reducible apply Blk.store3 | with_reducible apply Blk.store4 | (with_reducible apply Blk.farp; (first | omega | (simp <;> omega))) | with_reducible apply Blk.allocp | with_reducible apply Blk.drew | with_reducible apply Blk.drewN))) hc7
          have cQ7 := hQ7.cell; have fQ7 := hQ7.frozen; have lQ7 := hQ7.lt; have mQ7 := Nat.ne_of_gt lQ7; have nQ7 := Nat.ne_of_lt lQ7
          have hM7 : Blk v7 (v5.heap.size) 49 #[.int .i64 m1.p, .int .i64 m1.q, .int .i64 m1.r, .int .i64 m1.s] := Blk.call (by (repeat (first | with_reducible assumption | (with_reducible apply Blk.new_at; (first | rfl | (simp; done))) | with_reducible apply Blk.store3 | with_reducible apply Blk.store4 | (with_reducible apply Blk.farp; (first | omega | (simp <;> omega))) | with_reducible apply Blk.allocp | with_reducible apply Blk.drew | with_reducible apply Blk.drewN))) hc7
          have cM7 := hM7.cell; have fM7 := hM7.frozen; have lM7 := hM7.lt; have mM7 := Nat.ne_of_gt lM7; have nM7 := Nat.ne_of_lt lM7
          have hK7 : Blk v7 (v6.heap.size) 49 #[.int .i64 m1.p, .int .i64 m1.q, .int .i64 m1.r, .int .i64 m1.s] := Blk.call (by (repeat (first | with_reducible assumption | (with_reducible apply Blk.new_at; (first | rfl | (simp; done))) | with_reducible apply Blk.store3 | with_reducible apply Blk.store4 | (with_reducible apply Blk.farp; (first | omega | (simp <;> omega))) | with_reducible apply Blk.allocp | with_reducible apply Blk.drew | with_reducible apply Blk.drewN))) hc7
          have cK7 := hK7.cell; have fK7 := hK7.frozen; have lK7 := hK7.lt; have mK7 := Nat.ne_of_gt lK7; have nK7 := Nat.ne_of_lt lK7
          have hl7 := own_call hc7 (by have := hl6; exact (by repeat (first | with_reducible assumption | with_reducible apply own_alloc | with_reducible apply own_drew | with_reducible apply own_drewN | (with_reducible refine own_setp (by assumption) ?_ ?_; (first | omega | (simp <;> omega))) | (with_reducible refine own_call (by assumption) ?_))))
          have hm7 := own_call hc7 (by have := hm6; exact (by repeat (first | with_reducible assumption | with_reducible apply own_alloc | with_reducible apply own_drew | with_reducible apply own_drewN | (with_reducible refine own_setp (by assumption) ?_ ?_; (first | omega | (simp <;> omega))) | (with_reducible refine own_call (by assumption) ?_))))
          have hb7 : Below v4.heap.size v4 v7 := (by repeat (first | with_reducible exact Below.refl _ _ | with_reducible assumption | with_reducible apply Below.drew | with_reducible apply below_drewN | (with_reducible apply below_setp; (first | omega | (simp <;> omega))) | (with_reducible apply below_allocp; (first | omega | (simp <;> omega))) | (with_reducible refine below_viap (by assumption) ?_ ?_; (first | omega | (simp <;> omega)))))
          clear hF6 cF6 fF6 lF6 mF6 nF6 hP6 cP6 fP6 lP6 mP6 nP6 hQ6 cQ6 fQ6 lQ6 mQ6 nQ6 hM6 cM6 fM6 lM6 mM6 nM6 hl6 hm6
          cases ok1 with
          | false =>
            go_wp2_with fail
            go_meet
            exact (by repeat (first | with_reducible exact Below.refl _ _ | with_reducible assumption | with_reducible apply Below.drew | with_reducible apply below_drewN | (with_reducible apply below_setp; (first | omega | (simp <;> omega))) | (with_reducible apply below_allocp; (first | omega | (simp <;> omega))) | (with_reducible refine below_viap (by assumption) ?_ ?_; (first | omega | (simp <;> omega)))))
          | true =>
            obtain rfl := HM.out rfl
            go_wp2_with fail
            go_meet
            exact (by repeat (first | with_reducible exact Below.refl _ _ | with_reducible assumption | with_reducible apply Below.drew | with_reducible apply below_drewN | (with_reducible apply below_setp; (first | omega | (simp <;> omega))) | (with_reducible apply below_allocp; (first | omega | (simp <;> omega))) | (with_reducible refine below_viap (by assumption) ?_ ?_; (first | omega | (simp <;> omega)))))
    case rest =>
      have hbc : Below w.heap.size w wc := (by repeat (first | with_reducible exact Below.refl _ _ | with_reducible assumption | with_reducible apply Below.drew | with_reducible apply below_drewN | (with_reducible apply below_setp; (first | omega | (simp <;> omega))) | (with_reducible apply below_allocp; (first | omega | (simp <;> omega))) | (with_reducible refine below_viap (by assumption) ?_ ?_; (first | omega | (simp <;> omega)))))
      have hzc := hbc.size
      clear hcut hb4 hb3 hb2 hz2 hz3 hz4 HI HS HW1 HW2 HX HM hF4 cF4 fF4 lF4 mF4 nF4 hP4 cP4 fP4 lP4 mP4 nP4 hQ4 cQ4 fQ4 lQ4 mQ4 nQ4 hl4 hm4
      go_wp2_with fail
      refine (drawWP_any es _ w.heap.size _ (HE.out _ (by repeat (first | with_reducible exact Below.refl _ _ | with_reducible assumption | with_reducible apply Below.drew | with_reducible apply below_drewN | (with_reducible apply below_setp; (first | omega | (simp <;> omega))) | (with_reducible apply below_allocp; (first | omega | (simp <;> omega))) | (with_reducible refine below_viap (by assumption) ?_ ?_; (first | omega | (simp <;> omega)))))) (by first | omega | (simp <;> omega))).mono ?_
      rintro e v5 ⟨s, LA, va, t, LB, vb, rfl, ⟨hs, ht⟩, hoa, hob, hc5⟩
      have hz5 := hc5.size
      (try simp at hz5)
      have hb5 : Below w.heap.size w v5 := (by repeat (first | with_reducible exact Below.refl _ _ | with_reducible assumption | with_reducible apply Below.drew | with_reducible apply below_drewN | (with_reducible apply below_setp; (first | omega | (simp <;> omega))) | (with_reducible apply below_allocp; (first | omega | (simp <;> omega))) | (with_reducible refine below_viap (by assumption) ?_ ?_; (first | omega | (simp <;> omega)))))
      obtain ⟨ba, ca, rfl⟩ := own_shape hoa.2
      obtain ⟨bb, cb, rfl⟩ := own_shape hob.2
      have HLA := Lib.hid hoa.1
      have HLB := Lib.hid hob.1
      have ha5 := hoa.2
      have hd5 := hob.2
      obtain ⟨ps, hps⟩ : ∃ x, (if prdB s LA t LB = true then s * t else 0) = x := ⟨_, rfl⟩
      obtain ⟨pl, hpl⟩ : ∃ x, (if prdB s LA t LB = true then prodL LA LB else []) = x := ⟨_, rfl⟩
      have hpf := pr_facts hps hpl
      obtain ⟨mx, okx, hX⟩ := wmR_ex s LA
      obtain ⟨my, oky, hY⟩ := wmR_ex t LB
      obtain ⟨mz, okz, hZ⟩ := wmR_ex ps pl
      have HP := Lib.hid (fun w Ba Bb h1 h2 => implWP_any s t (.slice ba LA.length ca) (.slice bb LB.length cb) Ba Bb LA LB w hs ht h1 h2)
      have HQ := Lib.hid (fun w Ba Bb h1 h2 => specWP_any s t (.slice ba LA.length ca) (.slice bb LB.length cb) Ba Bb LA LB w hs ht h1 h2)
      rw [hps, hpl] at HP HQ
      have HX := Lib.hid (fun v B w ho => specWM_any s v B LA mx okx w hs ho hX)
      have HY := Lib.hid (fun v B w ho => specWM_any t v B LB my oky w ht ho hY)
      have HZ := Lib.hid (fun v B w ho => implWM_any ps v B pl mz okz w hpf.1 ho hZ)
      have HT := Lib.hid (fun (h1 : prdB s LA t LB = true) (h2 : okx = true) (h3 : oky = true) (h4 : okz = true) => wpp_facts h1 hps hpl h2 h3 h4 hX hY hZ)
      have HplN := Lib.hid hpf.2
      obtain ⟨is, his⟩ : ∃ x, (if isWd s LA = true then pmL LA * s else 0) = x := ⟨_, rfl⟩
      obtain ⟨il, hil⟩ : ∃ x, (if isWd s LA = true then invL LA else []) = x := ⟨_, rfl⟩
      have hif := ivv_facts his hil
      obtain ⟨mv, okv, hV⟩ := wmR_ex is il
      have HJ := Lib.hid (fun w B h1 => implInv_any s (.slice ba LA.length ca) B LA w hs h1)
      have HK := Lib.hid (fun w B h1 => specInv_any s (.slice ba LA.length ca) B LA w hs h1)
      rw [his, hil] at HJ HK
      have HV := Lib.hid (fun v B w ho => specWM_any is v B il mv okv w hif.1 ho hV)
      have HU := Lib.hid (fun (h1 : isWd s LA = true) (h2 : okx = true) (h4 : okv = true) => ivw_facts h1 his hil h2 h4 hX hV)
      have HilN := Lib.hid hif.2
      obtain ⟨nws, nwl, hnw, hns, hnl, hNc⟩ := nw_ex hs hX
      have HNw := Lib.hid hNc
      have Hnl := Lib.hid hnl
      have HNi := Lib.hid (fun (h2 : okx = true) v B w ho => IsWord_y nws v B nwl w hns ho (hnw h2))
      have Hmi := Lib.hid (fun w (h2 : okx = true) => MatrixInverse_yes mx w (wm_num (h2 ▸ hX)).1 (wm_num (h2 ▸ hX)).2.1)
      clear hnl hNc hnw hns hX hY hZ hV hps hpl his hil hpf hif hoa hob HE hs ht
      generalize prdB s LA t LB = K at *
      generalize isWd s LA = J at *
      go_wp2_with fail
      refine (HP.out _ _ _ ⟨HLA.out, (by have := ha5; exact (by repeat (first | with_reducible assumption | with_reducible apply own_alloc | with_reducible apply own_drew | with_reducible apply own_drewN | (with_reducible refine own_setp (by assumption) ?_ ?_; (first | omega | (simp <;> omega))) | (with_reducible refine own_call (by assumption) ?_))))⟩ ⟨HLB.out, (by have := hd5; exact (by repeat (first | with_reducible assumption | with_reducible apply own_alloc | with_reducible apply own_drew | with_reducible apply own_drewN | (with_reducible refine own_setp (by assumption) ?_ ?_; (first | omega | (simp <;> omega))) | (with_reducible refine own_call (by assumption) ?_))))⟩).mono ?_
      rintro e v6 ⟨vp, rfl, hp6, hc6⟩
      have hz6 := hc6.size
      (try simp at hz6)
      have hA6 : Blk v6 (v5.heap.size) 70 #[.int .i64 s, .slice ba LA.length ca] := Blk.call (by (repeat (first | with_reducible assumption | (with_reducible apply Blk.new_at; (first | rfl | (simp; done))) | with_reducible apply Blk.store3 | with_reducible apply Blk.store4 | (with_reducible apply Blk.farp; (first | omega | (simp <;> omega))) | with_reducible apply Blk.allocp | with_reducible apply Blk.drew | with_reducible apply Blk.drewN))) hc6
      have cA6 := hA6.cell; have fA6 := hA6.frozen; have lA6 := hA6.lt; have mA6 := Nat.ne_of_gt lA6; have nA6 := Nat.ne_of_lt lA6
      have hB6 : Blk v6 (v5.heap.size + 1) 70 #[.int .i64 t, .slice bb LB.length cb] := Blk.call (by (repeat (first | with_reducible assumption | (with_reducible apply Blk.new_at; (first | rfl | (simp; done))) | with_reducible apply Blk.store3 | with_reducible apply Blk.store4 | (with_reducible apply Blk.farp; (first | omega | (simp <;> omega))) | with_reducible apply Blk.allocp | with_reducible apply Blk.drew | with_reducible apply Blk.drewN))) hc6
      have cB6 := hB6.cell; have fB6 := hB6.frozen; have lB6 := hB6.lt; have mB6 := Nat.ne_of_gt lB6; have nB6 := Nat.ne_of_lt lB6
      have ha6 := own_call hc6 (by have := ha5; exact (by repeat (first | with_reducible assumption | with_reducible apply own_alloc | with_reducible apply own_drew | with_reducible apply own_drewN | (with_reducible refine own_setp (by assumption) ?_ ?_; (first | omega | (simp <;> omega))) | (with_reducible refine own_call (by assumption) ?_))))
      have hd6 := own_call hc6 (by have := hd5; exact (by repeat (first | with_reducible assumption | with_reducible apply own_alloc | with_reducible apply own_drew | with_reducible apply own_drewN | (with_reducible refine own_setp (by assumption) ?_ ?_; (first | omega | (simp <;> omega))) | (with_reducible refine own_call (by assumption) ?_))))
      have hb6 : Below w.heap.size w v6 := (by repeat (first | with_reducible exact Below.refl _ _ | with_reducible assumption | with_reducible apply Below.drew | with_reducible apply below_drewN | (with_reducible apply below_setp; (first | omega | (simp <;> omega))) | (with_reducible apply below_allocp; (first | omega | (simp <;> omega))) | (with_reducible refine below_viap (by assumption) ?_ ?_; (first | omega | (simp <;> omega)))))
      clear ha5 hd5
      obtain ⟨bp, cp, rfl⟩ := own_shape hp6
      go_wp2_with fail
      refine (HQ.out _ _ _ ⟨HLA.out, (by have := ha6; exact (by repeat (first | with_reducible assumption | with_reducible apply own_alloc | with_reducible apply own_drew | with_reducible apply own_drewN | (with_reducible refine own_setp (by assumption) ?_ ?_; (first | omega | (simp <;> omega))) | (with_reducible refine own_call (by assumption) ?_))))⟩ ⟨HLB.out, (by have := hd6; exact (by repeat (first | with_reducible assumption | with_reducible apply own_alloc | with_reducible apply own_drew | with_reducible apply own_drewN | (with_reducible refine own_setp (by assumption) ?_ ?_; (first | omega | (simp <;> omega))) | (with_reducible refine own_call (by assumption) ?_))))⟩).mono ?_
      rintro e v7 ⟨vq, rfl, hq7, hc7⟩
      have hz7 := hc7.size
      (try simp at hz7)
      have hA7 : Blk v7 (v5.heap.size) 70 #[.int .i64 s, .slice ba LA.length ca] := Blk.call (by (repeat (first | with_reducible assumption | (with_reducible apply Blk.new_at; (first | rfl | (simp; done))) | with_reducible apply Blk.store3 | with_reducible apply Blk.store4 | (with_reducible apply Blk.farp; (first | omega | (simp <;> omega))) | with_reducible apply Blk.allocp | with_reducible apply Blk.drew | with_reducible apply Blk.drewN))) hc7
      have cA7 := hA7.cell; have fA7 := hA7.frozen; have lA7 := hA7.lt; have mA7 := Nat.ne_of_gt lA7; have nA7 := Nat.ne_of_lt lA7
      have hB7 : Blk v7 (v5.heap.size + 1) 70 #[.int .i64 t, .slice bb LB.length cb] := Blk.call (by (repeat (first | with_reducible assumption | (with_reducible apply Blk.new_at; (first | rfl | (simp; done))) | with_reducible apply Blk.store3 | with_reducible apply Blk.store4 | (with_reducible apply Blk.farp; (first | omega | (simp <;> omega))) | with_reducible apply Blk.allocp | with_reducible apply Blk.drew | with_reducible apply Blk.drewN))) hc7
      have cB7 := hB7.cell; have fB7 := hB7.frozen; have lB7 := hB7.lt; have mB7 := Nat.ne_of_gt lB7; have nB7 := Nat.ne_of_lt lB7
      have hP7 : Blk v7 (v6.heap.size) 70 #[.int .i64 ps, .slice bp pl.length cp] := Blk.call (by (repeat (first | with_reducible assumption | (with_reducible apply Blk.new_at; (first | rfl | (simp; done))) | with_reducible apply Blk.store3 | with_reducible apply Blk.store4 | (with_reducible apply Blk.farp; (first | omega | (simp <;> omega))) | with_reducible apply Blk.allocp | with_reducible apply Blk.drew | with_reducible apply Blk.drewN))) hc7
      have cP7 := hP7.cell; have fP7 := hP7.frozen; have lP7 := hP7.lt; have mP7 := Nat.ne_of_gt lP7; have nP7 := Nat.ne_of_lt lP7
      have ha7 := own_call hc7 (by have := ha6; exact (by repeat (first | with_reducible assumption | with_reducible apply own_alloc | with_reducible apply own_drew | with_reducible apply own_drewN | (with_reducible refine own_setp (by assumption) ?_ ?_; (first | omega | (simp <;> omega))) | (with_reducible refine own_call (by assumption) ?_))))
      have hd7 := own_call hc7 (by have := hd6; exact (by repeat (first | with_reducible assumption | with_reducible apply own_alloc | with_reducible apply own_drew | with_reducible apply own_drewN | (with_reducible refine own_setp (by assumption) ?_ ?_; (first | omega | (simp <;> omega))) | (with_reducible refine own_call (by assumption) ?_))))
      have hp7 := own_call hc7 (by have := hp6; exact (by repeat (first | with_reducible assumption | with_reducible apply own_alloc | with_reducible apply own_drew | with_reducible apply own_drewN | (with_reducible refine own_setp (by assumption) ?_ ?_; (first | omega | (simp <;> omega))) | (with_reducible refine own_call (by assumption) ?_))))
      have hb7 : Below w.heap.size w v7 := (by repeat (first | with_reducible exact Below.refl _ _ | with_reducible assumption | with_reducible apply Below.drew | with_reducible apply below_drewN | (with_reducible apply below_setp; (first | omega | (simp <;> omega))) | (with_reducible apply below_allocp; (first | omega | (simp <;> omega))) | (with_reducible refine below_viap (by assumption) ?_ ?_; (first | omega | (simp <;> omega)))))
      clear hA6 cA6 fA6 lA6 mA6 nA6 hB6 cB6 fB6 lB6 mB6 nB6 ha6 hd6 hp6
      obtain ⟨bq, cq, rfl⟩ := own_shape hq7
      go_wp2_with fail
      refine (sameInts_same (.slice bp pl.length cp) (.slice bq pl.length cq) _ _ pl _ (by have := HplN.out; omega) (by have := hp7; exact (by repeat (first | with_reducible assumption | with_reducible apply own_alloc | with_reducible apply own_drew | with_reducible apply own_drewN | (with_reducible refine own_setp (by assumption) ?_ ?_; (first | omega | (simp <;> omega))) | (with_reducible refine own_call (by assumption) ?_)))) (by have := hq7; exact (by repeat (first | with_reducible assumption | with_reducible apply own_alloc | with_reducible apply own_drew | with_reducible apply own_drewN | (with_reducible refine own_setp (by assumption) ?_ ?_; (first | omega | (simp <;> omega))) | (with_reducible refine own_call (by assumption) ?_))))).mono ?_
      rintro e v8 ⟨rfl, hc8⟩
      have hz8 := hc8.size
      (try simp at hz8)
      have hA8 : Blk v8 (v5.heap.size) 70 #[.int .i64 s, .slice ba LA.length ca] := Blk.call (by (repeat (first | with_reducible assumption | (with_reducible apply Blk.new_at; (first | rfl | (simp; done))) | with_reducible apply Blk.store3 | with_reducible apply Blk.store4 | (with_reducible apply Blk.farp; (first | omega | (simp <;> omega))) | with_reducible apply Blk.allocp | with_reducible apply Blk.drew | with_reducible apply Blk.drewN))) hc8
      have cA8 := hA8.cell; have fA8 := hA8.frozen; have lA8 := hA8.lt; have mA8 := Nat.ne_of_gt lA8; have nA8 := Nat.ne_of_lt lA8
      have hB8 : Blk v8 (v5.heap.size + 1) 70 #[.int .i64 t, .slice bb LB.length cb] := Blk.call (by (repeat (first | with_reducible assumption | (with_reducible apply Blk.new_at; (first | rfl | (simp; done))) | with_reducible apply Blk.store3 | with_reducible apply Blk.store4 | (with_reducible apply Blk.farp; (first | omega | (simp <;> omega))) | with_reducible apply Blk.allocp | with_reducible apply Blk.drew | with_reducible apply Blk.drewN))) hc8
      have cB8 := hB8.cell; have fB8 := hB8.frozen; have lB8 := hB8.lt; have mB8 := Nat.ne_of_gt lB8; have nB8 := Nat.ne_of_lt lB8
      have hP8 : Blk v8 (v6.heap.size) 70 #[.int .i64 ps, .slice bp pl.length cp] := Blk.call (by (repeat (first | with_reducible assumption | (with_reducible apply Blk.new_at; (first | rfl | (simp; done))) | with_reducible apply Blk.store3 | with_reducible apply Blk.store4 | (with_reducible apply Blk.farp; (first | omega | (simp <;> omega))) | with_reducible apply Blk.allocp | with_reducible apply Blk.drew | with_reducible apply Blk.drewN))) hc8
      have cP8 := hP8.cell; have fP8 := hP8.frozen; have lP8 := hP8.lt; have mP8 := Nat.ne_of_gt lP8; have nP8 := Nat.ne_of_lt lP8
      have hQ8 : Blk v8 (v7.heap.size) 70 #[.int .i64 ps, .slice bq pl.length cq] := Blk.call (by (repeat (first | with_reducible assumption | (with_reducible apply Blk.new_at; (first | rfl | (simp; done))) | with_reducible apply Blk.store3 | with_reducible apply Blk.store4 | (with_reducible apply Blk.farp; (first | omega | (simp <;> omega))) | with_reducible apply Blk.allocp | with_reducible apply Blk.drew | with_reducible apply Blk.drewN))) hc8
      have cQ8 := hQ8.cell; have fQ8 := hQ8.frozen; have lQ8 := hQ8.lt; have mQ8 := Nat.ne_of_gt lQ8; have nQ8 := Nat.ne_of_lt lQ8
      have ha8 := own_call hc8 (by have := ha7; exact (by repeat (first | with_reducible assumption | with_reducible apply own_alloc | with_reducible apply own_drew | with_reducible apply own_drewN | (with_reducible refine own_setp (by assumption) ?_ ?_; (first | omega | (simp <;> omega))) | (with_reducible refine own_call (by assumption) ?_))))
      have hd8 := own_call hc8 (by have := hd7; exact (by repeat (first | with_reducible assumption | with_reducible apply own_alloc | with_reducible apply own_drew | with_reducible apply own_drewN | (with_reducible refine own_setp (by assumption) ?_ ?_; (first | omega | (simp <;> omega))) | (with_reducible refine own_call (by assumption) ?_))))
      have hp8 := own_call hc8 (by have := hp7; exact (by repeat (first | with_reducible assumption | with_reducible apply own_alloc | with_reducible apply own_drew | with_reducible apply own_drewN | (with_reducible refine own_setp (by assumption) ?_ ?_; (first | omega | (simp <;> omega))) | (with_reducible refine own_call (by assumption) ?_))))
      have hq8 := own_call hc8 (by have := hq7; exact (by repeat (first | with_reducible assumption | with_reducible apply own_alloc | with_reducible apply own_drew | with_reducible apply own_drewN | (with_reducible refine own_setp (by assumption) ?_ ?_; (first | omega | (simp <;> omega))) | (with_reducible refine own_call (by assumption) ?_))))
      have hb8 : Below w.heap.size w v8 := (by repeat (first | with_reducible exact Below.refl _ _ | with_reducible assumption | with_reducible apply Below.drew | with_reducible apply below_drewN | (with_reducible apply below_setp; (first | omega | (simp <;> omega))) | (with_reducible apply below_allocp; (first | omega | (simp <;> omega))) | (with_reducible refine below_viap (by assumption) ?_ ?_; (first | omega | (simp <;> omega)))))
      clear hA7 cA7 fA7 lA7 mA7 nA7 hB7 cB7 fB7 lB7 mB7 nB7 hP7 cP7 fP7 lP7 mP7 nP7 ha7 hd7 hp7 hq7
      go_wp2_with fail
      refine (HX.out _ _ _ ⟨HLA.out, (by have := ha8; exact (by repeat (first | with_reducible assumption | with_reducible apply own_alloc | with_reducible apply own_drew | with_reducible apply own_drewN | (with_reducible refine own_setp (by assumption) ?_ ?_; (first | omega | (simp <;> omega))) | (with_reducible refine own_call (by assumption) ?_))))⟩).mono ?_
      rintro e v9 ⟨rfl, hc9⟩
      have hz9 := hc9.size
      (try simp at hz9)
      have hA9 : Blk v9 (v5.heap.size) 70 #[.int .i64 s, .slice ba LA.length ca] := Blk.call (by (repeat (first | with_reducible assumption | (with_reducible apply Blk.new_at; (first | rfl | (simp; done))) | with_reducible apply Blk.store3 | with_reducible apply Blk.store4 | (with_reducible apply Blk.farp; (first | omega | (simp <;> omega))) | with_reducible apply Blk.allocp | with_reducible apply Blk.drew | with_reducible apply Blk.drewN))) hc9
      have cA9 := hA9.cell; have fA9 := hA9.frozen; have lA9 := hA9.lt; have mA9 := Nat.ne_of_gt lA9; have nA9 := Nat.ne_of_lt lA9
      have hB9 : Blk v9 (v5.heap.size + 1) 70 #[.int .i64 t, .slice bb LB.length cb] := Blk.call (by (repeat (first | with_reducible assumption | (with_reducible apply Blk.new_at; (first | rfl | (simp; done))) | with_reducible apply Blk.store3 | with_reducible apply Blk.store4 | (with_reducible apply Blk.farp; (first | omega | (simp <;> omega))) | with_reducible apply Blk.allocp | with_reducible apply Blk.drew | with_reducible apply Blk.drewN))) hc9
      have cB9 := hB9.cell; have fB9 := hB9.frozen; have lB9 := hB9.lt; have mB9 := Nat.ne_of_gt lB9; have nB9 := Nat.ne_of_lt lB9
      have hP9 : Blk v9 (v6.heap.size) 70 #[.int .i64 ps, .slice bp pl.length cp] := Blk.call (by (repeat (first | with_reducible assumption | (with_reducible apply Blk.new_at; (first | rfl | (simp; done))) | with_reducible apply Blk.store3 | with_reducible apply Blk.store4 | (with_reducible apply Blk.farp; (first | omega | (simp <;> omega))) | with_reducible apply Blk.allocp | with_reducible apply Blk.drew | with_reducible apply Blk.drewN))) hc9
      have cP9 := hP9.cell; have fP9 := hP9.frozen; have lP9 := hP9.lt; have mP9 := Nat.ne_of_gt lP9; have nP9 := Nat.ne_of_lt lP9
      have hQ9 : Blk v9 (v7.heap.size) 70 #[.int .i64 ps, .slice bq pl.length cq] := Blk.call (by (repeat (first | with_reducible assumption | (with_reducible apply Blk.new_at; (first | rfl | (simp; done))) | with_reducible apply Blk.store3 | with_reducible apply Blk.store4 | (with_reducible apply Blk.farp; (first | omega | (simp <;> omega))) | with_reducible apply Blk.allocp | with_reducible apply Blk.drew | with_reducible apply Blk.drewN))) hc9
      have cQ9 := hQ9.cell; have fQ9 := hQ9.frozen; have lQ9 := hQ9.lt; have mQ9 := Nat.ne_of_gt lQ9; have nQ9 := Nat.ne_of_lt lQ9
      have ha9 := own_call hc9 ha8
      have hd9 := own_call hc9 hd8
      have hp9 := own_call hc9 hp8
      have hq9 := own_call hc9 hq8
      have hb9 : Below w.heap.size w v9 := (by repeat (first | with_reducible exact Below.refl _ _ | with_reducible assumption | with_reducible apply Below.drew | with_reducible apply below_drewN | (with_reducible apply below_setp; (first | omega | (simp <;> omega))) | (with_reducible apply below_allocp; (first | omega | (simp <;> omega))) | (with_reducible refine below_viap (by assumption) ?_ ?_; (first | omega | (simp <;> omega)))))
      clear hA8 cA8 fA8 lA8 mA8 nA8 hB8 cB8 fB8 lB8 mB8 nB8 hP8 cP8 fP8 lP8 mP8 nP8 hQ8 cQ8 fQ8 lQ8 mQ8 nQ8 ha8 hd8 hp8 hq8
      go_wp2_with fail
      refine (HY.out _ _ _ ⟨HLB.out, (by have := hd9; exact (by repeat (first | with_reducible assumption | with_reducible apply own_alloc | with_reducible apply own_drew | with_reducible apply own_drewN | (with_reducible refine own_setp (by assumption) ?_ ?_; (first | omega | (simp <;> omega))) | (with_reducible refine own_call (by assumption) ?_))))⟩).mono ?_
      rintro e v10 ⟨rfl, hc10⟩
      have hz10 := hc10.size
      (try simp at hz10)
      have hA10 : Blk v10 (v5.heap.size) 70 #[.int .i64 s, .slice ba LA.length ca] := Blk.call (by (repeat (first | with_reducible assumption | (with_reducible apply Blk.new_at; (first | rfl | (simp; done))) | with_reducible apply Blk.store3 | with_reducible apply Blk.store4 | (with_reducible apply Blk.farp; (first | omega | (simp <;> omega))) | with_reducible apply Blk.allocp | with_reducible apply Blk.drew | with_reducible apply Blk.drewN))) hc10
      have cA10 := hA10.cell; have fA10 := hA10.frozen; have lA10 := hA10.lt; have mA10 := Nat.ne_of_gt lA10; have nA10 := Nat.ne_of_lt lA10
      have hB10 : Blk v10 (v5.heap.size + 1) 70 #[.int .i64 t, .slice bb LB.length cb] := Blk.call (by (repeat (first | with_reducible assumption | (with_reducible apply Blk.new_at; (first | rfl | (simp; done))) | with_reducible apply Blk.store3 | with_reducible apply Blk.store4 | (with_reducible apply Blk.farp; (first | omega | (simp <;> omega))) | with_reducible apply Blk.allocp | with_reducible apply Blk.drew | with_reducible apply Blk.drewN))) hc10
      have cB10 := hB10.cell; have fB10 := hB10.frozen; have lB10 := hB10.lt; have mB10 := Nat.ne_of_gt lB10; have nB10 := Nat.ne_of_lt lB10
      have hP10 : Blk v10 (v6.heap.size) 70 #[.int .i64 ps, .slice bp pl.length cp] := Blk.call (by (repeat (first | with_reducible assumption | (with_reducible apply Blk.new_at; (first | rfl | (simp; done))) | with_reducible apply Blk.store3 | with_reducible apply Blk.store4 | (with_reducible apply Blk.farp; (first | omega | (simp <;> omega))) | with_reducible apply Blk.allocp | with_reducible apply Blk.drew | with_reducible apply Blk.drewN))) hc10
      have cP10 := hP10.cell; have fP10 := hP10.frozen; have lP10 := hP10.lt; have mP10 := Nat.ne_of_gt lP10; have nP10 := Nat.ne_of_lt lP10
      have hQ10 : Blk v10 (v7.heap.size) 70 #[.int .i64 ps, .slice bq pl.length cq] := Blk.call (by (repeat (first | with_reducible assumption | (with_reducible apply Blk.new_at; (first | rfl | (simp; done))) | with_reducible apply Blk.store3 | with_reducible apply Blk.store4 | (with_reducible apply Blk.farp; (first | omega | (simp <;> omega))) | with_reducible apply Blk.allocp | with_reducible apply Blk.drew | with_reducible apply Blk.drewN))) hc10
      have cQ10 := hQ10.cell; have fQ10 := hQ10.frozen; have lQ10 := hQ10.lt; have mQ10 := Nat.ne_of_gt lQ10; have nQ10 := Nat.ne_of_lt lQ10
      have hX10 : Blk v10 (v9.heap.size) 49 #[.int .i64 mx.p, .int .i64 mx.q, .int .i64 mx.r, .int .i64 mx.s] := Blk.call (by (repeat (first | with_reducible assumption | (with_reducible apply Blk.new_at; (first | rfl | (simp; done))) | with_reducible apply Blk.store3 | with_reducible apply Blk.store4 | (with_reducible apply Blk.farp; (first | omega | (simp <;> omega))) | with_reducible apply Blk.allocp | with_reducible apply Blk.drew | with_reducible apply Blk.drewN))) hc10
      have cX10 := hX10.cell; have fX10 := hX10.frozen; have lX10 := hX10.lt; have mX10 := Nat.ne_of_gt lX10; have nX10 := Nat.ne_of_lt lX10
      have ha10 := own_call hc10 (by have := ha9; exact (by repeat (first | with_reducible assumption | with_reducible apply own_alloc | with_reducible apply own_drew | with_reducible apply own_drewN | (with_reducible refine own_setp (by assumption) ?_ ?_; (first | omega | (simp <;> omega))) | (with_reducible refine own_call (by assumption) ?_))))
      have hd10 := own_call hc10 (by have := hd9; exact (by repeat (first | with_reducible assumption | with_reducible apply own_alloc | with_reducible apply own_drew | with_reducible apply own_drewN | (with_reducible refine own_setp (by assumption) ?_ ?_; (first | omega | (simp <;> omega))) | (with_reducible refine own_call (by assumption) ?_))))
      have hp10 := own_call hc10 (by have := hp9; exact (by repeat (first | with_reducible assumption | with_reducible apply own_alloc | with_reducible apply own_drew | with_reducible apply own_drewN | (with_reducible refine own_setp (by assumption) ?_ ?_; (first | omega | (simp <;> omega))) | (with_reducible refine own_call (by assumption) ?_))))
      have hq10 := own_call hc10 (by have := hq9; exact (by repeat (first | with_reducible assumption | with_reducible apply own_alloc | with_reducible apply own_drew | with_reducible apply own_drewN | (with_reducible refine own_setp (by assumption) ?_ ?_; (first | omega | (simp <;> omega))) | (with_reducible refine own_call (by assumption) ?_))))
      have hb10 : Below w.heap.size w v10 := (by repeat (first | with_reducible exact Below.refl _ _ | with_reducible assumption | with_reducible apply Below.drew | with_reducible apply below_drewN | (with_reducible apply below_setp; (first | omega | (simp <;> omega))) | (with_reducible apply below_allocp; (first | omega | (simp <;> omega))) | (with_reducible refine below_viap (by assumption) ?_ ?_; (first | omega | (simp <;> omega)))))
      clear hA9 cA9 fA9 lA9 mA9 nA9 hB9 cB9 fB9 lB9 mB9 nB9 hP9 cP9 fP9 lP9 mP9 nP9 hQ9 cQ9 fQ9 lQ9 mQ9 nQ9 ha9 hd9 hp9 hq9
      go_wp2_with fail
      refine (HZ.out _ _ _ ⟨(by have := HplN.out; omega), (by have := hp10; exact (by repeat (first | with_reducible assumption | with_reducible apply own_alloc | with_reducible apply own_drew | with_reducible apply own_drewN | (with_reducible refine own_setp (by assumption) ?_ ?_; (first | omega | (simp <;> omega))) | (with_reducible refine own_call (by assumption) ?_))))⟩).mono ?_
      rintro e v11 ⟨rfl, hc11⟩
      have hz11 := hc11.size
      (try simp at hz11)
      have hA11 : Blk v11 (v5.heap.size) 70 #[.int .i64 s, .slice ba LA.length ca] := Blk.call (by (repeat (first | with_reducible assumption | (with_reducible apply Blk.new_at; (first | rfl | (simp; done))) | with_reducible apply Blk.store3 | with_reducible apply Blk.store4 | (with_reducible apply Blk.farp; (first | omega | (simp <;> omega))) | with_reducible apply Blk.allocp | with_reducible apply Blk.drew | with_reducible apply Blk.drewN))) hc11
      have cA11 := hA11.cell; have fA11 := hA11.frozen; have lA11 := hA11.lt; have mA11 := Nat.ne_of_gt lA11; have nA11 := Nat.ne_of_lt lA11
      have hB11 : Blk v11 (v5.heap.size + 1) 70 #[.int .i64 t, .slice bb LB.length cb] := Blk.call (by (repeat (first | with_reducible assumption | (with_reducible apply Blk.new_at; (first | rfl | (simp; done))) | with_reducible apply Blk.store3 | with_reducible apply Blk.store4 | (with_reducible apply Blk.farp; (first | omega | (simp <;> omega))) | with_reducible apply Blk.allocp | with_reducible apply Blk.drew | with_reducible apply Blk.drewN))) hc11
      have cB11 := hB11.cell; have fB11 := hB11.frozen; have lB11 := hB11.lt; have mB11 := Nat.ne_of_gt lB11; have nB11 := Nat.ne_of_lt lB11
      have hP11 : Blk v11 (v6.heap.size) 70 #[.int .i64 ps, .slice bp pl.length cp] := Blk.call (by (repeat (first | with_reducible assumption | (with_reducible apply Blk.new_at; (first | rfl | (simp; done))) | with_reducible apply Blk.store3 | with_reducible apply Blk.store4 | (with_reducible apply Blk.farp; (first | omega | (simp <;> omega))) | with_reducible apply Blk.allocp | with_reducible apply Blk.drew | with_reducible apply Blk.drewN))) hc11
      have cP11 := hP11.cell; have fP11 := hP11.frozen; have lP11 := hP11.lt; have mP11 := Nat.ne_of_gt lP11; have nP11 := Nat.ne_of_lt lP11
      have hQ11 : Blk v11 (v7.heap.size) 70 #[.int .i64 ps, .slice bq pl.length cq] := Blk.call (by (repeat (first | with_reducible assumption | (with_reducible apply Blk.new_at; (first | rfl | (simp; done))) | with_reducible apply Blk.store3 | with_reducible apply Blk.store4 | (with_reducible apply Blk.farp; (first | omega | (simp <;> omega))) | with_reducible apply Blk.allocp | with_reducible apply Blk.drew | with_reducible apply Blk.drewN))) hc11
      have cQ11 := hQ11.cell; have fQ11 := hQ11.frozen; have lQ11 := hQ11.lt; have mQ11 := Nat.ne_of_gt lQ11; have nQ11 := Nat.ne_of_lt lQ11
      have hX11 : Blk v11 (v9.heap.size) 49 #[.int .i64 mx.p, .int .i64 mx.q, .int .i64 mx.r, .int .i64 mx.s] := Blk.call (by (repeat (first | with_reducible assumption | (with_reducible apply Blk.new_at; (first | rfl | (simp; done))) | with_reducible apply Blk.store3 | with_reducible apply Blk.store4 | (with_reducible apply Blk.farp; (first | omega | (simp <;> omega))) | with_reducible apply Blk.allocp | with_reducible apply Blk.drew | with_reducible apply Blk.drewN))) hc11
      have cX11 := hX11.cell; have fX11 := hX11.frozen; have lX11 := hX11.lt; have mX11 := Nat.ne_of_gt lX11; have nX11 := Nat.ne_of_lt lX11
      have hY11 : Blk v11 (v10.heap.size) 49 #[.int .i64 my.p, .int .i64 my.q, .int .i64 my.r, .int .i64 my.s] := Blk.call (by (repeat (first | with_reducible assumption | (with_reducible apply Blk.new_at; (first | rfl | (simp; done))) | with_reducible apply Blk.store3 | with_reducible apply Blk.store4 | (with_reducible apply Blk.farp; (first | omega | (simp <;> omega))) | with_reducible apply Blk.allocp | with_reducible apply Blk.drew | with_reducible apply Blk.drewN))) hc11
      have cY11 := hY11.cell; have fY11 := hY11.frozen; have lY11 := hY11.lt; have mY11 := Nat.ne_of_gt lY11; have nY11 := Nat.ne_of_lt lY11
      have ha11 := own_call hc11 (by have := ha10; exact (by repeat (first | with_reducible assumption | with_reducible apply own_alloc | with_reducible apply own_drew | with_reducible apply own_drewN | (with_reducible refine own_setp (by assumption) ?_ ?_; (first | omega | (simp <;> omega))) | (with_reducible refine own_call (by assumption) ?_))))
      have hd11 := own_call hc11 (by have := hd10; exact (by repeat (first | with_reducible assumption | with_reducible apply own_alloc | with_reducible apply own_drew | with_reducible apply own_drewN | (with_reducible refine own_setp (by assumption) ?_ ?_; (first | omega | (simp <;> omega))) | (with_reducible refine own_call (by assumption) ?_))))
      have hp11 := own_call hc11 (by have := hp10; exact (by repeat (first | with_reducible assumption | with_reducible apply own_alloc | with_reducible apply own_drew | with_reducible apply own_drewN | (with_reducible refine own_setp (by assumption) ?_ ?_; (first | omega | (simp <;> omega))) | (with_reducible refine own_call (by assumption) ?_))))
      have hq11 := own_call hc11 (by have := hq10; exact (by repeat (first | with_reducible assumption | with_reducible apply own_alloc | with_reducible apply own_drew | with_reducible apply own_drewN | (with_reducible refine own_setp (by assumption) ?_ ?_; (first | omega | (simp <;> omega))) | (with_reducible refine own_call (by assumption) ?_))))
      have hb11 : Below w.heap.size w v11 := (by repeat (first | with_reducible exact Below.refl _ _ | with_reducible assumption | with_reducible apply Below.drew | with_reducible apply below_drewN | (with_reducible apply below_setp; (first | omega | (simp <;> omega))) | (with_reducible apply below_allocp; (first | omega | (simp <;> omega))) | (with_reducible refine below_viap (by assumption) ?_ ?_; (first | omega | (simp <;> omega)))))
      clear hA10 cA10 fA10 lA10 mA10 nA10 hB10 cB10 fB10 lB10 mB10 nB10 hP10 cP10 fP10 lP10 mP10 nP10 hQ10 cQ10 fQ10 lQ10 mQ10 nQ10 hX10 cX10 fX10 lX10 mX10 nX10 ha10 hd10 hp10 hq10
      go_upto_region 22 with fail
      go_cut [170] (fun s wx => (∃ b : Bool, s = .bool b ∧ (b = true → K = true ∧ okx = true ∧ oky = true ∧ okz = true)) ∧ wx = (v11.alloc (.cells #[.int .i64 mz.p, .int .i64 mz.q, .int .i64 mz.r, .int .i64 mz.s] 49)))
      case first =>
        as_aux_lemma =>
          cases K with
          | false => go_wp2; go_meet; exact ⟨⟨_, rfl, by simp⟩, rfl⟩
          | true =>
            cases okx with
            | false => go_wp2; go_meet; exact ⟨⟨_, rfl, by simp⟩, rfl⟩
            | true =>
              cases oky with
              | false => go_wp2; go_meet; exact ⟨⟨_, rfl, by simp⟩, rfl⟩
              | true => cases okz <;> (go_wp2; go_meet; exact ⟨⟨_, rfl, by simp⟩, rfl⟩)
      case rest =>
        obtain ⟨⟨b170, rfl, hb170⟩, rfl⟩ := hcut
        go_upto_if 170 with fail
        go_cut [] (fun wx => Below (v11.alloc (.cells #[.int .i64 mz.p, .int .i64 mz.q, .int .i64 mz.r, .int .i64 mz.s] 49)).heap.size (v11.alloc (.cells #[.int .i64 mz.p, .int .i64 mz.q, .int .i64 mz.r, .int .i64 mz.s] 49)) wx)
        case first =>
          as_aux_lemma =>
            cases b170 with
            | false => go_wp2_with fail; go_meet; exact Below.refl _ _
            | true =>
              obtain ⟨h1, h2, h3, h4⟩ := hb170 rfl
              have HTt := Lib.hid (HT.out h1 h2 h3 h4)
              clear HT HJ HK HV HU HNw Hmi HNi h1 h2 h3 h4 hb170
              go_wp2_with fail
              refine (HTt.out _).mono ?_
              rintro e v12 ⟨rfl, hc12⟩
              have hz12 := hc12.size
              (try simp at hz12)
              have hX12 : Blk v12 (v9.heap.size) 49 #[.int .i64 mx.p, .int .i64 mx.q, .int .i64 mx.r, .int .i64 mx.s] := Blk.call (by (repeat (first | with_reducible assumption | (with_reducible apply Blk.new_at; (first | rfl | (simp; done))) | with_reducible apply Blk.store3 | with_reducible apply Blk.store4 | (with_reducible apply Blk.farp; (first | omega | (simp <;> omega))) | with_reducible apply Blk.allocp | with_reducible apply Blk.drew | with_reducible apply Blk.drewN))) hc12
              have cX12 := hX12.cell; have fX12 := hX12.frozen; have lX12 := hX12.lt; have mX12 := Nat.ne_of_gt lX12; have nX12 := Nat.ne_of_lt lX12
              have hY12 : Blk v12 (v10.heap.size) 49 #[.int .i64 my.p, .int .i64 my.q, .int .i64 my.r, .int .i64 my.s] := Blk.call (by (repeat (first | with_reducible assumption | (with_reducible apply Blk.new_at; (first | rfl | (simp; done))) | with_reducible apply Blk.store3 | with_reducible apply Blk.store4 | (with_reducible apply Blk.farp; (first | omega | (simp <;> omega))) | with_reducible apply Blk.allocp | with_reducible apply Blk.drew | with_reducible apply Blk.drewN))) hc12
              have cY12 := hY12.cell; have fY12 := hY12.frozen; have lY12 := hY12.lt; have mY12 := Nat.ne_of_gt lY12; have nY12 := Nat.ne_of_lt lY12
              have hZ12 : Blk v12 (v11.heap.size) 49 #[.int .i64 mz.p, .int .i64 mz.q, .int .i64 mz.r, .int .i64 mz.s] := Blk.call (by (repeat (first | with_reducible assumption | (with_reducible apply Blk.new_at; (first | rfl | (simp; done))) | with_reducible apply Blk.store3 | with_reducible apply Blk.store4 | (with_reducible apply Blk.farp; (first | omega | (simp <;> omega))) | with_reducible apply Blk.allocp | with_reducible apply Blk.drew | with_reducible apply Blk.drewN))) hc12
              have cZ12 := hZ12.cell; have fZ12 := hZ12.frozen; have lZ12 := hZ12.lt; have mZ12 := Nat.ne_of_gt lZ12; have nZ12 := Nat.ne_of_lt lZ12
              have hb12 : Below (v11.alloc (.cells #[.int .i64 mz.p, .int .i64 mz.q, .int .i64 mz.r, .int .i64 mz.s] 49)).heap.size (v11.alloc (.cells #[.int .i64 mz.p, .int .i64 mz.q, .int .i64 mz.r, .int .i64 mz.s] 49)) v12 := (by repeat (first | with_reducible exact Below.refl _ _ | with_reducible assumption | with_reducible apply Below.drew | with_reducible apply below_drewN | (with_reducible apply below_setp; (first | omega | (simp <;> omega))) | (with_reducible apply below_allocp; (first | omega | (simp <;> omega))) | (with_reducible refine below_viap (by assumption) ?_ ?_; (first | omega | (simp <;> omega)))))
              clear hX11 cX11 fX11 lX11 mX11 nX11 hY11 cY11 fY11 lY11 mY11 nY11
              go_wp2_with fail
              go_meet
              exact (by repeat (first | with_reducible exact Below.refl _ _ | with_reducible assumption | with_reducible apply Below.drew | with_reducible apply below_drewN | (with_reducible apply below_setp; (first | omega | (simp <;> omega))) | (with_reducible apply below_allocp; (first | omega | (simp <;> omega))) | (with_reducible refine below_viap (by assumption) ?_ ?_; (first | omega | (simp <;> omega)))))
        case rest => 
          obtain ⟨v12, rfl⟩ : ∃ v12 : World, v12 = wc := ⟨_, rfl⟩
          have hz12 := hcut.size
          (try simp at hz12)
          have hA12 : Blk v12 v5.heap.size 70 #[.int .i64 s, .slice ba LA.length ca] := Blk.call (by (repeat (first | with_reducible assumption | (with_reducible apply Blk.new_at; (first | rfl | (simp; done))) | with_reducible apply Blk.store3 | with_reducible apply Blk.store4 | (with_reducible apply Blk.farp; (first | omega | (simp <;> omega))) | with_reducible apply Blk.allocp | with_reducible apply Blk.drew | with_reducible apply Blk.drewN))) hcut
          have hX12 : Blk v12 v9.heap.size 49 #[.int .i64 mx.p, .int .i64 mx.q, .int .i64 mx.r, .int .i64 mx.s] := Blk.call (by (repeat (first | with_reducible assumption | (with_reducible apply Blk.new_at; (first | rfl | (simp; done))) | with_reducible apply Blk.store3 | with_reducible apply Blk.store4 | (with_reducible apply Blk.farp; (first | omega | (simp <;> omega))) | with_reducible apply Blk.allocp | with_reducible apply Blk.drew | with_reducible apply Blk.drewN))) hcut
          have ha12 := own_call hcut (by have := ha11; exact (by repeat (first | with_reducible assumption | with_reducible apply own_alloc | with_reducible apply own_drew | with_reducible apply own_drewN | (with_reducible refine own_setp (by assumption) ?_ ?_; (first | omega | (simp <;> omega))) | (with_reducible refine own_call (by assumption) ?_))))
          have hb12 : Below w.heap.size w v12 := (by repeat (first | with_reducible exact Below.refl _ _ | with_reducible assumption | with_reducible apply Below.drew | with_reducible apply below_drewN | (with_reducible apply below_setp; (first | omega | (simp <;> omega))) | (with_reducible apply below_allocp; (first | omega | (simp <;> omega))) | (with_reducible refine below_viap (by assumption) ?_ ?_; (first | omega | (simp <;> omega)))))
          have cA12 := hA12.cell; have fA12 := hA12.frozen; have lA12 := hA12.lt; have mA12 := Nat.ne_of_gt lA12; have nA12 := Nat.ne_of_lt lA12
          have cX12 := hX12.cell; have fX12 := hX12.frozen; have lX12 := hX12.lt; have mX12 := Nat.ne_of_gt lX12; have nX12 := Nat.ne_of_lt lX12
          clear hcut HT HX HY HZ HP HQ hb5 hb6 hb7 hb8 hb9 hb10 hb11 hc5 hA11 cA11 fA11 lA11 mA11 nA11 hB11 cB11 fB11 lB11 mB11 nB11 hP11 cP11 fP11 lP11 mP11 nP11 hQ11 cQ11 fQ11 lQ11 mQ11 nQ11 hX11 cX11 fX11 lX11 mX11 nX11 hY11 cY11 fY11 lY11 mY11 nY11 ha11 hd11 hp11 hq11
          go_wp2_with fail
          refine (HJ.out _ _ ⟨HLA.out, ha12⟩).mono ?_
          rintro e v13 ⟨vi, rfl, hi13, hc13⟩
          have hz13 := hc13.size
          (try simp at hz13)
          have hA13 : Blk v13 (v5.heap.size) 70 #[.int .i64 s, .slice ba LA.length ca] := Blk.call (by (repeat (first | with_reducible assumption | (with_reducible apply Blk.new_at; (first | rfl | (simp; done))) | with_reducible apply Blk.store3 | with_reducible apply Blk.store4 | (with_reducible apply Blk.farp; (first | omega | (simp <;> omega))) | with_reducible apply Blk.allocp | with_reducible apply Blk.drew | with_reducible apply Blk.drewN))) hc13
          have cA13 := hA13.cell; have fA13 := hA13.frozen; have lA13 := hA13.lt; have mA13 := Nat.ne_of_gt lA13; have nA13 := Nat.ne_of_lt lA13
          have hX13 : Blk v13 (v9.heap.size) 49 #[.int .i64 mx.p, .int .i64 mx.q, .int .i64 mx.r, .int .i64 mx.s] := Blk.call (by (repeat (first | with_reducible assumption | (with_reducible apply Blk.new_at; (first | rfl | (simp; done))) | with_reducible apply Blk.store3 | with_reducible apply Blk.store4 | (with_reducible apply Blk.farp; (first | omega | (simp <;> omega))) | with_reducible apply Blk.allocp | with_reducible apply Blk.drew | with_reducible apply Blk.drewN))) hc13
          have cX13 := hX13.cell; have fX13 := hX13.frozen; have lX13 := hX13.lt; have mX13 := Nat.ne_of_gt lX13; have nX13 := Nat.ne_of_lt lX13
          have ha13 := own_call hc13 ha12
          have hb13 : Below w.heap.size w v13 := (by repeat (first | with_reducible exact Below.refl _ _ | with_reducible assumption | with_reducible apply Below.drew | with_reducible apply below_drewN | (with_reducible apply below_setp; (first | omega | (simp <;> omega))) | (with_reducible apply below_allocp; (first | omega | (simp <;> omega))) | (with_reducible refine below_viap (by assumption) ?_ ?_; (first | omega | (simp <;> omega)))))
          clear hA12 cA12 fA12 lA12 mA12 nA12 hX12 cX12 fX12 lX12 mX12 nX12 ha12
          obtain ⟨bi, ci, rfl⟩ := own_shape hi13
          go_wp2_with fail
          refine (HK.out _ _ ⟨HLA.out, (by have := ha13; exact (by repeat (first | with_reducible assumption | with_reducible apply own_alloc | with_reducible apply own_drew | with_reducible apply own_drewN | (with_reducible refine own_setp (by assumption) ?_ ?_; (first | omega | (simp <;> omega))) | (with_reducible refine own_call (by assumption) ?_))))⟩).mono ?_
          rintro e v14 ⟨vj, rfl, hj14, hc14⟩
          have hz14 := hc14.size
          (try simp at hz14)
          have hA14 : Blk v14 (v5.heap.size) 70 #[.int .i64 s, .slice ba LA.length ca] := Blk.call (by (repeat (first | with_reducible assumption | (with_reducible apply Blk.new_at; (first | rfl | (simp; done))) | with_reducible apply Blk.store3 | with_reducible apply Blk.store4 | (with_reducible apply Blk.farp; (first | omega | (simp <;> omega))) | with_reducible apply Blk.allocp | with_reducible apply Blk.drew | with_reducible apply Blk.drewN))) hc14
          have cA14 := hA14.cell; have fA14 := hA14.frozen; have lA14 := hA14.lt; have mA14 := Nat.ne_of_gt lA14; have nA14 := Nat.ne_of_lt lA14
          have hX14 : Blk v14 (v9.heap.size) 49 #[.int .i64 mx.p, .int .i64 mx.q, .int .i64 mx.r, .int .i64 mx.s] := Blk.call (by (repeat (first | with_reducible assumption | (with_reducible apply Blk.new_at; (first | rfl | (simp; done))) | with_reducible apply Blk.store3 | with_reducible apply Blk.store4 | (with_reducible apply Blk.farp; (first | omega | (simp <;> omega))) | with_reducible apply Blk.allocp | with_reducible apply Blk.drew | with_reducible apply Blk.drewN))) hc14
          have cX14 := hX14.cell; have fX14 := hX14.frozen; have lX14 := hX14.lt; have mX14 := Nat.ne_of_gt lX14; have nX14 := Nat.ne_of_lt lX14
          have hI14 : Blk v14 (v13.heap.size) 70 #[.int .i64 is, .slice bi il.length ci] := Blk.call (by (repeat (first | with_reducible assumption | (with_reducible apply Blk.new_at; (first | rfl | (simp; done))) | with_reducible apply Blk.store3 | with_reducible apply Blk.store4 | (with_reducible apply Blk.farp; (first | omega | (simp <;> omega))) | with_reducible apply Blk.allocp | with_reducible apply Blk.drew | with_reducible apply Blk.drewN))) hc14
          have cI14 := hI14.cell; have fI14 := hI14.frozen; have lI14 := hI14.lt; have mI14 := Nat.ne_of_gt lI14; have nI14 := Nat.ne_of_lt lI14
          have ha14 := own_call hc14 (by have := ha13; exact (by repeat (first | with_reducible assumption | with_reducible apply own_alloc | with_reducible apply own_drew | with_reducible apply own_drewN | (with_reducible refine own_setp (by assumption) ?_ ?_; (first | omega | (simp <;> omega))) | (with_reducible refine own_call (by assumption) ?_))))
          have hi14 := own_call hc14 (by have := hi13; exact (by repeat (first | with_reducible assumption | with_reducible apply own_alloc | with_reducible apply own_drew | with_reducible apply own_drewN | (with_reducible refine own_setp (by assumption) ?_ ?_; (first | omega | (simp <;> omega))) | (with_reducible refine own_call (by assumption) ?_))))
          have hb14 : Below w.heap.size w v14 := (by repeat (first | with_reducible exact Below.refl _ _ | with_reducible assumption | with_reducible apply Below.drew | with_reducible apply below_drewN | (with_reducible apply below_setp; (first | omega | (simp <;> omega))) | (with_reducible apply below_allocp; (first | omega | (simp <;> omega))) | (with_reducible refine below_viap (by assumption) ?_ ?_; (first | omega | (simp <;> omega)))))
          clear hA13 cA13 fA13 lA13 mA13 nA13 hX13 cX13 fX13 lX13 mX13 nX13 ha13 hi13
          obtain ⟨bj, cj, rfl⟩ := own_shape hj14
          go_wp2_with fail
          refine (sameInts_same (.slice bi il.length ci) (.slice bj il.length cj) _ _ il _ (by have := HilN.out; omega) (by have := hi14; exact (by repeat (first | with_reducible assumption | with_reducible apply own_alloc | with_reducible apply own_drew | with_reducible apply own_drewN | (with_reducible refine own_setp (by assumption) ?_ ?_; (first | omega | (simp <;> omega))) | (with_reducible refine own_call (by assumption) ?_)))) (by have := hj14; exact (by repeat (first | with_reducible assumption | with_reducible apply own_alloc | with_reducible apply own_drew | with_reducible apply own_drewN | (with_reducible refine own_setp (by assumption) ?_ ?_; (first | omega | (simp <;> omega))) | (with_reducible refine own_call (by assumption) ?_))))).mono ?_
          rintro e v15 ⟨rfl, hc15⟩
          have hz15 := hc15.size
          (try simp at hz15)
          have hA15 : Blk v15 (v5.heap.size) 70 #[.int .i64 s, .slice ba LA.length ca] := Blk.call (by (repeat (first | with_reducible assumption | (with_reducible apply Blk.new_at; (first | rfl | (simp; done))) | with_reducible apply Blk.store3 | with_reducible apply Blk.store4 | (with_reducible apply Blk.farp; (first | omega | (simp <;> omega))) | with_reducible apply Blk.allocp | with_reducible apply Blk.drew | with_reducible apply Blk.drewN))) hc15
          have cA15 := hA15.cell; have fA15 := hA15.frozen; have lA15 := hA15.lt; have mA15 := Nat.ne_of_gt lA15; have nA15 := Nat.ne_of_lt lA15
          have hX15 : Blk v15 (v9.heap.size) 49 #[.int .i64 mx.p, .int .i64 mx.q, .int .i64 mx.r, .int .i64 mx.s] := Blk.call (by (repeat (first | with_reducible assumption | (with_reducible apply Blk.new_at; (first | rfl | (simp; done))) | with_reducible apply Blk.store3 | with_reducible apply Blk.store4 | (with_reducible apply Blk.farp; (first | omega | (simp <;> omega))) | with_reducible apply Blk.allocp | with_reducible apply Blk.drew | with_reducible apply Blk.drewN))) hc15
          have cX15 := hX15.cell; have fX15 := hX15.frozen; have lX15 := hX15.lt; have mX15 := Nat.ne_of_gt lX15; have nX15 := Nat.ne_of_lt lX15
          have hI15 : Blk v15 (v13.heap.size) 70 #[.int .i64 is, .slice bi il.length ci] := Blk.call (by (repeat (first | with_reducible assumption | (with_reducible apply Blk.new_at; (first | rfl | (simp; done))) | with_reducible apply Blk.store3 | with_reducible apply Blk.store4 | (with_reducible apply Blk.farp; (first | omega | (simp <;> omega))) | with_reducible apply Blk.allocp | with_reducible apply Blk.drew | with_reducible apply Blk.drewN))) hc15
          have cI15 := hI15.cell; have fI15 := hI15.frozen; have lI15 := hI15.lt; have mI15 := Nat.ne_of_gt lI15; have nI15 := Nat.ne_of_lt lI15
          have hJ15 : Blk v15 (v14.heap.size) 70 #[.int .i64 is, .slice bj il.length cj] := Blk.call (by (repeat (first | with_reducible assumption | (with_reducible apply Blk.new_at; (first | rfl | (simp; done))) | with_reducible apply Blk.store3 | with_reducible apply Blk.store4 | (with_reducible apply Blk.farp; (first | omega | (simp <;> omega))) | with_reducible apply Blk.allocp | with_reducible apply Blk.drew | with_reducible apply Blk.drewN))) hc15
          have cJ15 := hJ15.cell; have fJ15 := hJ15.frozen; have lJ15 := hJ15.lt; have mJ15 := Nat.ne_of_gt lJ15; have nJ15 := Nat.ne_of_lt lJ15
          have ha15 := own_call hc15 (by have := ha14; exact (by repeat (first | with_reducible assumption | with_reducible apply own_alloc | with_reducible apply own_drew | with_reducible apply own_drewN | (with_reducible refine own_setp (by assumption) ?_ ?_; (first | omega | (simp <;> omega))) | (with_reducible refine own_call (by assumption) ?_))))
          have hi15 := own_call hc15 (by have := hi14; exact (by repeat (first | with_reducible assumption | with_reducible apply own_alloc | with_reducible apply own_drew | with_reducible apply own_drewN | (with_reducible refine own_setp (by assumption) ?_ ?_; (first | omega | (simp <;> omega))) | (with_reducible refine own_call (by assumption) ?_))))
          have hj15 := own_call hc15 (by have := hj14; exact (by repeat (first | with_reducible assumption | with_reducible apply own_alloc | with_reducible apply own_drew | with_reducible apply own_drewN | (with_reducible refine own_setp (by assumption) ?_ ?_; (first | omega | (simp <;> omega))) | (with_reducible refine own_call (by assumption) ?_))))
          have hb15 : Below w.heap.size w v15 := (by repeat (first | with_reducible exact Below.refl _ _ | with_reducible assumption | with_reducible apply Below.drew | with_reducible apply below_drewN | (with_reducible apply below_setp; (first | omega | (simp <;> omega))) | (with_reducible apply below_allocp; (first | omega | (simp <;> omega))) | (with_reducible refine below_viap (by assumption) ?_ ?_; (first | omega | (simp <;> omega)))))
          clear hA14 cA14 fA14 lA14 mA14 nA14 hX14 cX14 fX14 lX14 mX14 nX14 hI14 cI14 fI14 lI14 mI14 nI14 ha14 hi14 hj14
          go_wp2_with fail
          refine (HV.out _ _ _ ⟨(by have := HilN.out; omega), hj15⟩).mono ?_
          rintro e v16 ⟨rfl, hc16⟩
          have hz16 := hc16.size
          (try simp at hz16)
          have hA16 : Blk v16 (v5.heap.size) 70 #[.int .i64 s, .slice ba LA.length ca] := Blk.call (by (repeat (first | with_reducible assumption | (with_reducible apply Blk.new_at; (first | rfl | (simp; done))) | with_reducible apply Blk.store3 | with_reducible apply Blk.store4 | (with_reducible apply Blk.farp; (first | omega | (simp <;> omega))) | with_reducible apply Blk.allocp | with_reducible apply Blk.drew | with_reducible apply Blk.drewN))) hc16
          have cA16 := hA16.cell; have fA16 := hA16.frozen; have lA16 := hA16.lt; have mA16 := Nat.ne_of_gt lA16; have nA16 := Nat.ne_of_lt lA16
          have hX16 : Blk v16 (v9.heap.size) 49 #[.int .i64 mx.p, .int .i64 mx.q, .int .i64 mx.r, .int .i64 mx.s] := Blk.call (by (repeat (first | with_reducible assumption | (with_reducible apply Blk.new_at; (first | rfl | (simp; done))) | with_reducible apply Blk.store3 | with_reducible apply Blk.store4 | (with_reducible apply Blk.farp; (first | omega | (simp <;> omega))) | with_reducible apply Blk.allocp | with_reducible apply Blk.drew | with_reducible apply Blk.drewN))) hc16
          have cX16 := hX16.cell; have fX16 := hX16.frozen; have lX16 := hX16.lt; have mX16 := Nat.ne_of_gt lX16; have nX16 := Nat.ne_of_lt lX16
          have hI16 : Blk v16 (v13.heap.size) 70 #[.int .i64 is, .slice bi il.length ci] := Blk.call (by (repeat (first | with_reducible assumption | (with_reducible apply Blk.new_at; (first | rfl | (simp; done))) | with_reducible apply Blk.store3 | with_reducible apply Blk.store4 | (with_reducible apply Blk.farp; (first | omega | (simp <;> omega))) | with_reducible apply Blk.allocp | with_reducible apply Blk.drew | with_reducible apply Blk.drewN))) hc16
          have cI16 := hI16.cell; have fI16 := hI16.frozen; have lI16 := hI16.lt; have mI16 := Nat.ne_of_gt lI16; have nI16 := Nat.ne_of_lt lI16
          have hJ16 : Blk v16 (v14.heap.size) 70 #[.int .i64 is, .slice bj il.length cj] := Blk.call (by (repeat (first | with_reducible assumption | (with_reducible apply Blk.new_at; (first | rfl | (simp; done))) | with_reducible apply Blk.store3 | with_reducible apply Blk.store4 | (with_reducible apply Blk.farp; (first | omega | (simp <;> omega))) | with_reducible apply Blk.allocp | with_reducible apply Blk.drew | with_reducible apply Blk.drewN))) hc16
          have cJ16 := hJ16.cell; have fJ16 := hJ16.frozen; have lJ16 := hJ16.lt; have mJ16 := Nat.ne_of_gt lJ16; have nJ16 := Nat.ne_of_lt lJ16
          have ha16 := own_call hc16 ha15
          have hi16 := own_call hc16 hi15
          have hj16 := own_call hc16 hj15
          have hb16 : Below w.heap.size w v16 := (by repeat (first | with_reducible exact Below.refl _ _ | with_reducible assumption | with_reducible apply Below.drew | with_reducible apply below_drewN | (with_reducible apply below_setp; (first | omega | (simp <;> omega))) | (with_reducible apply below_allocp; (first | omega | (simp <;> omega))) | (with_reducible refine below_viap (by assumption) ?_ ?_; (first | omega | (simp <;> omega)))))
          clear hA15 cA15 fA15 lA15 mA15 nA15 hX15 cX15 fX15 lX15 mX15 nX15 hI15 cI15 fI15 lI15 mI15 nI15 hJ15 cJ15 fJ15 lJ15 mJ15 nJ15 ha15 hi15 hj15
          clear HJ HK HV
          cases J with
          | false =>
            go_wp2_with fail
            go_ret
            exact ⟨rfl, (by repeat (first | with_reducible exact Below.refl _ _ | with_reducible assumption | with_reducible apply Below.drew | with_reducible apply below_drewN | (with_reducible apply below_setp; (first | omega | (simp <;> omega))) | (with_reducible apply below_allocp; (first | omega | (simp <;> omega))) | (with_reducible refine below_viap (by assumption) ?_ ?_; (first | omega | (simp <;> omega)))))⟩
          | true =>
            cases okx with
            | false =>
              go_wp2_with fail
              go_ret
              exact ⟨rfl, (by repeat (first | with_reducible exact Below.refl _ _ | with_reducible assumption | with_reducible apply Below.drew | with_reducible apply below_drewN | (with_reducible apply below_setp; (first | omega | (simp <;> omega))) | (with_reducible apply below_allocp; (first | omega | (simp <;> omega))) | (with_reducible refine below_viap (by assumption) ?_ ?_; (first | omega | (simp <;> omega)))))⟩
            | true =>
              cases okv with
              | false =>
                go_wp2_with fail
                go_ret
                exact ⟨rfl, (by repeat (first | with_reducible exact Below.refl _ _ | with_reducible assumption | with_reducible apply Below.drew | with_reducible apply below_drewN | (with_reducible apply below_setp; (first | omega | (simp <;> omega))) | (with_reducible apply below_allocp; (first | omega | (simp <;> omega))) | (with_reducible refine below_viap (by assumption) ?_ ?_; (first | omega | (simp <;> omega)))))⟩
              | true =>
                have emv := HU.out rfl rfl rfl
                have HNi1 := Lib.hid (HNi.out rfl)
                have HNw1 := Lib.hid (fun w B v h => HNw.out w B v h rfl)
                have Hmi1 := Lib.hid (fun w => Hmi.out w rfl)
                rw [emv] at Hmi1
                clear HNi HNw Hmi HU emv
                go_wp2_with fail
                refine (Hmi1.out _).mono ?_
                rintro e v17 ⟨rfl, hc17⟩
                have hz17 := hc17.size
                (try simp at hz17)
                have hA17 : Blk v17 (v5.heap.size) 70 #[.int .i64 s, .slice ba LA.length ca] := Blk.call (by (repeat (first | with_reducible assumption | (with_reducible apply Blk.new_at; (first | rfl | (simp; done))) | with_reducible apply Blk.store3 | with_reducible apply Blk.store4 | (with_reducible apply Blk.farp; (first | omega | (simp <;> omega))) | with_reducible apply Blk.allocp | with_reducible apply Blk.drew | with_reducible apply Blk.drewN))) hc17
                have cA17 := hA17.cell; have fA17 := hA17.frozen; have lA17 := hA17.lt; have mA17 := Nat.ne_of_gt lA17; have nA17 := Nat.ne_of_lt lA17
                have hX17 : Blk v17 (v9.heap.size) 49 #[.int .i64 mx.p, .int .i64 mx.q, .int .i64 mx.r, .int .i64 mx.s] := Blk.call (by (repeat (first | with_reducible assumption | (with_reducible apply Blk.new_at; (first | rfl | (simp; done))) | with_reducible apply Blk.store3 | with_reducible apply Blk.store4 | (with_reducible apply Blk.farp; (first | omega | (simp <;> omega))) | with_reducible apply Blk.allocp | with_reducible apply Blk.drew | with_reducible apply Blk.drewN))) hc17
                have cX17 := hX17.cell; have fX17 := hX17.frozen; have lX17 := hX17.lt; have mX17 := Nat.ne_of_gt lX17; have nX17 := Nat.ne_of_lt lX17
                have hI17 : Blk v17 (v13.heap.size) 70 #[.int .i64 is, .slice bi il.length ci] := Blk.call (by (repeat (first | with_reducible assumption | (with_reducible apply Blk.new_at; (first | rfl | (simp; done))) | with_reducible apply Blk.store3 | with_reducible apply Blk.store4 | (with_reducible apply Blk.farp; (first | omega | (simp <;> omega))) | with_reducible apply Blk.allocp | with_reducible apply Blk.drew | with_reducible apply Blk.drewN))) hc17
                have cI17 := hI17.cell; have fI17 := hI17.frozen; have lI17 := hI17.lt; have mI17 := Nat.ne_of_gt lI17; have nI17 := Nat.ne_of_lt lI17
                have hJ17 : Blk v17 (v14.heap.size) 70 #[.int .i64 is, .slice bj il.length cj] := Blk.call (by (repeat (first | with_reducible assumption | (with_reducible apply Blk.new_at; (first | rfl | (simp; done))) | with_reducible apply Blk.store3 | with_reducible apply Blk.store4 | (with_reducible apply Blk.farp; (first | omega | (simp <;> omega))) | with_reducible apply Blk.allocp | with_reducible apply Blk.drew | with_reducible apply Blk.drewN))) hc17
                have cJ17 := hJ17.cell; have fJ17 := hJ17.frozen; have lJ17 := hJ17.lt; have mJ17 := Nat.ne_of_gt lJ17; have nJ17 := Nat.ne_of_lt lJ17
                have hV17 : Blk v17 (v16.heap.size) 49 #[.int .i64 mv.p, .int .i64 mv.q, .int .i64 mv.r, .int .i64 mv.s] := Blk.call (by (repeat (first | with_reducible assumption | (with_reducible apply Blk.new_at; (first | rfl | (simp; done))) | with_reducible apply Blk.store3 | with_reducible apply Blk.store4 | (with_reducible apply Blk.farp; (first | omega | (simp <;> omega))) | with_reducible apply Blk.allocp | with_reducible apply Blk.drew | with_reducible apply Blk.drewN))) hc17
                have cV17 := hV17.cell; have fV17 := hV17.frozen; have lV17 := hV17.lt; have mV17 := Nat.ne_of_gt lV17; have nV17 := Nat.ne_of_lt lV17
                have ha17 := own_call hc17 (by have := ha16; exact (by repeat (first | with_reducible assumption | with_reducible apply own_alloc | with_reducible apply own_drew | with_reducible apply own_drewN | (with_reducible refine own_setp (by assumption) ?_ ?_; (first | omega | (simp <;> omega))) | (with_reducible refine own_call (by assumption) ?_))))
                have hb17 : Below w.heap.size w v17 := (by repeat (first | with_reducible exact Below.refl _ _ | with_reducible assumption | with_reducible apply Below.drew | with_reducible apply below_drewN | (with_reducible apply below_setp; (first | omega | (simp <;> omega))) | (with_reducible apply below_allocp; (first | omega | (simp <;> omega))) | (with_reducible refine below_viap (by assumption) ?_ ?_; (first | omega | (simp <;> omega)))))
                clear hA16 cA16 fA16 lA16 mA16 nA16 hX16 cX16 fX16 lX16 mX16 nX16 hI16 cI16 fI16 lI16 mI16 nI16 hJ16 cJ16 fJ16 lJ16 mJ16 nJ16 ha16
                go_wp2_with fail
                refine (HNw1.out _ _ _ ⟨HLA.out, (by have := ha17; exact (by repeat (first | with_reducible assumption | with_reducible apply own_alloc | with_reducible apply own_drew | with_reducible apply own_drewN | (with_reducible refine own_setp (by assumption) ?_ ?_; (first | omega | (simp <;> omega))) | (with_reducible refine own_call (by assumption) ?_))))⟩).mono ?_
                rintro e v18 ⟨vn, rfl, hn18, hc18⟩
                have hz18 := hc18.size
                (try simp at hz18)
                have hA18 : Blk v18 (v5.heap.size) 70 #[.int .i64 s, .slice ba LA.length ca] := Blk.call (by (repeat (first | with_reducible assumption | (with_reducible apply Blk.new_at; (first | rfl | (simp; done))) | with_reducible apply Blk.store3 | with_reducible apply Blk.store4 | (with_reducible apply Blk.farp; (first | omega | (simp <;> omega))) | with_reducible apply Blk.allocp | with_reducible apply Blk.drew | with_reducible apply Blk.drewN))) hc18
                have cA18 := hA18.cell; have fA18 := hA18.frozen; have lA18 := hA18.lt; have mA18 := Nat.ne_of_gt lA18; have nA18 := Nat.ne_of_lt lA18
                have hX18 : Blk v18 (v9.heap.size) 49 #[.int .i64 mx.p, .int .i64 mx.q, .int .i64 mx.r, .int .i64 mx.s] := Blk.call (by (repeat (first | with_reducible assumption | (with_reducible apply Blk.new_at; (first | rfl | (simp; done))) | with_reducible apply Blk.store3 | with_reducible apply Blk.store4 | (with_reducible apply Blk.farp; (first | omega | (simp <;> omega))) | with_reducible apply Blk.allocp | with_reducible apply Blk.drew | with_reducible apply Blk.drewN))) hc18
                have cX18 := hX18.cell; have fX18 := hX18.frozen; have lX18 := hX18.lt; have mX18 := Nat.ne_of_gt lX18; have nX18 := Nat.ne_of_lt lX18
                have hI18 : Blk v18 (v13.heap.size) 70 #[.int .i64 is, .slice bi il.length ci] := Blk.call (by (repeat (first | with_reducible assumption | (with_reducible apply Blk.new_at; (first | rfl | (simp; done))) | with_reducible apply Blk.store3 | with_reducible apply Blk.store4 | (with_reducible apply Blk.farp; (first | omega | (simp <;> omega))) | with_reducible apply Blk.allocp | with_reducible apply Blk.drew | with_reducible apply Blk.drewN))) hc18
                have cI18 := hI18.cell; have fI18 := hI18.frozen; have lI18 := hI18.lt; have mI18 := Nat.ne_of_gt lI18; have nI18 := Nat.ne_of_lt lI18
                have hJ18 : Blk v18 (v14.heap.size) 70 #[.int .i64 is, .slice bj il.length cj] := Blk.call (by (repeat (first | with_reducible assumption | (with_reducible apply Blk.new_at; (first | rfl | (simp; done))) | with_reducible apply Blk.store3 | with_reducible apply Blk.store4 | (with_reducible apply Blk.farp; (first | omega | (simp <;> omega))) | with_reducible apply Blk.allocp | with_reducible apply Blk.drew | with_reducible apply Blk.drewN))) hc18
                have cJ18 := hJ18.cell; have fJ18 := hJ18.frozen; have lJ18 := hJ18.lt; have mJ18 := Nat.ne_of_gt lJ18; have nJ18 := Nat.ne_of_lt lJ18
                have hV18 : Blk v18 (v16.heap.size) 49 #[.int .i64 mv.p, .int .i64 mv.q, .int .i64 mv.r, .int .i64 mv.s] := Blk.call (by (repeat (first | with_reducible assumption | (with_reducible apply Blk.new_at; (first | rfl | (simp; done))) | with_reducible apply Blk.store3 | with_reducible apply Blk.store4 | (with_reducible apply Blk.farp; (first | omega | (simp <;> omega))) | with_reducible apply Blk.allocp | with_reducible apply Blk.drew | with_reducible apply Blk.drewN))) hc18
                have cV18 := hV18.cell; have fV18 := hV18.frozen; have lV18 := hV18.lt; have mV18 := Nat.ne_of_gt lV18; have nV18 := Nat.ne_of_lt lV18
                have hE18 : Blk v18 (v17.heap.size) 49 #[.int .i64 mv.p, .int .i64 mv.q, .int .i64 mv.r, .int .i64 mv.s] := Blk.call (by (repeat (first | with_reducible assumption | (with_reducible apply Blk.new_at; (first | rfl | (simp; done))) | with_reducible apply Blk.store3 | with_reducible apply Blk.store4 | (with_reducible apply Blk.farp; (first | omega | (simp <;> omega))) | with_reducible apply Blk.allocp | with_reducible apply Blk.drew | with_reducible apply Blk.drewN))) hc18
                have cE18 := hE18.cell; have fE18 := hE18.frozen; have lE18 := hE18.lt; have mE18 := Nat.ne_of_gt lE18; have nE18 := Nat.ne_of_lt lE18
                have ha18 := own_call hc18 (by have := ha17; exact (by repeat (first | with_reducible assumption | with_reducible apply own_alloc | with_reducible apply own_drew | with_reducible apply own_drewN | (with_reducible refine own_setp (by assumption) ?_ ?_; (first | omega | (simp <;> omega))) | (with_reducible refine own_call (by assumption) ?_))))
                have hb18 : Below w.heap.size w v18 := (by repeat (first | with_reducible exact Below.refl _ _ | with_reducible assumption | with_reducible apply Below.drew | with_reducible apply below_drewN | (with_reducible apply below_setp; (first | omega | (simp <;> omega))) | (with_reducible apply below_allocp; (first | omega | (simp <;> omega))) | (with_reducible refine below_viap (by assumption) ?_ ?_; (first | omega | (simp <;> omega)))))
                clear hA17 cA17 fA17 lA17 mA17 nA17 hX17 cX17 fX17 lX17 mX17 nX17 hI17 cI17 fI17 lI17 mI17 nI17 hJ17 cJ17 fJ17 lJ17 mJ17 nJ17 hV17 cV17 fV17 lV17 mV17 nV17 ha17
                obtain ⟨bn, cn, rfl⟩ := own_shape hn18
                go_wp2_with fail
                refine (HNi1.out _ _ _ ⟨(by have := Hnl.out; omega), (by have := hn18; exact (by repeat (first | with_reducible assumption | with_reducible apply own_alloc | with_reducible apply own_drew | with_reducible apply own_drewN | (with_reducible refine own_setp (by assumption) ?_ ?_; (first | omega | (simp <;> omega))) | (with_reducible refine own_call (by assumption) ?_))))⟩).mono ?_
                rintro e v19 ⟨rfl, hc19⟩
                have hz19 := hc19.size
                (try simp at hz19)
                have hA19 : Blk v19 (v5.heap.size) 70 #[.int .i64 s, .slice ba LA.length ca] := Blk.call (by (repeat (first | with_reducible assumption | (with_reducible apply Blk.new_at; (first | rfl | (simp; done))) | with_reducible apply Blk.store3 | with_reducible apply Blk.store4 | (with_reducible apply Blk.farp; (first | omega | (simp <;> omega))) | with_reducible apply Blk.allocp | with_reducible apply Blk.drew | with_reducible apply Blk.drewN))) hc19
                have cA19 := hA19.cell; have fA19 := hA19.frozen; have lA19 := hA19.lt; have mA19 := Nat.ne_of_gt lA19; have nA19 := Nat.ne_of_lt lA19
                have hX19 : Blk v19 (v9.heap.size) 49 #[.int .i64 mx.p, .int .i64 mx.q, .int .i64 mx.r, .int .i64 mx.s] := Blk.call (by (repeat (first | with_reducible assumption | (with_reducible apply Blk.new_at; (first | rfl | (simp; done))) | with_reducible apply Blk.store3 | with_reducible apply Blk.store4 | (with_reducible apply Blk.farp; (first | omega | (simp <;> omega))) | with_reducible apply Blk.allocp | with_reducible apply Blk.drew | with_reducible apply Blk.drewN))) hc19
                have cX19 := hX19.cell; have fX19 := hX19.frozen; have lX19 := hX19.lt; have mX19 := Nat.ne_of_gt lX19; have nX19 := Nat.ne_of_lt lX19
                have hI19 : Blk v19 (v13.heap.size) 70 #[.int .i64 is, .slice bi il.length ci] := Blk.call (by (repeat (first | with_reducible assumption | (with_reducible apply Blk.new_at; (first | rfl | (simp; done))) | with_reducible apply Blk.store3 | with_reducible apply Blk.store4 | (with_reducible apply Blk.farp; (first | omega | (simp <;> omega))) | with_reducible apply Blk.allocp | with_reducible apply Blk.drew | with_reducible apply Blk.drewN))) hc19
                have cI19 := hI19.cell; have fI19 := hI19.frozen; have lI19 := hI19.lt; have mI19 := Nat.ne_of_gt lI19; have nI19 := Nat.ne_of_lt lI19
                have hJ19 : Blk v19 (v14.heap.size) 70 #[.int .i64 is, .slice bj il.length cj] := Blk.call (by (repeat (first | with_reducible assumption | (with_reducible apply Blk.new_at; (first | rfl | (simp; done))) | with_reducible apply Blk.store3 | with_reducible apply Blk.store4 | (with_reducible apply Blk.farp; (first | omega | (simp <;> omega))) | with_reducible apply Blk.allocp | with_reducible apply Blk.drew | with_reducible apply Blk.drewN))) hc19
                have cJ19 := hJ19.cell; have fJ19 := hJ19.frozen; have lJ19 := hJ19.lt; have mJ19 := Nat.ne_of_gt lJ19; have nJ19 := Nat.ne_of_lt lJ19
                have hV19 : Blk v19 (v16.heap.size) 49 #[.int .i64 mv.p, .int .i64 mv.q, .int .i64 mv.r, .int .i64 mv.s] := Blk.call (by (repeat (first | with_reducible assumption | (with_reducible apply Blk.new_at; (first | rfl | (simp; done))) | with_reducible apply Blk.store3 | with_reducible apply Blk.store4 | (with_reducible apply Blk.farp; (first | omega | (simp <;> omega))) | with_reducible apply Blk.allocp | with_reducible apply Blk.drew | with_reducible apply Blk.drewN))) hc19
                have cV19 := hV19.cell; have fV19 := hV19.frozen; have lV19 := hV19.lt; have mV19 := Nat.ne_of_gt lV19; have nV19 := Nat.ne_of_lt lV19
                have hE19 : Blk v19 (v17.heap.size) 49 #[.int .i64 mv.p, .int .i64 mv.q, .int .i64 mv.r, .int .i64 mv.s] := Blk.call (by (repeat (first | with_reducible assumption | (with_reducible apply Blk.new_at; (first | rfl | (simp; done))) | with_reducible apply Blk.store3 | with_reducible apply Blk.store4 | (with_reducible apply Blk.farp; (first | omega | (simp <;> omega))) | with_reducible apply Blk.allocp | with_reducible apply Blk.drew | with_reducible apply Blk.drewN))) hc19
                have cE19 := hE19.cell; have fE19 := hE19.frozen; have lE19 := hE19.lt; have mE19 := Nat.ne_of_gt lE19; have nE19 := Nat.ne_of_lt lE19
                have hN19 : Blk v19 (v18.heap.size) 70 #[.int .i64 nws, .slice bn nwl.length cn] := Blk.call (by (repeat (first | with_reducible assumption | (with_reducible apply Blk.new_at; (first | rfl | (simp; done))) | with_reducible apply Blk.store3 | with_reducible apply Blk.store4 | (with_reducible apply Blk.farp; (first | omega | (simp <;> omega))) | with_reducible apply Blk.allocp | with_reducible apply Blk.drew | with_reducible apply Blk.drewN))) hc19
                have cN19 := hN19.cell; have fN19 := hN19.frozen; have lN19 := hN19.lt; have mN19 := Nat.ne_of_gt lN19; have nN19 := Nat.ne_of_lt lN19
                have ha19 := own_call hc19 (by have := ha18; exact (by repeat (first | with_reducible assumption | with_reducible apply own_alloc | with_reducible apply own_drew | with_reducible apply own_drewN | (with_reducible refine own_setp (by assumption) ?_ ?_; (first | omega | (simp <;> omega))) | (with_reducible refine own_call (by assumption) ?_))))
                have hn19 := own_call hc19 (by have := hn18; exact (by repeat (first | with_reducible assumption | with_reducible apply own_alloc | with_reducible apply own_drew | with_reducible apply own_drewN | (with_reducible refine own_setp (by assumption) ?_ ?_; (first | omega | (simp <;> omega))) | (with_reducible refine own_call (by assumption) ?_))))
                have hb19 : Below w.heap.size w v19 := (by repeat (first | with_reducible exact Below.refl _ _ | with_reducible assumption | with_reducible apply Below.drew | with_reducible apply below_drewN | (with_reducible apply below_setp; (first | omega | (simp <;> omega))) | (with_reducible apply below_allocp; (first | omega | (simp <;> omega))) | (with_reducible refine below_viap (by assumption) ?_ ?_; (first | omega | (simp <;> omega)))))
                clear hA18 cA18 fA18 lA18 mA18 nA18 hX18 cX18 fX18 lX18 mX18 nX18 hI18 cI18 fI18 lI18 mI18 nI18 hJ18 cJ18 fJ18 lJ18 mJ18 nJ18 hV18 cV18 fV18 lV18 mV18 nV18 hE18 cE18 fE18 lE18 mE18 nE18 ha18 hn18
                go_wp2_with fail
                go_ret
                exact ⟨rfl, (by repeat (first | with_reducible exact Below.refl _ _ | with_reducible assumption | with_reducible apply Below.drew | with_reducible apply below_drewN | (with_reducible apply below_setp; (first | omega | (simp <;> omega))) | (with_reducible apply below_allocp; (first | omega | (simp <;> omega))) | (with_reducible refine below_viap (by assumption) ?_ ?_; (first | omega | (simp <;> omega)))))⟩
  · have Hb := Lib.hid (fun w => big_yes A A2 zs.length es.length c1 c2 w hbig)
    clear HZ HY hbig
    go_enter Try.func6, Try.ntmps6
    go_wp2_with (go_at_call 9; (with_reducible refine (Hb.out _).mono ?_); rintro e v ⟨rfl, rfl⟩)
    go_ret
    exact ⟨rfl, (by repeat (first | with_reducible exact Below.refl _ _ | with_reducible assumption | with_reducible apply Below.drew | with_reducible apply below_drewN | (with_reducible apply below_setp; (first | omega | (simp <;> omega))) | (with_reducible apply below_allocp; (first | omega | (simp <;> omega))) | (with_reducible refine below_viap (by assumption) ?_ ?_; (first | omega | (simp <;> omega)))))⟩
theorem own_FnReductionWords : ownKnob Try.prog.godebug = none := by kernel_rfl

set_option maxRecDepth 100000 in
theorem lifted_FnReductionWords (os : Os) (started : os.Started) (H : Type) (enc : TypeId × Value → H) :
    ReturnsInHanded {} Try.checked os 6 .any (Rows.fnReductionWordsSpec.pre6 enc Try.prog Try.f6 Rows.fnReductionWordsRow.domain false) (Rows.fnReductionWordsSpec.post enc Try.prog Try.f6 false true false false) := by
  refine returnsInHanded_of_change (C := Try.checked) own_FnReductionWords started (by kernel_rfl) Try.func6
    (ChangeSpec.witness6 (enc := enc) (C := Try.checked) false ⟨#[], #[.slice none 0 0, .slice none 0 0], []⟩ 8 (by kernel_rfl) (by kernel_rfl) (by kernel_rfl) (by kernel_rfl)) ?_
  intro W base args ds gs before hval0 hW hcnd _
  have hval : ∀ (j : Nat) t v, Try.f6.params[j]? = some t → args[j]? = some v → Value.okWide Try.prog W .any base t v := hval0
  have hW' := hW
  obtain ⟨p, q, hA0, hV, rfl, hfz, hnd⟩ := hW
  have hA : DataW.TrodAll enc Try.prog W 0 (fun _ => true) true Try.f6.params.toList args.toList ds p := hA0
  rw [Try.params6] at hA hval
  obtain ⟨v1, vs1, d1, ds1, p1, q1, hargs, rfl, rfl, h1, r1⟩ := trodAll_cons hA
  obtain ⟨v2, vs2, d2, ds2, p2, q2, rfl, rfl, rfl, h2, r2⟩ := trodAll_cons r1
  obtain ⟨rfl, rfl, rfl⟩ := trodAll_nil r2
  obtain rfl : args = #[v1, v2] := by cases args; simp_all
  obtain ⟨rfl, rfl⟩ := trodVars_none hV
  obtain ⟨zs, hrd⟩ := open_reB (hval 0 22 v1 rfl rfl) h1
  obtain ⟨es, hre⟩ := open_reB (hval 1 22 v2 rfl rfl) h2
  have hlt1 : ∀ x ∈ p1, x.block < W.heap.size := fun x hx => hW'.lt x (by simp [hx])
  have hlt2 : ∀ x ∈ p2, x.block < W.heap.size := fun x hx => hW'.lt x (by simp [hx])
  clear hA0 hval0
  refine (walk_FnReductionWords zs es v1 v2 W hrd hre).mono fun e W' ⟨he, hg⟩ => ?_
  subst he
  exact ⟨_, rfl, post_of_below (pa := p1 ++ (p2 ++ [])) (pv := []) hW' (fun _ _ _ => (trodAll_cons_mk (shut_bool Try.underlying4 _) trodAll_mk0)) (fun sp hsp => (trodAll_cons_mk (WideElems.Trod_stays laid_D3 (by kernel_rfl) (of_decide_eq_true (by kernel_rfl)) h1 (fun x hx => hg.same (hlt1 x hx)) (fun x hx => hsp x (by simp [hx]))) (trodAll_cons_mk (WideElems.Trod_stays laid_D3 (by kernel_rfl) (of_decide_eq_true (by kernel_rfl)) h2 (fun x hx => hg.same (hlt2 x hx)) (fun x hx => hsp x (by simp [hx]))) trodAll_mk0))) (fun _ _ => rfl) rfl
    hg (ok_one (by kernel_rfl) rfl (okWide_bool_mk Try.underlying4 _))⟩

theorem and2_FnReductionWords {a b : Bool} (h : a = true) (k : b = true) : (a && b) = true := by rw [h, k]; rfl
set_option maxRecDepth 100000 in
theorem cl0_FnReductionWords : (Rows.fnReductionWordsRow.wf (OpenSpec.ofChange Rows.fnReductionWordsSpec)) = true := by kernel_rfl
set_option maxRecDepth 100000 in
theorem cl1_FnReductionWords : (laidOutB Try.pinned.checked.prog) = true := by kernel_rfl
set_option maxRecDepth 100000 in
theorem cl2_FnReductionWords : (mapsRowed Try.pinned.checked.prog) = true := by kernel_rfl
set_option maxRecDepth 100000 in
theorem cl3_FnReductionWords : (Try.f6.params.all (Try.pinned.checked.prog.readableRec ·)) = true := by kernel_rfl
set_option maxRecDepth 100000 in
theorem cl4_FnReductionWords : (namedTie Try.pinned.checked.prog Rows.fnReductionWordsRow.named Rows.fnReductionWordsSpec.vars) = true := by kernel_rfl
set_option maxRecDepth 100000 in
theorem cl5_FnReductionWords : (Rows.fnReductionWordsRow.stops == []) = true := by kernel_rfl
set_option maxRecDepth 100000 in
theorem cl6_FnReductionWords : (Try.pinned.checked.prog.stops == []) = true := by kernel_rfl
set_option maxRecDepth 100000 in
theorem cl7_FnReductionWords : (Rows.fnReductionWordsRow.knobs == []) = true := by kernel_rfl
set_option maxRecDepth 100000 in
theorem cl8_FnReductionWords : (Try.pinned.checked.prog.stopKnobs == []) = true := by kernel_rfl
set_option maxRecDepth 100000 in
theorem cl9_FnReductionWords : (Rows.fnReductionWordsRow.inPlace == Try.pinned.checked.prog.inPlace 6) = true := by kernel_rfl
set_option maxRecDepth 100000 in
theorem cl10_FnReductionWords : (Rows.fnReductionWordsRow.unfollowed == Try.pinned.checked.prog.unfollowed 6) = true := by kernel_rfl
set_option maxRecDepth 100000 in
theorem cl11_FnReductionWords : (Rows.fnReductionWordsRow.recurses == Try.pinned.checked.prog.recurses 6) = true := by kernel_rfl
set_option maxRecDepth 100000 in
theorem cl12_FnReductionWords : (Rows.fnReductionWordsRow.named == Try.pinned.checked.prog.varsNamed 6) = true := by kernel_rfl
set_option maxRecDepth 100000 in
theorem cl13_FnReductionWords : (Rows.fnReductionWordsRow.maps == (Try.f6.params.toList ++ Rows.fnReductionWordsSpec.plain.varTypes Try.pinned.checked.prog).any (Try.pinned.checked.prog.mapsRec ·)) = true := by kernel_rfl
set_option maxRecDepth 100000 in
theorem cl14_FnReductionWords : (Rows.fnReductionWordsRow.ifaces == (Try.f6.params.toList ++ Rows.fnReductionWordsSpec.plain.varTypes Try.pinned.checked.prog).any (Try.pinned.checked.prog.ifacesRec ·)) = true := by kernel_rfl
set_option maxRecDepth 100000 in
theorem cl15_FnReductionWords : (Rows.fnReductionWordsRow.mapsOut == Try.pinned.checked.prog.mapsAmong Try.f6.resultTypes.toList) = true := by kernel_rfl
set_option maxRecDepth 100000 in
theorem cl16_FnReductionWords : (Rows.fnReductionWordsRow.loops == (Try.f6.params.toList ++ Rows.fnReductionWordsSpec.plain.varTypes Try.pinned.checked.prog).any (Try.pinned.checked.prog.loopsFrom ·)) = true := by kernel_rfl
set_option maxRecDepth 100000 in
theorem cl17_FnReductionWords : (Rows.fnReductionWordsRow.wideKeys == (Try.f6.params.toList ++ Rows.fnReductionWordsSpec.plain.varTypes Try.pinned.checked.prog ++ Try.f6.resultTypes.toList).any (Try.pinned.checked.prog.wideKeysFrom ·)) = true := by kernel_rfl
set_option maxRecDepth 100000 in
theorem cl18_FnReductionWords : (Rows.fnReductionWordsSpec.vars.all (Try.pinned.checked.prog.varReadable ·)) = true := by kernel_rfl
set_option maxRecDepth 100000 in
theorem cl19_FnReductionWords : (Try.f6.resultTypes.all (fun t => Try.pinned.checked.prog.readableRec t && decide (t < Try.pinned.checked.prog.types.size))) = true := by kernel_rfl
set_option maxRecDepth 100000 in
theorem cl20_FnReductionWords : (Rows.fnReductionWordsRow.ifacesOut == Try.f6.resultTypes.toList.any (Try.pinned.checked.prog.ifacesRec ·)) = true := by kernel_rfl
set_option maxRecDepth 100000 in
theorem cl21_FnReductionWords : (Rows.fnReductionWordsRow.loopsOut == Try.f6.resultTypes.toList.any (Try.pinned.checked.prog.loopsFrom ·)) = true := by kernel_rfl
set_option maxRecDepth 100000 in
theorem cl22_FnReductionWords : (Rows.fnReductionWordsRow.plainKeys == Try.pinned.checked.prog.plainKeys) = true := by kernel_rfl
set_option maxRecDepth 100000 in
theorem cl23_FnReductionWords : (Rows.fnReductionWordsRow.shortTexts.isNone) = true := by kernel_rfl
set_option maxRecDepth 100000 in
theorem cl24_FnReductionWords : (Try.pinned.checked.prog.stopsHeard) = true := by kernel_rfl
set_option maxRecDepth 100000 in
theorem cl25_FnReductionWords : (Try.pinned.checked.prog.mayEnter) = true := by kernel_rfl
set_option maxRecDepth 100000 in
theorem cl26_FnReductionWords : (Rows.fnReductionWordsRow.lifted == Try.pinned.checked.prog.liftsFinal) = true := by kernel_rfl
set_option maxRecDepth 100000 in
theorem cl27_FnReductionWords : (Try.pinned.checked.prog.make == some Rows.fnReductionWordsRow.make) = true := by kernel_rfl
set_option maxRecDepth 100000 in
theorem cl28_FnReductionWords : (Rows.fnReductionWordsRow.kinds == (if Rows.fnReductionWordsRow.domain.isEmpty then [] else Try.f6.params.toList.map fun t => match Try.pinned.checked.prog.underlying t with | some (.int k) => some k | _ => none)) = true := by kernel_rfl
set_option maxRecDepth 100000 in
theorem cl29_FnReductionWords : (Rows.fnReductionWordsRow.pinned == Rows.fnReductionWordsRow.pinnedBy) = true := by kernel_rfl
set_option maxRecDepth 100000 in
theorem cl30_FnReductionWords : (Rows.fnReductionWordsRow.veiled == (Try.f6.params.toList ++ Rows.fnReductionWordsSpec.plain.varTypes Try.pinned.checked.prog ++ Try.f6.resultTypes.toList).any (Try.pinned.checked.prog.veiledRec ·)) = true := by kernel_rfl
set_option maxRecDepth 100000 in
theorem cl31_FnReductionWords : (Rows.fnReductionWordsRow.veiledFits Try.pinned.checked.prog Try.f6.params.toList (Try.f6.params.toList ++ Rows.fnReductionWordsSpec.plain.varTypes Try.pinned.checked.prog ++ Try.f6.resultTypes.toList)) = true := by kernel_rfl
set_option maxRecDepth 100000 in
theorem closed_FnReductionWords : joinedFacts Try.pinned.checked.prog 6 Try.f6 Rows.fnReductionWordsSpec Rows.fnReductionWordsRow = true := (and2_FnReductionWords (and2_FnReductionWords (and2_FnReductionWords (and2_FnReductionWords (and2_FnReductionWords (and2_FnReductionWords (and2_FnReductionWords (and2_FnReductionWords (and2_FnReductionWords (and2_FnReductionWords (and2_FnReductionWords (and2_FnReductionWords (and2_FnReductionWords (and2_FnReductionWords (and2_FnReductionWords (and2_FnReductionWords (and2_FnReductionWords (and2_FnReductionWords (and2_FnReductionWords (and2_FnReductionWords (and2_FnReductionWords (and2_FnReductionWords (and2_FnReductionWords (and2_FnReductionWords (and2_FnReductionWords (and2_FnReductionWords (and2_FnReductionWords (and2_FnReductionWords (and2_FnReductionWords (and2_FnReductionWords (and2_FnReductionWords cl0_FnReductionWords cl1_FnReductionWords) cl2_FnReductionWords) cl3_FnReductionWords) cl4_FnReductionWords) cl5_FnReductionWords) cl6_FnReductionWords) cl7_FnReductionWords) cl8_FnReductionWords) cl9_FnReductionWords) cl10_FnReductionWords) cl11_FnReductionWords) cl12_FnReductionWords) cl13_FnReductionWords) cl14_FnReductionWords) cl15_FnReductionWords) cl16_FnReductionWords) cl17_FnReductionWords) cl18_FnReductionWords) cl19_FnReductionWords) cl20_FnReductionWords) cl21_FnReductionWords) cl22_FnReductionWords) cl23_FnReductionWords) cl24_FnReductionWords) cl25_FnReductionWords) cl26_FnReductionWords) cl27_FnReductionWords) cl28_FnReductionWords) cl29_FnReductionWords) cl30_FnReductionWords) cl31_FnReductionWords)


/-- The statement. -/
theorem holds_FnReductionWords : Rows.FnReductionWordsSaid :=
  OpenClaim.holds_of_wide 6 Try.f6 rfl rfl rfl rfl rfl rfl rfl ⟨rfl, rfl, rfl, rfl, rfl⟩ rfl rfl rfl rfl rfl (by kernel_rfl) Try.func6 closed_FnReductionWords
    (of_decide_eq_true (by kernel_rfl)) (by unfold Func.isWrapper; first | (rw [if_pos (by decide +kernel)]; kernel_rfl) | (rw [if_neg (by decide +kernel)]; exact ⟨rfl, rfl⟩))
    (fun os started H enc _ => lifted_FnReductionWords os started H enc)
#print axioms holds_FnReductionWords
end Go.Proofs.Ytdaofpjanklmeaa
