/- FnCubeActions returns true: for all drawn cubes and proper matrices, acting in a direction substitutes the matrix into the form of this direction alone, three turns are none, a cube is read back from its text, and a cube of two forms has them and the inverse of their composite. Conditions: the tables of the library read as its initialisers lay them. (written by gen_L57.py) -/
import Derived.Test.YtlcegkafagdcjaaGreatDoorXM
import Derived.Test.YtlcegkafagdcjaaGreatDoorFV
import Derived.Test.YtlcegkafagdcjaaGreatDoorXJ
import Derived.Test.YtlcegkafagdcjaaGreatDoorW2
namespace Go.Proofs.YtlcegkafagdcjaaGreatDoor
open Go.RowKit Go.ChangeShapes Go.WideShapes Go.ChangeAt Go.Joins

set_option maxRecDepth 100000 in
set_option maxHeartbeats 25600000 in
theorem walk_FnCubeActions (zs es : List Int) (v u : Value) (w : World) (hz : ReB zs v w) (he : ReB es u w) (hP : PowT w) :
    Calls Tryz.prog 3 #[v, u] w fun e w' => e = .returned (.bool true) ∧ Below w.heap.size w w' := by
  have HZ := Lib.hid hz
  have HY := Lib.hid he
  have HP := Lib.hid hP
  obtain ⟨A0, c1', rfl⟩ := hz.shape
  obtain ⟨A2, c2', rfl⟩ := he.shape
  clear hz he hP
  by_cases hbig : zs.length ≤ 1048576 ∧ es.length ≤ 1048576 - zs.length
  · have Hb := Lib.hid (fun w => big_no A0 A2 zs.length es.length c1' c2' w hbig.1 hbig.2)
    have HR := Lib.hid (HZ.out.rd hbig.1)
    have HE := Lib.hid (fun w' (hb : Below w.heap.size w w') => (HY.out.rd (by omega)).below hb (Nat.le_refl _))
    clear HZ HY hbig
    go_enter Tryz.func3, Tryz.ntmps3
    go_wp2_with (go_at_call 4; (with_reducible refine (Hb.out _).mono ?_); rintro e v ⟨rfl, rfl⟩)
    refine (drawAC_any zs _ _ _ HR.out (Nat.le_refl _)).mono ?_
    rintro e v1 ⟨k, i, m, rfl, hb1⟩
    have hz1 := hb1.size
    clear HR Hb
    have HI := Lib.hid (fun w => implAc_all k i m w)
    have HS := Lib.hid (fun w => specAc_all k i m w)
    have HB := Lib.hid (fun h : axB k i m = true => ax_forms h)
    generalize axC k i m = n at *
    generalize axB k i m = b at *
    have e1 : (b != b) = false := by cases b <;> rfl
    go_wp2_with fail
    refine (HI.out _).mono ?_
    rintro e v2 ⟨rfl, hc2⟩
    have hz2 := hc2.size
    (try simp at hz2)
    have hK2 : Blk v2 (v1.heap.size) 25 #[.int .i64 k.a, .int .i64 k.b, .int .i64 k.c, .int .i64 k.d, .int .i64 k.e, .int .i64 k.f, .int .i64 k.g, .int .i64 k.h] := Blk.call (by (repeat (first | with_reducible assumption | (with_reducible apply Blk.new_at; (first | rfl | (simp; done))) | with_reducible (first | apply Blk.store3 | apply Blk.store4) | (with_reducible apply Blk.farp; (first | omega | (simp <;> omega))) | with_reducible (first | apply Blk.allocp | apply Blk.drew | apply Blk.drewN)))) hc2
    obtain ⟨cK2, fK2, lK2, mK2, nK2⟩ := hK2.all5
    have hM2 : Blk v2 (v1.heap.size + 1) 27 #[.int .i64 m.p, .int .i64 m.q, .int .i64 m.r, .int .i64 m.s] := Blk.call (by (repeat (first | with_reducible assumption | (with_reducible apply Blk.new_at; (first | rfl | (simp; done))) | with_reducible (first | apply Blk.store3 | apply Blk.store4) | (with_reducible apply Blk.farp; (first | omega | (simp <;> omega))) | with_reducible (first | apply Blk.allocp | apply Blk.drew | apply Blk.drewN)))) hc2
    obtain ⟨cM2, fM2, lM2, mM2, nM2⟩ := hM2.all5
    have hb2 : Below w.heap.size w v2 := (by repeat (first | with_reducible (first | exact Below.refl _ _ | assumption | apply Below.drew | apply below_drewN) | (with_reducible (first | apply below_setp | apply below_allocp); (first | omega | (simp <;> omega))) | (with_reducible refine below_viap (by assumption) ?_ ?_; (first | omega | (simp <;> omega)))))
    go_wp2_with fail
    refine (HS.out _).mono ?_
    rintro e v3 ⟨rfl, hc3⟩
    have hz3 := hc3.size
    (try simp at hz3)
    have hK3 : Blk v3 (v1.heap.size) 25 #[.int .i64 k.a, .int .i64 k.b, .int .i64 k.c, .int .i64 k.d, .int .i64 k.e, .int .i64 k.f, .int .i64 k.g, .int .i64 k.h] := Blk.call (by (repeat (first | with_reducible assumption | (with_reducible apply Blk.new_at; (first | rfl | (simp; done))) | with_reducible (first | apply Blk.store3 | apply Blk.store4) | (with_reducible apply Blk.farp; (first | omega | (simp <;> omega))) | with_reducible (first | apply Blk.allocp | apply Blk.drew | apply Blk.drewN)))) hc3
    obtain ⟨cK3, fK3, lK3, mK3, nK3⟩ := hK3.all5
    have hM3 : Blk v3 (v1.heap.size + 1) 27 #[.int .i64 m.p, .int .i64 m.q, .int .i64 m.r, .int .i64 m.s] := Blk.call (by (repeat (first | with_reducible assumption | (with_reducible apply Blk.new_at; (first | rfl | (simp; done))) | with_reducible (first | apply Blk.store3 | apply Blk.store4) | (with_reducible apply Blk.farp; (first | omega | (simp <;> omega))) | with_reducible (first | apply Blk.allocp | apply Blk.drew | apply Blk.drewN)))) hc3
    obtain ⟨cM3, fM3, lM3, mM3, nM3⟩ := hM3.all5
    have hN3 : Blk v3 (v2.heap.size) 25 #[.int .i64 n.a, .int .i64 n.b, .int .i64 n.c, .int .i64 n.d, .int .i64 n.e, .int .i64 n.f, .int .i64 n.g, .int .i64 n.h] := Blk.call (by (repeat (first | with_reducible assumption | (with_reducible apply Blk.new_at; (first | rfl | (simp; done))) | with_reducible (first | apply Blk.store3 | apply Blk.store4) | (with_reducible apply Blk.farp; (first | omega | (simp <;> omega))) | with_reducible (first | apply Blk.allocp | apply Blk.drew | apply Blk.drewN)))) hc3
    obtain ⟨cN3, fN3, lN3, mN3, nN3⟩ := hN3.all5
    have hb3 : Below w.heap.size w v3 := (by repeat (first | with_reducible (first | exact Below.refl _ _ | assumption | apply Below.drew | apply below_drewN) | (with_reducible (first | apply below_setp | apply below_allocp); (first | omega | (simp <;> omega))) | (with_reducible refine below_viap (by assumption) ?_ ?_; (first | omega | (simp <;> omega)))))
    clear hK2 cK2 fK2 lK2 mK2 nK2 hM2 cM2 fM2 lM2 mM2 nM2
    go_upto_if 81 with fail
    go_cut [] from 81 to 191 (fun wx => Below v3.heap.size v3 wx)
    case first =>
      clear HE HI HS e1
      cases b with
      | false =>
        go_wp2_with fail
        go_meet
        exact (by repeat (first | with_reducible (first | exact Below.refl _ _ | assumption | apply Below.drew | apply below_drewN) | (with_reducible (first | apply below_setp | apply below_allocp); (first | omega | (simp <;> omega))) | (with_reducible refine below_viap (by assumption) ?_ ?_; (first | omega | (simp <;> omega)))))
      | true =>
        obtain ⟨h1, h2, hX⟩ := HB.out rfl
        have HF := Lib.hid (fun w => implCF_yes k w h1)
        have HG := Lib.hid (fun w => implCF_yes n w h2)
        have HT1 := Lib.hid (fun w => turnC_any k w h1)
        have HT2 := Lib.hid (fun w => turnC_any (cuT k) w (cuB_T h1))
        have HT3 : Hid (∀ w, Calls Tryz.prog 10 #[.agg #[.int .i64 (cuT (cuT k)).a, .int .i64 (cuT (cuT k)).b, .int .i64 (cuT (cuT k)).c, .int .i64 (cuT (cuT k)).d, .int .i64 (cuT (cuT k)).e, .int .i64 (cuT (cuT k)).f, .int .i64 (cuT (cuT k)).g, .int .i64 (cuT (cuT k)).h]] w fun e w' => e = .returned (.tuple #[.agg #[.int .i64 k.a, .int .i64 k.b, .int .i64 k.c, .int .i64 k.d, .int .i64 k.e, .int .i64 k.f, .int .i64 k.g, .int .i64 k.h], .bool true]) ∧ Below w.heap.size w w') := Lib.hid (fun w => turnC_any (cuT (cuT k)) w (cuB_T (cuB_T h1)))
        have HC := Lib.hid (fun w hT => implCT_yes k w h1 hT)
        have HQ := Lib.hid (fun w hT => implPC_yes k w h1 hT)
        have HX := Lib.hid hX
        have HP3 := Lib.hid (HP.out.below hb3)
        clear h1 h2 hX HB HP
        generalize cuF k = f1 at *
        generalize cuF2 k = f2 at *
        generalize cuF3 k = f3 at *
        generalize cuF n = a1 at *
        generalize cuF2 n = a2 at *
        generalize cuF3 n = a3 at *
        generalize cuT (cuT k) = k2 at *
        generalize cuT k = k1 at *
        generalize cuS k = SS at *
        go_wp2_with fail
        refine (HF.out _).mono ?_
        rintro e v4 ⟨rfl, hc4⟩
        have hz4 := hc4.size
        (try simp at hz4)
        have hK4 : Blk v4 (v1.heap.size) 25 #[.int .i64 k.a, .int .i64 k.b, .int .i64 k.c, .int .i64 k.d, .int .i64 k.e, .int .i64 k.f, .int .i64 k.g, .int .i64 k.h] := Blk.call (by (repeat (first | with_reducible assumption | (with_reducible apply Blk.new_at; (first | rfl | (simp; done))) | with_reducible (first | apply Blk.store3 | apply Blk.store4) | (with_reducible apply Blk.farp; (first | omega | (simp <;> omega))) | with_reducible (first | apply Blk.allocp | apply Blk.drew | apply Blk.drewN)))) hc4
        obtain ⟨cK4, fK4, lK4, mK4, nK4⟩ := hK4.all5
        have hM4 : Blk v4 (v1.heap.size + 1) 27 #[.int .i64 m.p, .int .i64 m.q, .int .i64 m.r, .int .i64 m.s] := Blk.call (by (repeat (first | with_reducible assumption | (with_reducible apply Blk.new_at; (first | rfl | (simp; done))) | with_reducible (first | apply Blk.store3 | apply Blk.store4) | (with_reducible apply Blk.farp; (first | omega | (simp <;> omega))) | with_reducible (first | apply Blk.allocp | apply Blk.drew | apply Blk.drewN)))) hc4
        obtain ⟨cM4, fM4, lM4, mM4, nM4⟩ := hM4.all5
        have hN4 : Blk v4 (v2.heap.size) 25 #[.int .i64 n.a, .int .i64 n.b, .int .i64 n.c, .int .i64 n.d, .int .i64 n.e, .int .i64 n.f, .int .i64 n.g, .int .i64 n.h] := Blk.call (by (repeat (first | with_reducible assumption | (with_reducible apply Blk.new_at; (first | rfl | (simp; done))) | with_reducible (first | apply Blk.store3 | apply Blk.store4) | (with_reducible apply Blk.farp; (first | omega | (simp <;> omega))) | with_reducible (first | apply Blk.allocp | apply Blk.drew | apply Blk.drewN)))) hc4
        obtain ⟨cN4, fN4, lN4, mN4, nN4⟩ := hN4.all5
        have hb4 : Below v3.heap.size v3 v4 := (by repeat (first | with_reducible (first | exact Below.refl _ _ | assumption | apply Below.drew | apply below_drewN) | (with_reducible (first | apply below_setp | apply below_allocp); (first | omega | (simp <;> omega))) | (with_reducible refine below_viap (by assumption) ?_ ?_; (first | omega | (simp <;> omega)))))
        clear hK3 cK3 fK3 lK3 mK3 nK3 hM3 cM3 fM3 lM3 mM3 nM3 hN3 cN3 fN3 lN3 mN3 nN3 HF
        have : ¬ v1.heap.size = v4.heap.size + 1 := by have := lK4; omega
        have : v1.heap.size < v4.heap.size + 1 := by have := lK4; omega
        have : ¬ v1.heap.size = v4.heap.size + 1 + 1 := by have := lK4; omega
        have : v1.heap.size < v4.heap.size + 1 + 1 := by have := lK4; omega
        have : ¬ v1.heap.size + 1 = v4.heap.size + 1 := by have := lM4; omega
        have : v1.heap.size + 1 < v4.heap.size + 1 := by have := lM4; omega
        have : ¬ v1.heap.size + 1 = v4.heap.size + 1 + 1 := by have := lM4; omega
        have : v1.heap.size + 1 < v4.heap.size + 1 + 1 := by have := lM4; omega
        have : ¬ v2.heap.size = v4.heap.size + 1 := by have := lN4; omega
        have : v2.heap.size < v4.heap.size + 1 := by have := lN4; omega
        have : ¬ v2.heap.size = v4.heap.size + 1 + 1 := by have := lN4; omega
        have : v2.heap.size < v4.heap.size + 1 + 1 := by have := lN4; omega
        go_wp2_with fail
        refine (HG.out _).mono ?_
        rintro e v5 ⟨rfl, hc5⟩
        have hz5 := hc5.size
        (try simp at hz5)
        have hK5 : Blk v5 (v1.heap.size) 25 #[.int .i64 k.a, .int .i64 k.b, .int .i64 k.c, .int .i64 k.d, .int .i64 k.e, .int .i64 k.f, .int .i64 k.g, .int .i64 k.h] := Blk.call (by (repeat (first | with_reducible assumption | (with_reducible apply Blk.new_at; (first | rfl | (simp; done))) | with_reducible (first | apply Blk.store3 | apply Blk.store4) | (with_reducible apply Blk.farp; (first | omega | (simp <;> omega))) | with_reducible (first | apply Blk.allocp | apply Blk.drew | apply Blk.drewN)))) hc5
        obtain ⟨cK5, fK5, lK5, mK5, nK5⟩ := hK5.all5
        have hM5 : Blk v5 (v1.heap.size + 1) 27 #[.int .i64 m.p, .int .i64 m.q, .int .i64 m.r, .int .i64 m.s] := Blk.call (by (repeat (first | with_reducible assumption | (with_reducible apply Blk.new_at; (first | rfl | (simp; done))) | with_reducible (first | apply Blk.store3 | apply Blk.store4) | (with_reducible apply Blk.farp; (first | omega | (simp <;> omega))) | with_reducible (first | apply Blk.allocp | apply Blk.drew | apply Blk.drewN)))) hc5
        obtain ⟨cM5, fM5, lM5, mM5, nM5⟩ := hM5.all5
        have hN5 : Blk v5 (v2.heap.size) 25 #[.int .i64 n.a, .int .i64 n.b, .int .i64 n.c, .int .i64 n.d, .int .i64 n.e, .int .i64 n.f, .int .i64 n.g, .int .i64 n.h] := Blk.call (by (repeat (first | with_reducible assumption | (with_reducible apply Blk.new_at; (first | rfl | (simp; done))) | with_reducible (first | apply Blk.store3 | apply Blk.store4) | (with_reducible apply Blk.farp; (first | omega | (simp <;> omega))) | with_reducible (first | apply Blk.allocp | apply Blk.drew | apply Blk.drewN)))) hc5
        obtain ⟨cN5, fN5, lN5, mN5, nN5⟩ := hN5.all5
        have hF5 : Blk v5 (v4.heap.size) 33 #[.int .i64 f1.a, .int .i64 f1.b, .int .i64 f1.c] := Blk.call (by (repeat (first | with_reducible assumption | (with_reducible apply Blk.new_at; (first | rfl | (simp; done))) | with_reducible (first | apply Blk.store3 | apply Blk.store4) | (with_reducible apply Blk.farp; (first | omega | (simp <;> omega))) | with_reducible (first | apply Blk.allocp | apply Blk.drew | apply Blk.drewN)))) hc5
        obtain ⟨cF5, fF5, lF5, mF5, nF5⟩ := hF5.all5
        have hG5 : Blk v5 (v4.heap.size + 1) 33 #[.int .i64 f2.a, .int .i64 f2.b, .int .i64 f2.c] := Blk.call (by (repeat (first | with_reducible assumption | (with_reducible apply Blk.new_at; (first | rfl | (simp; done))) | with_reducible (first | apply Blk.store3 | apply Blk.store4) | (with_reducible apply Blk.farp; (first | omega | (simp <;> omega))) | with_reducible (first | apply Blk.allocp | apply Blk.drew | apply Blk.drewN)))) hc5
        obtain ⟨cG5, fG5, lG5, mG5, nG5⟩ := hG5.all5
        have hH5 : Blk v5 (v4.heap.size + 1 + 1) 33 #[.int .i64 f3.a, .int .i64 f3.b, .int .i64 f3.c] := Blk.call (by (repeat (first | with_reducible assumption | (with_reducible apply Blk.new_at; (first | rfl | (simp; done))) | with_reducible (first | apply Blk.store3 | apply Blk.store4) | (with_reducible apply Blk.farp; (first | omega | (simp <;> omega))) | with_reducible (first | apply Blk.allocp | apply Blk.drew | apply Blk.drewN)))) hc5
        obtain ⟨cH5, fH5, lH5, mH5, nH5⟩ := hH5.all5
        have hb5 : Below v3.heap.size v3 v5 := (by repeat (first | with_reducible (first | exact Below.refl _ _ | assumption | apply Below.drew | apply below_drewN) | (with_reducible (first | apply below_setp | apply below_allocp); (first | omega | (simp <;> omega))) | (with_reducible refine below_viap (by assumption) ?_ ?_; (first | omega | (simp <;> omega)))))
        clear hK4 cK4 fK4 lK4 mK4 nK4 hM4 cM4 fM4 lM4 mM4 nM4 hN4 cN4 fN4 lN4 mN4 nN4 HG
        have : ¬ v1.heap.size = v5.heap.size + 1 := by have := lK5; omega
        have : v1.heap.size < v5.heap.size + 1 := by have := lK5; omega
        have : ¬ v1.heap.size = v5.heap.size + 1 + 1 := by have := lK5; omega
        have : v1.heap.size < v5.heap.size + 1 + 1 := by have := lK5; omega
        have : ¬ v1.heap.size + 1 = v5.heap.size + 1 := by have := lM5; omega
        have : v1.heap.size + 1 < v5.heap.size + 1 := by have := lM5; omega
        have : ¬ v1.heap.size + 1 = v5.heap.size + 1 + 1 := by have := lM5; omega
        have : v1.heap.size + 1 < v5.heap.size + 1 + 1 := by have := lM5; omega
        have : ¬ v2.heap.size = v5.heap.size + 1 := by have := lN5; omega
        have : v2.heap.size < v5.heap.size + 1 := by have := lN5; omega
        have : ¬ v2.heap.size = v5.heap.size + 1 + 1 := by have := lN5; omega
        have : v2.heap.size < v5.heap.size + 1 + 1 := by have := lN5; omega
        have : ¬ v4.heap.size = v5.heap.size + 1 := by have := lF5; omega
        have : v4.heap.size < v5.heap.size + 1 := by have := lF5; omega
        have : ¬ v4.heap.size = v5.heap.size + 1 + 1 := by have := lF5; omega
        have : v4.heap.size < v5.heap.size + 1 + 1 := by have := lF5; omega
        have : ¬ v4.heap.size + 1 = v5.heap.size + 1 := by have := lG5; omega
        have : v4.heap.size + 1 < v5.heap.size + 1 := by have := lG5; omega
        have : ¬ v4.heap.size + 1 = v5.heap.size + 1 + 1 := by have := lG5; omega
        have : v4.heap.size + 1 < v5.heap.size + 1 + 1 := by have := lG5; omega
        have : ¬ v4.heap.size + 1 + 1 = v5.heap.size + 1 := by have := lH5; omega
        have : v4.heap.size + 1 + 1 < v5.heap.size + 1 := by have := lH5; omega
        have : ¬ v4.heap.size + 1 + 1 = v5.heap.size + 1 + 1 := by have := lH5; omega
        have : v4.heap.size + 1 + 1 < v5.heap.size + 1 + 1 := by have := lH5; omega
        go_upto_region 13 with (fail)
        go_cut [20, 21] from 102 to 109 (fun t20 t21 wx => ∃ p q : Nat, t20 = .slice (some ⟨p, 0, none⟩) 3 3 ∧ t21 = .slice (some ⟨q, 0, none⟩) 3 3 ∧ Blk wx p 33 #[.int .i64 f1.a, .int .i64 f1.b, .int .i64 f1.c, .int .i64 f2.a, .int .i64 f2.b, .int .i64 f2.c, .int .i64 f3.a, .int .i64 f3.b, .int .i64 f3.c] ∧ Blk wx q 33 #[.int .i64 a1.a, .int .i64 a1.b, .int .i64 a1.c, .int .i64 a2.a, .int .i64 a2.b, .int .i64 a2.c, .int .i64 a3.a, .int .i64 a3.b, .int .i64 a3.c] ∧ Blk wx v1.heap.size 25 #[.int .i64 k.a, .int .i64 k.b, .int .i64 k.c, .int .i64 k.d, .int .i64 k.e, .int .i64 k.f, .int .i64 k.g, .int .i64 k.h] ∧ Blk wx (v1.heap.size + 1) 27 #[.int .i64 m.p, .int .i64 m.q, .int .i64 m.r, .int .i64 m.s] ∧ Below v3.heap.size v3 wx ∧ v3.heap.size ≤ p ∧ v3.heap.size ≤ q)
        case first =>
          clear HX HT1 HT2 HT3 HC HQ HP3
          go_region
          all_goals
            go_wp2
            go_meet
            exact ⟨_, _, rfl, rfl, by (repeat (first | with_reducible assumption | (with_reducible apply Blk.new_at; (first | rfl | (simp; done))) | with_reducible (first | apply Blk.store3 | apply Blk.store4) | (with_reducible apply Blk.farp; (first | omega | (simp <;> omega))) | with_reducible (first | apply Blk.allocp | apply Blk.drew | apply Blk.drewN))), by (repeat (first | with_reducible assumption | (with_reducible apply Blk.new_at; (first | rfl | (simp; done))) | with_reducible (first | apply Blk.store3 | apply Blk.store4) | (with_reducible apply Blk.farp; (first | omega | (simp <;> omega))) | with_reducible (first | apply Blk.allocp | apply Blk.drew | apply Blk.drewN))), by (repeat (first | with_reducible assumption | (with_reducible apply Blk.new_at; (first | rfl | (simp; done))) | with_reducible (first | apply Blk.store3 | apply Blk.store4) | (with_reducible apply Blk.farp; (first | omega | (simp <;> omega))) | with_reducible (first | apply Blk.allocp | apply Blk.drew | apply Blk.drewN))), by (repeat (first | with_reducible assumption | (with_reducible apply Blk.new_at; (first | rfl | (simp; done))) | with_reducible (first | apply Blk.store3 | apply Blk.store4) | (with_reducible apply Blk.farp; (first | omega | (simp <;> omega))) | with_reducible (first | apply Blk.allocp | apply Blk.drew | apply Blk.drewN))), (by repeat (first | with_reducible (first | exact Below.refl _ _ | assumption | apply Below.drew | apply below_drewN) | (with_reducible (first | apply below_setp | apply below_allocp); (first | omega | (simp <;> omega))) | (with_reducible refine below_viap (by assumption) ?_ ?_; (first | omega | (simp <;> omega))))), by first | omega | (simp <;> omega), by first | omega | (simp <;> omega)⟩
        case rest =>
          obtain ⟨p, q, rfl, rfl, hS, hU, hK, hM, hbc, hp, hq⟩ := hcut
          clear hK5 cK5 fK5 lK5 mK5 nK5 hM5 cM5 fM5 lM5 mM5 nM5 hN5 cN5 fN5 lN5 mN5 nN5 hF5 cF5 fF5 lF5 mF5 nF5 hG5 cG5 fG5 lG5 mG5 nG5 hH5 cH5 fH5 lH5 mH5 nH5 hb4 hb5
          go_wp2
          go_loopw [112] (fun v112 wr => ∃ j : Nat, v112 = .int .i64 j ∧ j ≤ 3 ∧ Blk wr p 33 #[.int .i64 f1.a, .int .i64 f1.b, .int .i64 f1.c, .int .i64 f2.a, .int .i64 f2.b, .int .i64 f2.c, .int .i64 f3.a, .int .i64 f3.b, .int .i64 f3.c] ∧ Blk wr q 33 #[.int .i64 a1.a, .int .i64 a1.b, .int .i64 a1.c, .int .i64 a2.a, .int .i64 a2.b, .int .i64 a2.c, .int .i64 a3.a, .int .i64 a3.b, .int .i64 a3.c] ∧ Blk wr v1.heap.size 25 #[.int .i64 k.a, .int .i64 k.b, .int .i64 k.c, .int .i64 k.d, .int .i64 k.e, .int .i64 k.f, .int .i64 k.g, .int .i64 k.h] ∧ Blk wr (v1.heap.size + 1) 27 #[.int .i64 m.p, .int .i64 m.q, .int .i64 m.r, .int .i64 m.s] ∧ Below v3.heap.size v3 wr) (fun v112 _ => 3 - (intOf v112).toNat)
          case atStart => exact ⟨0, rfl, by omega, by (repeat (first | with_reducible assumption | (with_reducible apply Blk.new_at; (first | rfl | (simp; done))) | with_reducible (first | apply Blk.store3 | apply Blk.store4) | (with_reducible apply Blk.farp; (first | omega | (simp <;> omega))) | with_reducible (first | apply Blk.allocp | apply Blk.drew | apply Blk.drewN))), by (repeat (first | with_reducible assumption | (with_reducible apply Blk.new_at; (first | rfl | (simp; done))) | with_reducible (first | apply Blk.store3 | apply Blk.store4) | (with_reducible apply Blk.farp; (first | omega | (simp <;> omega))) | with_reducible (first | apply Blk.allocp | apply Blk.drew | apply Blk.drewN))), by (repeat (first | with_reducible assumption | (with_reducible apply Blk.new_at; (first | rfl | (simp; done))) | with_reducible (first | apply Blk.store3 | apply Blk.store4) | (with_reducible apply Blk.farp; (first | omega | (simp <;> omega))) | with_reducible (first | apply Blk.allocp | apply Blk.drew | apply Blk.drewN))), by (repeat (first | with_reducible assumption | (with_reducible apply Blk.new_at; (first | rfl | (simp; done))) | with_reducible (first | apply Blk.store3 | apply Blk.store4) | (with_reducible apply Blk.farp; (first | omega | (simp <;> omega))) | with_reducible (first | apply Blk.allocp | apply Blk.drew | apply Blk.drewN))), (by repeat (first | with_reducible (first | exact Below.refl _ _ | assumption | apply Below.drew | apply below_drewN) | (with_reducible (first | apply below_setp | apply below_allocp); (first | omega | (simp <;> omega))) | (with_reducible refine below_viap (by assumption) ?_ ?_; (first | omega | (simp <;> omega)))))⟩
          case round =>
            clear hS hU hK hM hbc
            obtain ⟨v6, rfl⟩ : ∃ v6 : World, v6 = wr := ⟨_, rfl⟩
            obtain ⟨j, rfl, hj, hS6, hU6, hK6, hM6, hb6⟩ := hrel
            obtain ⟨cS6, fS6, lS6, mS6, nS6⟩ := hS6.all5
            obtain ⟨cU6, fU6, lU6, mU6, nU6⟩ := hU6.all5
            obtain ⟨cK6, fK6, lK6, mK6, nK6⟩ := hK6.all5
            obtain ⟨cM6, fM6, lM6, mM6, nM6⟩ := hM6.all5
            have hz6 := hb6.size
            rcases (show j = 0 ∨ j = 1 ∨ j = 2 ∨ j = 3 by omega) with rfl | rfl | rfl | rfl
            · clear HT1 HT2 HT3 HC HQ HP3
              rcases HX.out with ⟨rfl, hS, rfl, rfl⟩ | ⟨rfl, hS, rfl, rfl⟩ | ⟨rfl, hS, rfl, rfl⟩
              · clear HX
                unfold SubC at hS
                have HS1 := Lib.hid hS
                clear hS
                go_wp2_with (go_at_call 9; (with_reducible refine (HS1.out _).mono ?_); rintro e v7 ⟨rfl, hc7⟩; have hz7 := hc7.size; (try simp at hz7); have hb7 : Below v3.heap.size v3 v7 := ((by repeat (first | with_reducible (first | exact Below.refl _ _ | assumption | apply Below.drew | apply below_drewN) | (with_reducible (first | apply below_setp | apply below_allocp); (first | omega | (simp <;> omega))) | (with_reducible refine below_viap (by assumption) ?_ ?_; (first | omega | (simp <;> omega)))))); have hS7 : Blk v7 (p) 33 #[.int .i64 f1.a, .int .i64 f1.b, .int .i64 f1.c, .int .i64 a2.a, .int .i64 a2.b, .int .i64 a2.c, .int .i64 a3.a, .int .i64 a3.b, .int .i64 a3.c] := Blk.call (by (repeat (first | with_reducible assumption | (with_reducible apply Blk.new_at; (first | rfl | (simp; done))) | with_reducible (first | apply Blk.store3 | apply Blk.store4) | (with_reducible apply Blk.farp; (first | omega | (simp <;> omega))) | with_reducible (first | apply Blk.allocp | apply Blk.drew | apply Blk.drewN)))) hc7; obtain ⟨cS7, fS7, lS7, mS7, nS7⟩ := hS7.all5; have hU7 : Blk v7 (q) 33 #[.int .i64 a1.a, .int .i64 a1.b, .int .i64 a1.c, .int .i64 a2.a, .int .i64 a2.b, .int .i64 a2.c, .int .i64 a3.a, .int .i64 a3.b, .int .i64 a3.c] := Blk.call (by (repeat (first | with_reducible assumption | (with_reducible apply Blk.new_at; (first | rfl | (simp; done))) | with_reducible (first | apply Blk.store3 | apply Blk.store4) | (with_reducible apply Blk.farp; (first | omega | (simp <;> omega))) | with_reducible (first | apply Blk.allocp | apply Blk.drew | apply Blk.drewN)))) hc7; obtain ⟨cU7, fU7, lU7, mU7, nU7⟩ := hU7.all5; have hK7 : Blk v7 (v1.heap.size) 25 #[.int .i64 k.a, .int .i64 k.b, .int .i64 k.c, .int .i64 k.d, .int .i64 k.e, .int .i64 k.f, .int .i64 k.g, .int .i64 k.h] := Blk.call (by (repeat (first | with_reducible assumption | (with_reducible apply Blk.new_at; (first | rfl | (simp; done))) | with_reducible (first | apply Blk.store3 | apply Blk.store4) | (with_reducible apply Blk.farp; (first | omega | (simp <;> omega))) | with_reducible (first | apply Blk.allocp | apply Blk.drew | apply Blk.drewN)))) hc7; obtain ⟨cK7, fK7, lK7, mK7, nK7⟩ := hK7.all5; have hM7 : Blk v7 (v1.heap.size + 1) 27 #[.int .i64 m.p, .int .i64 m.q, .int .i64 m.r, .int .i64 m.s] := Blk.call (by (repeat (first | with_reducible assumption | (with_reducible apply Blk.new_at; (first | rfl | (simp; done))) | with_reducible (first | apply Blk.store3 | apply Blk.store4) | (with_reducible apply Blk.farp; (first | omega | (simp <;> omega))) | with_reducible (first | apply Blk.allocp | apply Blk.drew | apply Blk.drewN)))) hc7; obtain ⟨cM7, fM7, lM7, mM7, nM7⟩ := hM7.all5; have hX7 : Blk v7 (v6.heap.size) 33 #[.int .i64 f1.a, .int .i64 f1.b, .int .i64 f1.c] := Blk.call (by (repeat (first | with_reducible assumption | (with_reducible apply Blk.new_at; (first | rfl | (simp; done))) | with_reducible (first | apply Blk.store3 | apply Blk.store4) | (with_reducible apply Blk.farp; (first | omega | (simp <;> omega))) | with_reducible (first | apply Blk.allocp | apply Blk.drew | apply Blk.drewN)))) hc7; obtain ⟨cX7, fX7, lX7, mX7, nX7⟩ := hX7.all5)
                go_region
                all_goals
                  go_wp2
                  go_roundw
                  case rel => exact ⟨1, by rfl, by omega, by (repeat (first | with_reducible assumption | (with_reducible apply Blk.new_at; (first | rfl | (simp; done))) | with_reducible (first | apply Blk.store3 | apply Blk.store4) | (with_reducible apply Blk.farp; (first | omega | (simp <;> omega))) | with_reducible (first | apply Blk.allocp | apply Blk.drew | apply Blk.drewN))), by (repeat (first | with_reducible assumption | (with_reducible apply Blk.new_at; (first | rfl | (simp; done))) | with_reducible (first | apply Blk.store3 | apply Blk.store4) | (with_reducible apply Blk.farp; (first | omega | (simp <;> omega))) | with_reducible (first | apply Blk.allocp | apply Blk.drew | apply Blk.drewN))), by (repeat (first | with_reducible assumption | (with_reducible apply Blk.new_at; (first | rfl | (simp; done))) | with_reducible (first | apply Blk.store3 | apply Blk.store4) | (with_reducible apply Blk.farp; (first | omega | (simp <;> omega))) | with_reducible (first | apply Blk.allocp | apply Blk.drew | apply Blk.drewN))), by (repeat (first | with_reducible assumption | (with_reducible apply Blk.new_at; (first | rfl | (simp; done))) | with_reducible (first | apply Blk.store3 | apply Blk.store4) | (with_reducible apply Blk.farp; (first | omega | (simp <;> omega))) | with_reducible (first | apply Blk.allocp | apply Blk.drew | apply Blk.drewN))), (by repeat (first | with_reducible (first | exact Below.refl _ _ | assumption | apply Below.drew | apply below_drewN) | (with_reducible (first | apply below_setp | apply below_allocp); (first | omega | (simp <;> omega))) | (with_reducible refine below_viap (by assumption) ?_ ?_; (first | omega | (simp <;> omega)))))⟩
                  case measure => (first | (simp [intOf]; done) | (simp [intOf]; omega) | decide)
              · clear HX
                clear hS
                go_wp2
                go_region
                all_goals
                  go_wp2
                  go_roundw
                  case rel => exact ⟨1, by rfl, by omega, by (repeat (first | with_reducible assumption | (with_reducible apply Blk.new_at; (first | rfl | (simp; done))) | with_reducible (first | apply Blk.store3 | apply Blk.store4) | (with_reducible apply Blk.farp; (first | omega | (simp <;> omega))) | with_reducible (first | apply Blk.allocp | apply Blk.drew | apply Blk.drewN))), by (repeat (first | with_reducible assumption | (with_reducible apply Blk.new_at; (first | rfl | (simp; done))) | with_reducible (first | apply Blk.store3 | apply Blk.store4) | (with_reducible apply Blk.farp; (first | omega | (simp <;> omega))) | with_reducible (first | apply Blk.allocp | apply Blk.drew | apply Blk.drewN))), by (repeat (first | with_reducible assumption | (with_reducible apply Blk.new_at; (first | rfl | (simp; done))) | with_reducible (first | apply Blk.store3 | apply Blk.store4) | (with_reducible apply Blk.farp; (first | omega | (simp <;> omega))) | with_reducible (first | apply Blk.allocp | apply Blk.drew | apply Blk.drewN))), by (repeat (first | with_reducible assumption | (with_reducible apply Blk.new_at; (first | rfl | (simp; done))) | with_reducible (first | apply Blk.store3 | apply Blk.store4) | (with_reducible apply Blk.farp; (first | omega | (simp <;> omega))) | with_reducible (first | apply Blk.allocp | apply Blk.drew | apply Blk.drewN))), (by repeat (first | with_reducible (first | exact Below.refl _ _ | assumption | apply Below.drew | apply below_drewN) | (with_reducible (first | apply below_setp | apply below_allocp); (first | omega | (simp <;> omega))) | (with_reducible refine below_viap (by assumption) ?_ ?_; (first | omega | (simp <;> omega)))))⟩
                  case measure => (first | (simp [intOf]; done) | (simp [intOf]; omega) | decide)
              · clear HX
                clear hS
                go_wp2
                go_region
                all_goals
                  go_wp2
                  go_roundw
                  case rel => exact ⟨1, by rfl, by omega, by (repeat (first | with_reducible assumption | (with_reducible apply Blk.new_at; (first | rfl | (simp; done))) | with_reducible (first | apply Blk.store3 | apply Blk.store4) | (with_reducible apply Blk.farp; (first | omega | (simp <;> omega))) | with_reducible (first | apply Blk.allocp | apply Blk.drew | apply Blk.drewN))), by (repeat (first | with_reducible assumption | (with_reducible apply Blk.new_at; (first | rfl | (simp; done))) | with_reducible (first | apply Blk.store3 | apply Blk.store4) | (with_reducible apply Blk.farp; (first | omega | (simp <;> omega))) | with_reducible (first | apply Blk.allocp | apply Blk.drew | apply Blk.drewN))), by (repeat (first | with_reducible assumption | (with_reducible apply Blk.new_at; (first | rfl | (simp; done))) | with_reducible (first | apply Blk.store3 | apply Blk.store4) | (with_reducible apply Blk.farp; (first | omega | (simp <;> omega))) | with_reducible (first | apply Blk.allocp | apply Blk.drew | apply Blk.drewN))), by (repeat (first | with_reducible assumption | (with_reducible apply Blk.new_at; (first | rfl | (simp; done))) | with_reducible (first | apply Blk.store3 | apply Blk.store4) | (with_reducible apply Blk.farp; (first | omega | (simp <;> omega))) | with_reducible (first | apply Blk.allocp | apply Blk.drew | apply Blk.drewN))), (by repeat (first | with_reducible (first | exact Below.refl _ _ | assumption | apply Below.drew | apply below_drewN) | (with_reducible (first | apply below_setp | apply below_allocp); (first | omega | (simp <;> omega))) | (with_reducible refine below_viap (by assumption) ?_ ?_; (first | omega | (simp <;> omega)))))⟩
                  case measure => (first | (simp [intOf]; done) | (simp [intOf]; omega) | decide)
            · clear HT1 HT2 HT3 HC HQ HP3
              rcases HX.out with ⟨rfl, hS, rfl, rfl⟩ | ⟨rfl, hS, rfl, rfl⟩ | ⟨rfl, hS, rfl, rfl⟩
              · clear HX
                clear hS
                go_wp2
                go_region
                all_goals
                  go_wp2
                  go_roundw
                  case rel => exact ⟨2, by rfl, by omega, by (repeat (first | with_reducible assumption | (with_reducible apply Blk.new_at; (first | rfl | (simp; done))) | with_reducible (first | apply Blk.store3 | apply Blk.store4) | (with_reducible apply Blk.farp; (first | omega | (simp <;> omega))) | with_reducible (first | apply Blk.allocp | apply Blk.drew | apply Blk.drewN))), by (repeat (first | with_reducible assumption | (with_reducible apply Blk.new_at; (first | rfl | (simp; done))) | with_reducible (first | apply Blk.store3 | apply Blk.store4) | (with_reducible apply Blk.farp; (first | omega | (simp <;> omega))) | with_reducible (first | apply Blk.allocp | apply Blk.drew | apply Blk.drewN))), by (repeat (first | with_reducible assumption | (with_reducible apply Blk.new_at; (first | rfl | (simp; done))) | with_reducible (first | apply Blk.store3 | apply Blk.store4) | (with_reducible apply Blk.farp; (first | omega | (simp <;> omega))) | with_reducible (first | apply Blk.allocp | apply Blk.drew | apply Blk.drewN))), by (repeat (first | with_reducible assumption | (with_reducible apply Blk.new_at; (first | rfl | (simp; done))) | with_reducible (first | apply Blk.store3 | apply Blk.store4) | (with_reducible apply Blk.farp; (first | omega | (simp <;> omega))) | with_reducible (first | apply Blk.allocp | apply Blk.drew | apply Blk.drewN))), (by repeat (first | with_reducible (first | exact Below.refl _ _ | assumption | apply Below.drew | apply below_drewN) | (with_reducible (first | apply below_setp | apply below_allocp); (first | omega | (simp <;> omega))) | (with_reducible refine below_viap (by assumption) ?_ ?_; (first | omega | (simp <;> omega)))))⟩
                  case measure => (first | (simp [intOf]; done) | (simp [intOf]; omega) | decide)
              · clear HX
                unfold SubC at hS
                have HS1 := Lib.hid hS
                clear hS
                go_wp2_with (go_at_call 9; (with_reducible refine (HS1.out _).mono ?_); rintro e v7 ⟨rfl, hc7⟩; have hz7 := hc7.size; (try simp at hz7); have hb7 : Below v3.heap.size v3 v7 := ((by repeat (first | with_reducible (first | exact Below.refl _ _ | assumption | apply Below.drew | apply below_drewN) | (with_reducible (first | apply below_setp | apply below_allocp); (first | omega | (simp <;> omega))) | (with_reducible refine below_viap (by assumption) ?_ ?_; (first | omega | (simp <;> omega)))))); have hS7 : Blk v7 (p) 33 #[.int .i64 a1.a, .int .i64 a1.b, .int .i64 a1.c, .int .i64 f2.a, .int .i64 f2.b, .int .i64 f2.c, .int .i64 a3.a, .int .i64 a3.b, .int .i64 a3.c] := Blk.call (by (repeat (first | with_reducible assumption | (with_reducible apply Blk.new_at; (first | rfl | (simp; done))) | with_reducible (first | apply Blk.store3 | apply Blk.store4) | (with_reducible apply Blk.farp; (first | omega | (simp <;> omega))) | with_reducible (first | apply Blk.allocp | apply Blk.drew | apply Blk.drewN)))) hc7; obtain ⟨cS7, fS7, lS7, mS7, nS7⟩ := hS7.all5; have hU7 : Blk v7 (q) 33 #[.int .i64 a1.a, .int .i64 a1.b, .int .i64 a1.c, .int .i64 a2.a, .int .i64 a2.b, .int .i64 a2.c, .int .i64 a3.a, .int .i64 a3.b, .int .i64 a3.c] := Blk.call (by (repeat (first | with_reducible assumption | (with_reducible apply Blk.new_at; (first | rfl | (simp; done))) | with_reducible (first | apply Blk.store3 | apply Blk.store4) | (with_reducible apply Blk.farp; (first | omega | (simp <;> omega))) | with_reducible (first | apply Blk.allocp | apply Blk.drew | apply Blk.drewN)))) hc7; obtain ⟨cU7, fU7, lU7, mU7, nU7⟩ := hU7.all5; have hK7 : Blk v7 (v1.heap.size) 25 #[.int .i64 k.a, .int .i64 k.b, .int .i64 k.c, .int .i64 k.d, .int .i64 k.e, .int .i64 k.f, .int .i64 k.g, .int .i64 k.h] := Blk.call (by (repeat (first | with_reducible assumption | (with_reducible apply Blk.new_at; (first | rfl | (simp; done))) | with_reducible (first | apply Blk.store3 | apply Blk.store4) | (with_reducible apply Blk.farp; (first | omega | (simp <;> omega))) | with_reducible (first | apply Blk.allocp | apply Blk.drew | apply Blk.drewN)))) hc7; obtain ⟨cK7, fK7, lK7, mK7, nK7⟩ := hK7.all5; have hM7 : Blk v7 (v1.heap.size + 1) 27 #[.int .i64 m.p, .int .i64 m.q, .int .i64 m.r, .int .i64 m.s] := Blk.call (by (repeat (first | with_reducible assumption | (with_reducible apply Blk.new_at; (first | rfl | (simp; done))) | with_reducible (first | apply Blk.store3 | apply Blk.store4) | (with_reducible apply Blk.farp; (first | omega | (simp <;> omega))) | with_reducible (first | apply Blk.allocp | apply Blk.drew | apply Blk.drewN)))) hc7; obtain ⟨cM7, fM7, lM7, mM7, nM7⟩ := hM7.all5; have hX7 : Blk v7 (v6.heap.size) 33 #[.int .i64 f2.a, .int .i64 f2.b, .int .i64 f2.c] := Blk.call (by (repeat (first | with_reducible assumption | (with_reducible apply Blk.new_at; (first | rfl | (simp; done))) | with_reducible (first | apply Blk.store3 | apply Blk.store4) | (with_reducible apply Blk.farp; (first | omega | (simp <;> omega))) | with_reducible (first | apply Blk.allocp | apply Blk.drew | apply Blk.drewN)))) hc7; obtain ⟨cX7, fX7, lX7, mX7, nX7⟩ := hX7.all5)
                go_region
                all_goals
                  go_wp2
                  go_roundw
                  case rel => exact ⟨2, by rfl, by omega, by (repeat (first | with_reducible assumption | (with_reducible apply Blk.new_at; (first | rfl | (simp; done))) | with_reducible (first | apply Blk.store3 | apply Blk.store4) | (with_reducible apply Blk.farp; (first | omega | (simp <;> omega))) | with_reducible (first | apply Blk.allocp | apply Blk.drew | apply Blk.drewN))), by (repeat (first | with_reducible assumption | (with_reducible apply Blk.new_at; (first | rfl | (simp; done))) | with_reducible (first | apply Blk.store3 | apply Blk.store4) | (with_reducible apply Blk.farp; (first | omega | (simp <;> omega))) | with_reducible (first | apply Blk.allocp | apply Blk.drew | apply Blk.drewN))), by (repeat (first | with_reducible assumption | (with_reducible apply Blk.new_at; (first | rfl | (simp; done))) | with_reducible (first | apply Blk.store3 | apply Blk.store4) | (with_reducible apply Blk.farp; (first | omega | (simp <;> omega))) | with_reducible (first | apply Blk.allocp | apply Blk.drew | apply Blk.drewN))), by (repeat (first | with_reducible assumption | (with_reducible apply Blk.new_at; (first | rfl | (simp; done))) | with_reducible (first | apply Blk.store3 | apply Blk.store4) | (with_reducible apply Blk.farp; (first | omega | (simp <;> omega))) | with_reducible (first | apply Blk.allocp | apply Blk.drew | apply Blk.drewN))), (by repeat (first | with_reducible (first | exact Below.refl _ _ | assumption | apply Below.drew | apply below_drewN) | (with_reducible (first | apply below_setp | apply below_allocp); (first | omega | (simp <;> omega))) | (with_reducible refine below_viap (by assumption) ?_ ?_; (first | omega | (simp <;> omega)))))⟩
                  case measure => (first | (simp [intOf]; done) | (simp [intOf]; omega) | decide)
              · clear HX
                clear hS
                go_wp2
                go_region
                all_goals
                  go_wp2
                  go_roundw
                  case rel => exact ⟨2, by rfl, by omega, by (repeat (first | with_reducible assumption | (with_reducible apply Blk.new_at; (first | rfl | (simp; done))) | with_reducible (first | apply Blk.store3 | apply Blk.store4) | (with_reducible apply Blk.farp; (first | omega | (simp <;> omega))) | with_reducible (first | apply Blk.allocp | apply Blk.drew | apply Blk.drewN))), by (repeat (first | with_reducible assumption | (with_reducible apply Blk.new_at; (first | rfl | (simp; done))) | with_reducible (first | apply Blk.store3 | apply Blk.store4) | (with_reducible apply Blk.farp; (first | omega | (simp <;> omega))) | with_reducible (first | apply Blk.allocp | apply Blk.drew | apply Blk.drewN))), by (repeat (first | with_reducible assumption | (with_reducible apply Blk.new_at; (first | rfl | (simp; done))) | with_reducible (first | apply Blk.store3 | apply Blk.store4) | (with_reducible apply Blk.farp; (first | omega | (simp <;> omega))) | with_reducible (first | apply Blk.allocp | apply Blk.drew | apply Blk.drewN))), by (repeat (first | with_reducible assumption | (with_reducible apply Blk.new_at; (first | rfl | (simp; done))) | with_reducible (first | apply Blk.store3 | apply Blk.store4) | (with_reducible apply Blk.farp; (first | omega | (simp <;> omega))) | with_reducible (first | apply Blk.allocp | apply Blk.drew | apply Blk.drewN))), (by repeat (first | with_reducible (first | exact Below.refl _ _ | assumption | apply Below.drew | apply below_drewN) | (with_reducible (first | apply below_setp | apply below_allocp); (first | omega | (simp <;> omega))) | (with_reducible refine below_viap (by assumption) ?_ ?_; (first | omega | (simp <;> omega)))))⟩
                  case measure => (first | (simp [intOf]; done) | (simp [intOf]; omega) | decide)
            · clear HT1 HT2 HT3 HC HQ HP3
              rcases HX.out with ⟨rfl, hS, rfl, rfl⟩ | ⟨rfl, hS, rfl, rfl⟩ | ⟨rfl, hS, rfl, rfl⟩
              · clear HX
                clear hS
                go_wp2
                go_region
                all_goals
                  go_wp2
                  go_roundw
                  case rel => exact ⟨3, by rfl, by omega, by (repeat (first | with_reducible assumption | (with_reducible apply Blk.new_at; (first | rfl | (simp; done))) | with_reducible (first | apply Blk.store3 | apply Blk.store4) | (with_reducible apply Blk.farp; (first | omega | (simp <;> omega))) | with_reducible (first | apply Blk.allocp | apply Blk.drew | apply Blk.drewN))), by (repeat (first | with_reducible assumption | (with_reducible apply Blk.new_at; (first | rfl | (simp; done))) | with_reducible (first | apply Blk.store3 | apply Blk.store4) | (with_reducible apply Blk.farp; (first | omega | (simp <;> omega))) | with_reducible (first | apply Blk.allocp | apply Blk.drew | apply Blk.drewN))), by (repeat (first | with_reducible assumption | (with_reducible apply Blk.new_at; (first | rfl | (simp; done))) | with_reducible (first | apply Blk.store3 | apply Blk.store4) | (with_reducible apply Blk.farp; (first | omega | (simp <;> omega))) | with_reducible (first | apply Blk.allocp | apply Blk.drew | apply Blk.drewN))), by (repeat (first | with_reducible assumption | (with_reducible apply Blk.new_at; (first | rfl | (simp; done))) | with_reducible (first | apply Blk.store3 | apply Blk.store4) | (with_reducible apply Blk.farp; (first | omega | (simp <;> omega))) | with_reducible (first | apply Blk.allocp | apply Blk.drew | apply Blk.drewN))), (by repeat (first | with_reducible (first | exact Below.refl _ _ | assumption | apply Below.drew | apply below_drewN) | (with_reducible (first | apply below_setp | apply below_allocp); (first | omega | (simp <;> omega))) | (with_reducible refine below_viap (by assumption) ?_ ?_; (first | omega | (simp <;> omega)))))⟩
                  case measure => (first | (simp [intOf]; done) | (simp [intOf]; omega) | decide)
              · clear HX
                clear hS
                go_wp2
                go_region
                all_goals
                  go_wp2
                  go_roundw
                  case rel => exact ⟨3, by rfl, by omega, by (repeat (first | with_reducible assumption | (with_reducible apply Blk.new_at; (first | rfl | (simp; done))) | with_reducible (first | apply Blk.store3 | apply Blk.store4) | (with_reducible apply Blk.farp; (first | omega | (simp <;> omega))) | with_reducible (first | apply Blk.allocp | apply Blk.drew | apply Blk.drewN))), by (repeat (first | with_reducible assumption | (with_reducible apply Blk.new_at; (first | rfl | (simp; done))) | with_reducible (first | apply Blk.store3 | apply Blk.store4) | (with_reducible apply Blk.farp; (first | omega | (simp <;> omega))) | with_reducible (first | apply Blk.allocp | apply Blk.drew | apply Blk.drewN))), by (repeat (first | with_reducible assumption | (with_reducible apply Blk.new_at; (first | rfl | (simp; done))) | with_reducible (first | apply Blk.store3 | apply Blk.store4) | (with_reducible apply Blk.farp; (first | omega | (simp <;> omega))) | with_reducible (first | apply Blk.allocp | apply Blk.drew | apply Blk.drewN))), by (repeat (first | with_reducible assumption | (with_reducible apply Blk.new_at; (first | rfl | (simp; done))) | with_reducible (first | apply Blk.store3 | apply Blk.store4) | (with_reducible apply Blk.farp; (first | omega | (simp <;> omega))) | with_reducible (first | apply Blk.allocp | apply Blk.drew | apply Blk.drewN))), (by repeat (first | with_reducible (first | exact Below.refl _ _ | assumption | apply Below.drew | apply below_drewN) | (with_reducible (first | apply below_setp | apply below_allocp); (first | omega | (simp <;> omega))) | (with_reducible refine below_viap (by assumption) ?_ ?_; (first | omega | (simp <;> omega)))))⟩
                  case measure => (first | (simp [intOf]; done) | (simp [intOf]; omega) | decide)
              · clear HX
                unfold SubC at hS
                have HS1 := Lib.hid hS
                clear hS
                go_wp2_with (go_at_call 9; (with_reducible refine (HS1.out _).mono ?_); rintro e v7 ⟨rfl, hc7⟩; have hz7 := hc7.size; (try simp at hz7); have hb7 : Below v3.heap.size v3 v7 := ((by repeat (first | with_reducible (first | exact Below.refl _ _ | assumption | apply Below.drew | apply below_drewN) | (with_reducible (first | apply below_setp | apply below_allocp); (first | omega | (simp <;> omega))) | (with_reducible refine below_viap (by assumption) ?_ ?_; (first | omega | (simp <;> omega)))))); have hS7 : Blk v7 (p) 33 #[.int .i64 a1.a, .int .i64 a1.b, .int .i64 a1.c, .int .i64 a2.a, .int .i64 a2.b, .int .i64 a2.c, .int .i64 f3.a, .int .i64 f3.b, .int .i64 f3.c] := Blk.call (by (repeat (first | with_reducible assumption | (with_reducible apply Blk.new_at; (first | rfl | (simp; done))) | with_reducible (first | apply Blk.store3 | apply Blk.store4) | (with_reducible apply Blk.farp; (first | omega | (simp <;> omega))) | with_reducible (first | apply Blk.allocp | apply Blk.drew | apply Blk.drewN)))) hc7; obtain ⟨cS7, fS7, lS7, mS7, nS7⟩ := hS7.all5; have hU7 : Blk v7 (q) 33 #[.int .i64 a1.a, .int .i64 a1.b, .int .i64 a1.c, .int .i64 a2.a, .int .i64 a2.b, .int .i64 a2.c, .int .i64 a3.a, .int .i64 a3.b, .int .i64 a3.c] := Blk.call (by (repeat (first | with_reducible assumption | (with_reducible apply Blk.new_at; (first | rfl | (simp; done))) | with_reducible (first | apply Blk.store3 | apply Blk.store4) | (with_reducible apply Blk.farp; (first | omega | (simp <;> omega))) | with_reducible (first | apply Blk.allocp | apply Blk.drew | apply Blk.drewN)))) hc7; obtain ⟨cU7, fU7, lU7, mU7, nU7⟩ := hU7.all5; have hK7 : Blk v7 (v1.heap.size) 25 #[.int .i64 k.a, .int .i64 k.b, .int .i64 k.c, .int .i64 k.d, .int .i64 k.e, .int .i64 k.f, .int .i64 k.g, .int .i64 k.h] := Blk.call (by (repeat (first | with_reducible assumption | (with_reducible apply Blk.new_at; (first | rfl | (simp; done))) | with_reducible (first | apply Blk.store3 | apply Blk.store4) | (with_reducible apply Blk.farp; (first | omega | (simp <;> omega))) | with_reducible (first | apply Blk.allocp | apply Blk.drew | apply Blk.drewN)))) hc7; obtain ⟨cK7, fK7, lK7, mK7, nK7⟩ := hK7.all5; have hM7 : Blk v7 (v1.heap.size + 1) 27 #[.int .i64 m.p, .int .i64 m.q, .int .i64 m.r, .int .i64 m.s] := Blk.call (by (repeat (first | with_reducible assumption | (with_reducible apply Blk.new_at; (first | rfl | (simp; done))) | with_reducible (first | apply Blk.store3 | apply Blk.store4) | (with_reducible apply Blk.farp; (first | omega | (simp <;> omega))) | with_reducible (first | apply Blk.allocp | apply Blk.drew | apply Blk.drewN)))) hc7; obtain ⟨cM7, fM7, lM7, mM7, nM7⟩ := hM7.all5; have hX7 : Blk v7 (v6.heap.size) 33 #[.int .i64 f3.a, .int .i64 f3.b, .int .i64 f3.c] := Blk.call (by (repeat (first | with_reducible assumption | (with_reducible apply Blk.new_at; (first | rfl | (simp; done))) | with_reducible (first | apply Blk.store3 | apply Blk.store4) | (with_reducible apply Blk.farp; (first | omega | (simp <;> omega))) | with_reducible (first | apply Blk.allocp | apply Blk.drew | apply Blk.drewN)))) hc7; obtain ⟨cX7, fX7, lX7, mX7, nX7⟩ := hX7.all5)
                go_region
                all_goals
                  go_wp2
                  go_roundw
                  case rel => exact ⟨3, by rfl, by omega, by (repeat (first | with_reducible assumption | (with_reducible apply Blk.new_at; (first | rfl | (simp; done))) | with_reducible (first | apply Blk.store3 | apply Blk.store4) | (with_reducible apply Blk.farp; (first | omega | (simp <;> omega))) | with_reducible (first | apply Blk.allocp | apply Blk.drew | apply Blk.drewN))), by (repeat (first | with_reducible assumption | (with_reducible apply Blk.new_at; (first | rfl | (simp; done))) | with_reducible (first | apply Blk.store3 | apply Blk.store4) | (with_reducible apply Blk.farp; (first | omega | (simp <;> omega))) | with_reducible (first | apply Blk.allocp | apply Blk.drew | apply Blk.drewN))), by (repeat (first | with_reducible assumption | (with_reducible apply Blk.new_at; (first | rfl | (simp; done))) | with_reducible (first | apply Blk.store3 | apply Blk.store4) | (with_reducible apply Blk.farp; (first | omega | (simp <;> omega))) | with_reducible (first | apply Blk.allocp | apply Blk.drew | apply Blk.drewN))), by (repeat (first | with_reducible assumption | (with_reducible apply Blk.new_at; (first | rfl | (simp; done))) | with_reducible (first | apply Blk.store3 | apply Blk.store4) | (with_reducible apply Blk.farp; (first | omega | (simp <;> omega))) | with_reducible (first | apply Blk.allocp | apply Blk.drew | apply Blk.drewN))), (by repeat (first | with_reducible (first | exact Below.refl _ _ | assumption | apply Below.drew | apply below_drewN) | (with_reducible (first | apply below_setp | apply below_allocp); (first | omega | (simp <;> omega))) | (with_reducible refine below_viap (by assumption) ?_ ?_; (first | omega | (simp <;> omega)))))⟩
                  case measure => (first | (simp [intOf]; done) | (simp [intOf]; omega) | decide)
            · clear HX hS6 cS6 fS6 lS6 mS6 nS6 hU6 cU6 fU6 lU6 mU6 nU6
              go_wp2_with fail
              refine (HT1.out _).mono ?_
              rintro e v7 ⟨rfl, hc7⟩
              have hz7 := hc7.size
              (try simp at hz7)
              have hK7 : Blk v7 (v1.heap.size) 25 #[.int .i64 k.a, .int .i64 k.b, .int .i64 k.c, .int .i64 k.d, .int .i64 k.e, .int .i64 k.f, .int .i64 k.g, .int .i64 k.h] := Blk.call (by (repeat (first | with_reducible assumption | (with_reducible apply Blk.new_at; (first | rfl | (simp; done))) | with_reducible (first | apply Blk.store3 | apply Blk.store4) | (with_reducible apply Blk.farp; (first | omega | (simp <;> omega))) | with_reducible (first | apply Blk.allocp | apply Blk.drew | apply Blk.drewN)))) hc7
              obtain ⟨cK7, fK7, lK7, mK7, nK7⟩ := hK7.all5
              have hb7 : Below v3.heap.size v3 v7 := (by repeat (first | with_reducible (first | exact Below.refl _ _ | assumption | apply Below.drew | apply below_drewN) | (with_reducible (first | apply below_setp | apply below_allocp); (first | omega | (simp <;> omega))) | (with_reducible refine below_viap (by assumption) ?_ ?_; (first | omega | (simp <;> omega)))))
              clear hK6 cK6 fK6 lK6 mK6 nK6
              go_wp2_with fail
              refine (HT2.out _).mono ?_
              rintro e v8 ⟨rfl, hc8⟩
              have hz8 := hc8.size
              (try simp at hz8)
              have hK8 : Blk v8 (v1.heap.size) 25 #[.int .i64 k.a, .int .i64 k.b, .int .i64 k.c, .int .i64 k.d, .int .i64 k.e, .int .i64 k.f, .int .i64 k.g, .int .i64 k.h] := Blk.call (by (repeat (first | with_reducible assumption | (with_reducible apply Blk.new_at; (first | rfl | (simp; done))) | with_reducible (first | apply Blk.store3 | apply Blk.store4) | (with_reducible apply Blk.farp; (first | omega | (simp <;> omega))) | with_reducible (first | apply Blk.allocp | apply Blk.drew | apply Blk.drewN)))) hc8
              obtain ⟨cK8, fK8, lK8, mK8, nK8⟩ := hK8.all5
              have hb8 : Below v3.heap.size v3 v8 := (by repeat (first | with_reducible (first | exact Below.refl _ _ | assumption | apply Below.drew | apply below_drewN) | (with_reducible (first | apply below_setp | apply below_allocp); (first | omega | (simp <;> omega))) | (with_reducible refine below_viap (by assumption) ?_ ?_; (first | omega | (simp <;> omega)))))
              clear hK7 cK7 fK7 lK7 mK7 nK7
              go_wp2_with fail
              refine (HT3.out _).mono ?_
              rintro e v9 ⟨rfl, hc9⟩
              have hz9 := hc9.size
              (try simp at hz9)
              have hK9 : Blk v9 (v1.heap.size) 25 #[.int .i64 k.a, .int .i64 k.b, .int .i64 k.c, .int .i64 k.d, .int .i64 k.e, .int .i64 k.f, .int .i64 k.g, .int .i64 k.h] := Blk.call (by (repeat (first | with_reducible assumption | (with_reducible apply Blk.new_at; (first | rfl | (simp; done))) | with_reducible (first | apply Blk.store3 | apply Blk.store4) | (with_reducible apply Blk.farp; (first | omega | (simp <;> omega))) | with_reducible (first | apply Blk.allocp | apply Blk.drew | apply Blk.drewN)))) hc9
              obtain ⟨cK9, fK9, lK9, mK9, nK9⟩ := hK9.all5
              have hb9 : Below v3.heap.size v3 v9 := (by repeat (first | with_reducible (first | exact Below.refl _ _ | assumption | apply Below.drew | apply below_drewN) | (with_reducible (first | apply below_setp | apply below_allocp); (first | omega | (simp <;> omega))) | (with_reducible refine below_viap (by assumption) ?_ ?_; (first | omega | (simp <;> omega)))))
              clear hK8 cK8 fK8 lK8 mK8 nK8 HT1 HT2
              have HP9 := HP3.out.below (w' := v9.alloc (.cells #[.int .i64 k.a, .int .i64 k.b, .int .i64 k.c, .int .i64 k.d, .int .i64 k.e, .int .i64 k.f, .int .i64 k.g, .int .i64 k.h] 25)) ((by repeat (first | with_reducible (first | exact Below.refl _ _ | assumption | apply Below.drew | apply below_drewN) | (with_reducible (first | apply below_setp | apply below_allocp); (first | omega | (simp <;> omega))) | (with_reducible refine below_viap (by assumption) ?_ ?_; (first | omega | (simp <;> omega))))))
              go_wp2_with fail
              refine (HC.out _ (by first | exact HP9 | exact HP3.out.below (by repeat (first | with_reducible (first | exact Below.refl _ _ | assumption | apply Below.drew | apply below_drewN) | (with_reducible (first | apply below_setp | apply below_allocp); (first | omega | (simp <;> omega))) | (with_reducible refine below_viap (by assumption) ?_ ?_; (first | omega | (simp <;> omega))))))).mono ?_
              rintro e v10 ⟨rfl, hc10⟩
              have hz10 := hc10.size
              (try simp at hz10)
              have hK10 : Blk v10 (v1.heap.size) 25 #[.int .i64 k.a, .int .i64 k.b, .int .i64 k.c, .int .i64 k.d, .int .i64 k.e, .int .i64 k.f, .int .i64 k.g, .int .i64 k.h] := Blk.call (by (repeat (first | with_reducible assumption | (with_reducible apply Blk.new_at; (first | rfl | (simp; done))) | with_reducible (first | apply Blk.store3 | apply Blk.store4) | (with_reducible apply Blk.farp; (first | omega | (simp <;> omega))) | with_reducible (first | apply Blk.allocp | apply Blk.drew | apply Blk.drewN)))) hc10
              obtain ⟨cK10, fK10, lK10, mK10, nK10⟩ := hK10.all5
              have hT10 : Blk v10 (v9.heap.size) 25 #[.int .i64 k.a, .int .i64 k.b, .int .i64 k.c, .int .i64 k.d, .int .i64 k.e, .int .i64 k.f, .int .i64 k.g, .int .i64 k.h] := Blk.call (by (repeat (first | with_reducible assumption | (with_reducible apply Blk.new_at; (first | rfl | (simp; done))) | with_reducible (first | apply Blk.store3 | apply Blk.store4) | (with_reducible apply Blk.farp; (first | omega | (simp <;> omega))) | with_reducible (first | apply Blk.allocp | apply Blk.drew | apply Blk.drewN)))) hc10
              obtain ⟨cT10, fT10, lT10, mT10, nT10⟩ := hT10.all5
              have hb10 : Below v3.heap.size v3 v10 := (by repeat (first | with_reducible (first | exact Below.refl _ _ | assumption | apply Below.drew | apply below_drewN) | (with_reducible (first | apply below_setp | apply below_allocp); (first | omega | (simp <;> omega))) | (with_reducible refine below_viap (by assumption) ?_ ?_; (first | omega | (simp <;> omega)))))
              clear hK9 cK9 fK9 lK9 mK9 nK9 HT3 HC
              go_wp2_with fail
              refine (HQ.out _ (by exact HP3.out.below (by repeat (first | with_reducible (first | exact Below.refl _ _ | assumption | apply Below.drew | apply below_drewN) | (with_reducible (first | apply below_setp | apply below_allocp); (first | omega | (simp <;> omega))) | (with_reducible refine below_viap (by assumption) ?_ ?_; (first | omega | (simp <;> omega))))))).mono ?_
              rintro e v11 ⟨rfl, hc11⟩
              have hz11 := hc11.size
              (try simp at hz11)
              have hK11 : Blk v11 (v1.heap.size) 25 #[.int .i64 k.a, .int .i64 k.b, .int .i64 k.c, .int .i64 k.d, .int .i64 k.e, .int .i64 k.f, .int .i64 k.g, .int .i64 k.h] := Blk.call (by (repeat (first | with_reducible assumption | (with_reducible apply Blk.new_at; (first | rfl | (simp; done))) | with_reducible (first | apply Blk.store3 | apply Blk.store4) | (with_reducible apply Blk.farp; (first | omega | (simp <;> omega))) | with_reducible (first | apply Blk.allocp | apply Blk.drew | apply Blk.drewN)))) hc11
              obtain ⟨cK11, fK11, lK11, mK11, nK11⟩ := hK11.all5
              have hT11 : Blk v11 (v9.heap.size) 25 #[.int .i64 k.a, .int .i64 k.b, .int .i64 k.c, .int .i64 k.d, .int .i64 k.e, .int .i64 k.f, .int .i64 k.g, .int .i64 k.h] := Blk.call (by (repeat (first | with_reducible assumption | (with_reducible apply Blk.new_at; (first | rfl | (simp; done))) | with_reducible (first | apply Blk.store3 | apply Blk.store4) | (with_reducible apply Blk.farp; (first | omega | (simp <;> omega))) | with_reducible (first | apply Blk.allocp | apply Blk.drew | apply Blk.drewN)))) hc11
              obtain ⟨cT11, fT11, lT11, mT11, nT11⟩ := hT11.all5
              have hb11 : Below v3.heap.size v3 v11 := (by repeat (first | with_reducible (first | exact Below.refl _ _ | assumption | apply Below.drew | apply below_drewN) | (with_reducible (first | apply below_setp | apply below_allocp); (first | omega | (simp <;> omega))) | (with_reducible refine below_viap (by assumption) ?_ ?_; (first | omega | (simp <;> omega)))))
              clear hK10 cK10 fK10 lK10 mK10 nK10 hT10 cT10 fT10 lT10 mT10 nT10 HQ HP9
              clear HP3
              go_wp2
              go_meet
              exact (by repeat (first | with_reducible (first | exact Below.refl _ _ | assumption | apply Below.drew | apply below_drewN) | (with_reducible (first | apply below_setp | apply below_allocp); (first | omega | (simp <;> omega))) | (with_reducible refine below_viap (by assumption) ?_ ?_; (first | omega | (simp <;> omega)))))
    case rest =>
      obtain ⟨v6, rfl⟩ : ∃ v, v = wc := ⟨_, rfl⟩
      have hz6 := hcut.size
      have hb6 : Below w.heap.size w v6 := below_via hb3 hcut (by omega)
      clear hcut hb1 hb2 hb3 hc2 hc3 HI HS HB HP e1 hK3 cK3 fK3 lK3 mK3 nK3 hM3 cM3 fM3 lM3 mM3 nM3 hN3 cN3 fN3 lN3 mN3 nN3
      go_wp2_with fail
      refine (drawCO_any es _ _ _ (HE.out _ hb6) (by omega)).mono ?_
      rintro e v7 ⟨f, g, rfl, hb7'⟩
      have hz7 := hb7'.size
      have hb7 : Below w.heap.size w v7 := below_via hb6 hb7' (by omega)
      obtain ⟨K, b', hI0, hS0, hL0⟩ := co_both f g
      have HI := Lib.hid hI0
      have HS := Lib.hid hS0
      have HL := Lib.hid hL0
      have e1 : (b' != b') = false := by cases b' <;> rfl
      clear hb7' hI0 hS0 hL0 HE hb6
      go_wp2_with fail
      refine (HI.out _).mono ?_
      rintro e v8 ⟨rfl, hc8⟩
      have hz8 := hc8.size
      (try simp at hz8)
      have hF8 : Blk v8 (v7.heap.size) 33 #[.int .i64 f.a, .int .i64 f.b, .int .i64 f.c] := Blk.call (by (repeat (first | with_reducible assumption | (with_reducible apply Blk.new_at; (first | rfl | (simp; done))) | with_reducible (first | apply Blk.store3 | apply Blk.store4) | (with_reducible apply Blk.farp; (first | omega | (simp <;> omega))) | with_reducible (first | apply Blk.allocp | apply Blk.drew | apply Blk.drewN)))) hc8
      obtain ⟨cF8, fF8, lF8, mF8, nF8⟩ := hF8.all5
      have hG8 : Blk v8 (v7.heap.size + 1) 33 #[.int .i64 g.a, .int .i64 g.b, .int .i64 g.c] := Blk.call (by (repeat (first | with_reducible assumption | (with_reducible apply Blk.new_at; (first | rfl | (simp; done))) | with_reducible (first | apply Blk.store3 | apply Blk.store4) | (with_reducible apply Blk.farp; (first | omega | (simp <;> omega))) | with_reducible (first | apply Blk.allocp | apply Blk.drew | apply Blk.drewN)))) hc8
      obtain ⟨cG8, fG8, lG8, mG8, nG8⟩ := hG8.all5
      have hb8 : Below w.heap.size w v8 := (by repeat (first | with_reducible (first | exact Below.refl _ _ | assumption | apply Below.drew | apply below_drewN) | (with_reducible (first | apply below_setp | apply below_allocp); (first | omega | (simp <;> omega))) | (with_reducible refine below_viap (by assumption) ?_ ?_; (first | omega | (simp <;> omega)))))
      go_wp2_with fail
      refine (HS.out _).mono ?_
      rintro e v9 ⟨rfl, hc9⟩
      have hz9 := hc9.size
      (try simp at hz9)
      have hF9 : Blk v9 (v7.heap.size) 33 #[.int .i64 f.a, .int .i64 f.b, .int .i64 f.c] := Blk.call (by (repeat (first | with_reducible assumption | (with_reducible apply Blk.new_at; (first | rfl | (simp; done))) | with_reducible (first | apply Blk.store3 | apply Blk.store4) | (with_reducible apply Blk.farp; (first | omega | (simp <;> omega))) | with_reducible (first | apply Blk.allocp | apply Blk.drew | apply Blk.drewN)))) hc9
      obtain ⟨cF9, fF9, lF9, mF9, nF9⟩ := hF9.all5
      have hG9 : Blk v9 (v7.heap.size + 1) 33 #[.int .i64 g.a, .int .i64 g.b, .int .i64 g.c] := Blk.call (by (repeat (first | with_reducible assumption | (with_reducible apply Blk.new_at; (first | rfl | (simp; done))) | with_reducible (first | apply Blk.store3 | apply Blk.store4) | (with_reducible apply Blk.farp; (first | omega | (simp <;> omega))) | with_reducible (first | apply Blk.allocp | apply Blk.drew | apply Blk.drewN)))) hc9
      obtain ⟨cG9, fG9, lG9, mG9, nG9⟩ := hG9.all5
      have hE9 : Blk v9 (v8.heap.size) 25 #[.int .i64 K.a, .int .i64 K.b, .int .i64 K.c, .int .i64 K.d, .int .i64 K.e, .int .i64 K.f, .int .i64 K.g, .int .i64 K.h] := Blk.call (by (repeat (first | with_reducible assumption | (with_reducible apply Blk.new_at; (first | rfl | (simp; done))) | with_reducible (first | apply Blk.store3 | apply Blk.store4) | (with_reducible apply Blk.farp; (first | omega | (simp <;> omega))) | with_reducible (first | apply Blk.allocp | apply Blk.drew | apply Blk.drewN)))) hc9
      obtain ⟨cE9, fE9, lE9, mE9, nE9⟩ := hE9.all5
      have hb9 : Below w.heap.size w v9 := (by repeat (first | with_reducible (first | exact Below.refl _ _ | assumption | apply Below.drew | apply below_drewN) | (with_reducible (first | apply below_setp | apply below_allocp); (first | omega | (simp <;> omega))) | (with_reducible refine below_viap (by assumption) ?_ ?_; (first | omega | (simp <;> omega)))))
      clear hF8 cF8 fF8 lF8 mF8 nF8 hG8 cG8 fG8 lG8 mG8 nG8
      clear HI HS
      cases b' with
      | false =>
        go_wp2
        go_ret
        exact ⟨rfl, (by repeat (first | with_reducible (first | exact Below.refl _ _ | assumption | apply Below.drew | apply below_drewN) | (with_reducible (first | apply below_setp | apply below_allocp); (first | omega | (simp <;> omega))) | (with_reducible refine below_viap (by assumption) ?_ ?_; (first | omega | (simp <;> omega)))))⟩
      | true =>
        obtain ⟨l1, l2, l3, l4, l5, l6, l7⟩ := HL.out rfl
        have HF := Lib.hid (fun w => implCF_yes K w l1)
        have HC := Lib.hid (fun w => implComp_c f g w l4)
        have HV := Lib.hid (fun w => invZ_any _ _ w l5 l6)
        rw [l2, l3, l7] at HF
        clear l1 l2 l3 l4 l5 l6 l7 HL
        generalize cmp (disc f) (red f) (red g) = R at *
        generalize red (oppF R) = I at *
        go_wp2_with fail
        refine (HF.out _).mono ?_
        rintro e v10 ⟨rfl, hc10⟩
        have hz10 := hc10.size
        (try simp at hz10)
        have hF10 : Blk v10 (v7.heap.size) 33 #[.int .i64 f.a, .int .i64 f.b, .int .i64 f.c] := Blk.call (by (repeat (first | with_reducible assumption | (with_reducible apply Blk.new_at; (first | rfl | (simp; done))) | with_reducible (first | apply Blk.store3 | apply Blk.store4) | (with_reducible apply Blk.farp; (first | omega | (simp <;> omega))) | with_reducible (first | apply Blk.allocp | apply Blk.drew | apply Blk.drewN)))) hc10
        obtain ⟨cF10, fF10, lF10, mF10, nF10⟩ := hF10.all5
        have hG10 : Blk v10 (v7.heap.size + 1) 33 #[.int .i64 g.a, .int .i64 g.b, .int .i64 g.c] := Blk.call (by (repeat (first | with_reducible assumption | (with_reducible apply Blk.new_at; (first | rfl | (simp; done))) | with_reducible (first | apply Blk.store3 | apply Blk.store4) | (with_reducible apply Blk.farp; (first | omega | (simp <;> omega))) | with_reducible (first | apply Blk.allocp | apply Blk.drew | apply Blk.drewN)))) hc10
        obtain ⟨cG10, fG10, lG10, mG10, nG10⟩ := hG10.all5
        have hE10 : Blk v10 (v8.heap.size) 25 #[.int .i64 K.a, .int .i64 K.b, .int .i64 K.c, .int .i64 K.d, .int .i64 K.e, .int .i64 K.f, .int .i64 K.g, .int .i64 K.h] := Blk.call (by (repeat (first | with_reducible assumption | (with_reducible apply Blk.new_at; (first | rfl | (simp; done))) | with_reducible (first | apply Blk.store3 | apply Blk.store4) | (with_reducible apply Blk.farp; (first | omega | (simp <;> omega))) | with_reducible (first | apply Blk.allocp | apply Blk.drew | apply Blk.drewN)))) hc10
        obtain ⟨cE10, fE10, lE10, mE10, nE10⟩ := hE10.all5
        have hb10 : Below w.heap.size w v10 := (by repeat (first | with_reducible (first | exact Below.refl _ _ | assumption | apply Below.drew | apply below_drewN) | (with_reducible (first | apply below_setp | apply below_allocp); (first | omega | (simp <;> omega))) | (with_reducible refine below_viap (by assumption) ?_ ?_; (first | omega | (simp <;> omega)))))
        clear hF9 cF9 fF9 lF9 mF9 nF9 hG9 cG9 fG9 lG9 mG9 nG9 hE9 cE9 fE9 lE9 mE9 nE9
        have : ¬ v7.heap.size = v10.heap.size + 1 := by have := lF10; omega
        have : v7.heap.size < v10.heap.size + 1 := by have := lF10; omega
        have : ¬ v7.heap.size = v10.heap.size + 1 + 1 := by have := lF10; omega
        have : v7.heap.size < v10.heap.size + 1 + 1 := by have := lF10; omega
        have : ¬ v7.heap.size + 1 = v10.heap.size + 1 := by have := lG10; omega
        have : v7.heap.size + 1 < v10.heap.size + 1 := by have := lG10; omega
        have : ¬ v7.heap.size + 1 = v10.heap.size + 1 + 1 := by have := lG10; omega
        have : v7.heap.size + 1 < v10.heap.size + 1 + 1 := by have := lG10; omega
        have : ¬ v8.heap.size = v10.heap.size + 1 := by have := lE10; omega
        have : v8.heap.size < v10.heap.size + 1 := by have := lE10; omega
        have : ¬ v8.heap.size = v10.heap.size + 1 + 1 := by have := lE10; omega
        have : v8.heap.size < v10.heap.size + 1 + 1 := by have := lE10; omega
        go_wp2_with fail
        refine (HC.out _).mono ?_
        rintro e v11 ⟨rfl, hc11⟩
        have hz11 := hc11.size
        (try simp at hz11)
        have hF11 : Blk v11 (v7.heap.size) 33 #[.int .i64 f.a, .int .i64 f.b, .int .i64 f.c] := Blk.call (by (repeat (first | with_reducible assumption | (with_reducible apply Blk.new_at; (first | rfl | (simp; done))) | with_reducible (first | apply Blk.store3 | apply Blk.store4) | (with_reducible apply Blk.farp; (first | omega | (simp <;> omega))) | with_reducible (first | apply Blk.allocp | apply Blk.drew | apply Blk.drewN)))) hc11
        obtain ⟨cF11, fF11, lF11, mF11, nF11⟩ := hF11.all5
        have hG11 : Blk v11 (v7.heap.size + 1) 33 #[.int .i64 g.a, .int .i64 g.b, .int .i64 g.c] := Blk.call (by (repeat (first | with_reducible assumption | (with_reducible apply Blk.new_at; (first | rfl | (simp; done))) | with_reducible (first | apply Blk.store3 | apply Blk.store4) | (with_reducible apply Blk.farp; (first | omega | (simp <;> omega))) | with_reducible (first | apply Blk.allocp | apply Blk.drew | apply Blk.drewN)))) hc11
        obtain ⟨cG11, fG11, lG11, mG11, nG11⟩ := hG11.all5
        have hE11 : Blk v11 (v8.heap.size) 25 #[.int .i64 K.a, .int .i64 K.b, .int .i64 K.c, .int .i64 K.d, .int .i64 K.e, .int .i64 K.f, .int .i64 K.g, .int .i64 K.h] := Blk.call (by (repeat (first | with_reducible assumption | (with_reducible apply Blk.new_at; (first | rfl | (simp; done))) | with_reducible (first | apply Blk.store3 | apply Blk.store4) | (with_reducible apply Blk.farp; (first | omega | (simp <;> omega))) | with_reducible (first | apply Blk.allocp | apply Blk.drew | apply Blk.drewN)))) hc11
        obtain ⟨cE11, fE11, lE11, mE11, nE11⟩ := hE11.all5
        have hX11 : Blk v11 (v10.heap.size) 33 #[.int .i64 f.a, .int .i64 f.b, .int .i64 f.c] := Blk.call (by (repeat (first | with_reducible assumption | (with_reducible apply Blk.new_at; (first | rfl | (simp; done))) | with_reducible (first | apply Blk.store3 | apply Blk.store4) | (with_reducible apply Blk.farp; (first | omega | (simp <;> omega))) | with_reducible (first | apply Blk.allocp | apply Blk.drew | apply Blk.drewN)))) hc11
        obtain ⟨cX11, fX11, lX11, mX11, nX11⟩ := hX11.all5
        have hY11 : Blk v11 (v10.heap.size + 1) 33 #[.int .i64 g.a, .int .i64 g.b, .int .i64 g.c] := Blk.call (by (repeat (first | with_reducible assumption | (with_reducible apply Blk.new_at; (first | rfl | (simp; done))) | with_reducible (first | apply Blk.store3 | apply Blk.store4) | (with_reducible apply Blk.farp; (first | omega | (simp <;> omega))) | with_reducible (first | apply Blk.allocp | apply Blk.drew | apply Blk.drewN)))) hc11
        obtain ⟨cY11, fY11, lY11, mY11, nY11⟩ := hY11.all5
        have hZ11 : Blk v11 (v10.heap.size + 1 + 1) 33 #[.int .i64 I.a, .int .i64 I.b, .int .i64 I.c] := Blk.call (by (repeat (first | with_reducible assumption | (with_reducible apply Blk.new_at; (first | rfl | (simp; done))) | with_reducible (first | apply Blk.store3 | apply Blk.store4) | (with_reducible apply Blk.farp; (first | omega | (simp <;> omega))) | with_reducible (first | apply Blk.allocp | apply Blk.drew | apply Blk.drewN)))) hc11
        obtain ⟨cZ11, fZ11, lZ11, mZ11, nZ11⟩ := hZ11.all5
        have hb11 : Below w.heap.size w v11 := (by repeat (first | with_reducible (first | exact Below.refl _ _ | assumption | apply Below.drew | apply below_drewN) | (with_reducible (first | apply below_setp | apply below_allocp); (first | omega | (simp <;> omega))) | (with_reducible refine below_viap (by assumption) ?_ ?_; (first | omega | (simp <;> omega)))))
        clear hF10 cF10 fF10 lF10 mF10 nF10 hG10 cG10 fG10 lG10 mG10 nG10 hE10 cE10 fE10 lE10 mE10 nE10 HF
        go_wp2_with fail
        refine (HV.out _).mono ?_
        rintro e v12 ⟨rfl, hc12⟩
        have hz12 := hc12.size
        (try simp at hz12)
        have hF12 : Blk v12 (v7.heap.size) 33 #[.int .i64 f.a, .int .i64 f.b, .int .i64 f.c] := Blk.call (by (repeat (first | with_reducible assumption | (with_reducible apply Blk.new_at; (first | rfl | (simp; done))) | with_reducible (first | apply Blk.store3 | apply Blk.store4) | (with_reducible apply Blk.farp; (first | omega | (simp <;> omega))) | with_reducible (first | apply Blk.allocp | apply Blk.drew | apply Blk.drewN)))) hc12
        obtain ⟨cF12, fF12, lF12, mF12, nF12⟩ := hF12.all5
        have hG12 : Blk v12 (v7.heap.size + 1) 33 #[.int .i64 g.a, .int .i64 g.b, .int .i64 g.c] := Blk.call (by (repeat (first | with_reducible assumption | (with_reducible apply Blk.new_at; (first | rfl | (simp; done))) | with_reducible (first | apply Blk.store3 | apply Blk.store4) | (with_reducible apply Blk.farp; (first | omega | (simp <;> omega))) | with_reducible (first | apply Blk.allocp | apply Blk.drew | apply Blk.drewN)))) hc12
        obtain ⟨cG12, fG12, lG12, mG12, nG12⟩ := hG12.all5
        have hE12 : Blk v12 (v8.heap.size) 25 #[.int .i64 K.a, .int .i64 K.b, .int .i64 K.c, .int .i64 K.d, .int .i64 K.e, .int .i64 K.f, .int .i64 K.g, .int .i64 K.h] := Blk.call (by (repeat (first | with_reducible assumption | (with_reducible apply Blk.new_at; (first | rfl | (simp; done))) | with_reducible (first | apply Blk.store3 | apply Blk.store4) | (with_reducible apply Blk.farp; (first | omega | (simp <;> omega))) | with_reducible (first | apply Blk.allocp | apply Blk.drew | apply Blk.drewN)))) hc12
        obtain ⟨cE12, fE12, lE12, mE12, nE12⟩ := hE12.all5
        have hX12 : Blk v12 (v10.heap.size) 33 #[.int .i64 f.a, .int .i64 f.b, .int .i64 f.c] := Blk.call (by (repeat (first | with_reducible assumption | (with_reducible apply Blk.new_at; (first | rfl | (simp; done))) | with_reducible (first | apply Blk.store3 | apply Blk.store4) | (with_reducible apply Blk.farp; (first | omega | (simp <;> omega))) | with_reducible (first | apply Blk.allocp | apply Blk.drew | apply Blk.drewN)))) hc12
        obtain ⟨cX12, fX12, lX12, mX12, nX12⟩ := hX12.all5
        have hY12 : Blk v12 (v10.heap.size + 1) 33 #[.int .i64 g.a, .int .i64 g.b, .int .i64 g.c] := Blk.call (by (repeat (first | with_reducible assumption | (with_reducible apply Blk.new_at; (first | rfl | (simp; done))) | with_reducible (first | apply Blk.store3 | apply Blk.store4) | (with_reducible apply Blk.farp; (first | omega | (simp <;> omega))) | with_reducible (first | apply Blk.allocp | apply Blk.drew | apply Blk.drewN)))) hc12
        obtain ⟨cY12, fY12, lY12, mY12, nY12⟩ := hY12.all5
        have hZ12 : Blk v12 (v10.heap.size + 1 + 1) 33 #[.int .i64 I.a, .int .i64 I.b, .int .i64 I.c] := Blk.call (by (repeat (first | with_reducible assumption | (with_reducible apply Blk.new_at; (first | rfl | (simp; done))) | with_reducible (first | apply Blk.store3 | apply Blk.store4) | (with_reducible apply Blk.farp; (first | omega | (simp <;> omega))) | with_reducible (first | apply Blk.allocp | apply Blk.drew | apply Blk.drewN)))) hc12
        obtain ⟨cZ12, fZ12, lZ12, mZ12, nZ12⟩ := hZ12.all5
        have hR12 : Blk v12 (v11.heap.size) 33 #[.int .i64 R.a, .int .i64 R.b, .int .i64 R.c] := Blk.call (by (repeat (first | with_reducible assumption | (with_reducible apply Blk.new_at; (first | rfl | (simp; done))) | with_reducible (first | apply Blk.store3 | apply Blk.store4) | (with_reducible apply Blk.farp; (first | omega | (simp <;> omega))) | with_reducible (first | apply Blk.allocp | apply Blk.drew | apply Blk.drewN)))) hc12
        obtain ⟨cR12, fR12, lR12, mR12, nR12⟩ := hR12.all5
        have hb12 : Below w.heap.size w v12 := (by repeat (first | with_reducible (first | exact Below.refl _ _ | assumption | apply Below.drew | apply below_drewN) | (with_reducible (first | apply below_setp | apply below_allocp); (first | omega | (simp <;> omega))) | (with_reducible refine below_viap (by assumption) ?_ ?_; (first | omega | (simp <;> omega)))))
        clear hF11 cF11 fF11 lF11 mF11 nF11 hG11 cG11 fG11 lG11 mG11 nG11 hE11 cE11 fE11 lE11 mE11 nE11 hX11 cX11 fX11 lX11 mX11 nX11 hY11 cY11 fY11 lY11 mY11 nY11 hZ11 cZ11 fZ11 lZ11 mZ11 nZ11 HC HV
        go_wp2
        go_ret
        exact ⟨rfl, (by repeat (first | with_reducible (first | exact Below.refl _ _ | assumption | apply Below.drew | apply below_drewN) | (with_reducible (first | apply below_setp | apply below_allocp); (first | omega | (simp <;> omega))) | (with_reducible refine below_viap (by assumption) ?_ ?_; (first | omega | (simp <;> omega)))))⟩
  · have Hb := Lib.hid (fun w => big_yes A0 A2 zs.length es.length c1' c2' w hbig)
    clear HZ HY hbig
    go_enter Tryz.func3, Tryz.ntmps3
    go_wp2_with (go_at_call 4; (with_reducible refine (Hb.out _).mono ?_); rintro e v ⟨rfl, rfl⟩)
    go_ret
    exact ⟨rfl, (by repeat (first | with_reducible (first | exact Below.refl _ _ | assumption | apply Below.drew | apply below_drewN) | (with_reducible (first | apply below_setp | apply below_allocp); (first | omega | (simp <;> omega))) | (with_reducible refine below_viap (by assumption) ?_ ?_; (first | omega | (simp <;> omega)))))⟩
#print axioms walk_FnCubeActions
end Go.Proofs.YtlcegkafagdcjaaGreatDoor
