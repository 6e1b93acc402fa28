/- Contracts: the cube of two forms, of the reference (written by gen_FH.py from gen_QL.py's walk). -/
import Derived.Test.YtlcegkafagdcjaaGreatDoorFG
import Derived.Test.YtlcegkafagdcjaaGreatDoorQL
namespace Go.Proofs.YtlcegkafagdcjaaGreatDoor
open Go.RowKit

/-- The cube that both sides make of united forms, their matrices and the last matrix. -/
def cuMk (a b c e : Int) (M N L : M4) : Cu := cuActF (cuActF (cuActF (cuK a b c e) 0 (invW M)) 1 (invW N)) 2 L
theorem UD.dfo {d : Int} {f g : Fm} {x y S Q T e h k b c t1 t2 : Int} (u : UD d f g x y S Q T e h k b c t1 t2) : Def 1000000 ⟨f.a * e, -b, c⟩ := by
  obtain ⟨a1, a2⟩ := u.ae
  obtain ⟨c1, c2⟩ := u.c_bd
  have hd := u.dfn.d
  dsimp only at hd
  exact ⟨by dsimp only; omega, by dsimp only; omega, c1, c2, by dsimp only; rwa [Int.neg_mul_neg]⟩
set_option maxRecDepth 100000 in
set_option maxHeartbeats 6400000 in
theorem cuMakeX_any (d : Int) (f0 g0 f g : Fm) (x y S Q T e h k b c t1 t2 : Int) (w : World) (u : UD d f g x y S Q T e h k b c t1 t2) (hf0 : Def 1000000 f0) (hg0 : Def 1000000 g0) (hrf : red f0 = f) (hrg : red g0 = g) (K : Cu)
    (hK : cuMk f.a b c e (mmM (redM f0 M4.one) (shM t1)) (mmM (mmM (redM g0 M4.one) ⟨x, Q + T * x, y, S + T * y⟩) (shM t2)) (redM ⟨f.a * e, -b, c⟩ M4.one) = K) : Calls Tryz.prog 49 #[.agg #[.int .i64 f0.a, .int .i64 f0.b, .int .i64 f0.c], .agg #[.int .i64 g0.a, .int .i64 g0.b, .int .i64 g0.c]] w fun e w' => e = .returned (.agg #[.int .i64 K.a, .int .i64 K.b, .int .i64 K.c, .int .i64 K.d, .int .i64 K.e, .int .i64 K.f, .int .i64 K.g, .int .i64 K.h]) ∧ Below w.heap.size w w' := by
  have hU := Lib.hid (fun w => coUniteX_any d f0 g0 f g x y S Q T e h k b c t1 t2 w u hf0 hg0 _ _ rfl rfl hrf hrg)
  generalize mmM (redM f0 M4.one) (shM t1) = M at *
  generalize mmM (mmM (redM g0 M4.one) ⟨x, Q + T * x, y, S + T * y⟩) (shM t2) = N at *
  have hRd0 := u.dfo
  obtain ⟨ae1, ae2⟩ := u.ae
  obtain ⟨e1, e2⟩ := u.e_pos
  obtain ⟨c1, c2⟩ := u.c_bd
  have b1 := u.b0; have b2 := u.b1
  have bec := mul_bd (a := e) (x := c) (A := 20000) (X := 1000000) (by omega) (by omega) (by omega) (by omega)
  have hJ := Lib.hid (fun w => coJoined_any f.a e b c (f.a * c) w ⟨by omega, by omega⟩ ⟨by omega, by omega⟩ e1 ⟨by omega, by omega⟩)
  have hOp := Lib.hid (fun w => foOpposite_any ⟨f.a * e, b, c⟩ w (show Far b from ⟨by omega, by omega⟩))
  have hRd := Lib.hid (fun w => reReduce_m ⟨f.a * e, -b, c⟩ w hRd0)
  have hI := Lib.hid (fun m w => foInvW_any m w)
  have K1 := Lib.hid (show wrap64 (-b) = -b from IntWalk.wrap64_in _ (by omega))
  have K2 := Lib.hid (show wrap64 (-c) = -c from IntWalk.wrap64_in _ (by omega))
  clear u hRd0 ae1 ae2 b1 b2 bec c1 c2 e1 e2 hf0 hg0 hrf hrg
  generalize red ⟨f.a * e, -b, c⟩ = rr at *
  generalize redM ⟨f.a * e, -b, c⟩ M4.one = L at *
  have ho : oppF ⟨f.a * e, b, c⟩ = ⟨f.a * e, -b, c⟩ := rfl
  rw [ho] at hOp
  clear ho
  dsimp only at hOp hRd
  unfold RetUX at hU
  unfold RetRM at hRd
  obtain ⟨m1, m2, m3, m4⟩ := M
  obtain ⟨n1, n2, n3, n4⟩ := N
  obtain ⟨p1, p2, p3, p4⟩ := L
  dsimp only at hU hRd
  unfold cuMk cuK at hK
  generalize f.a * e = l at *
  generalize f.a * c = ac at *
  generalize e * c = ec at *
  go_enter Tryz.func49, Tryz.ntmps49
  go_wp2_with fail
  refine (hU.out _).mono ?_
  rintro e v1 ⟨rfl, hc1⟩
  have hz1 := hc1.size
  (try simp at hz1)
  have hF1 : Blk v1 (w.heap.size) 33 #[.int .i64 f0.a, .int .i64 f0.b, .int .i64 f0.c] := Blk.call (by (repeat (first | with_reducible assumption | (with_reducible apply Blk.new_at; (first | rfl | (simp; done))) | with_reducible (first | apply Blk.store3 | apply Blk.store4) | (with_reducible apply Blk.farp; (first | omega | (simp <;> omega))) | with_reducible (first | apply Blk.allocp | apply Blk.drew | apply Blk.drewN)))) hc1
  obtain ⟨cF1, fF1, lF1, mF1, nF1⟩ := hF1.all5
  have hG1 : Blk v1 (w.heap.size + 1) 33 #[.int .i64 g0.a, .int .i64 g0.b, .int .i64 g0.c] := Blk.call (by (repeat (first | with_reducible assumption | (with_reducible apply Blk.new_at; (first | rfl | (simp; done))) | with_reducible (first | apply Blk.store3 | apply Blk.store4) | (with_reducible apply Blk.farp; (first | omega | (simp <;> omega))) | with_reducible (first | apply Blk.allocp | apply Blk.drew | apply Blk.drewN)))) hc1
  obtain ⟨cG1, fG1, lG1, mG1, nG1⟩ := hG1.all5
  have hR1 : Blk v1 (w.heap.size + 1 + 1) 25 #[.int .i64 0, .int .i64 0, .int .i64 0, .int .i64 0, .int .i64 0, .int .i64 0, .int .i64 0, .int .i64 0] := Blk.call (by (repeat (first | with_reducible assumption | (with_reducible apply Blk.new_at; (first | rfl | (simp; done))) | with_reducible (first | apply Blk.store3 | apply Blk.store4) | (with_reducible apply Blk.farp; (first | omega | (simp <;> omega))) | with_reducible (first | apply Blk.allocp | apply Blk.drew | apply Blk.drewN)))) hc1
  obtain ⟨cR1, fR1, lR1, mR1, nR1⟩ := hR1.all5
  have hb1 : Below w.heap.size w v1 := (by repeat (first | with_reducible (first | exact Below.refl _ _ | assumption | apply Below.drew | apply below_drewN) | (with_reducible (first | apply below_setp | apply below_allocp); (first | omega | (simp <;> omega))) | (with_reducible refine below_viap (by assumption) ?_ ?_; (first | omega | (simp <;> omega)))))
  go_wp2_with fail
  refine (hJ.out _).mono ?_
  rintro e v2 ⟨rfl, hc2⟩
  have hz2 := hc2.size
  (try simp at hz2)
  have hF2 : Blk v2 (w.heap.size) 33 #[.int .i64 f0.a, .int .i64 f0.b, .int .i64 f0.c] := Blk.call (by (repeat (first | with_reducible assumption | (with_reducible apply Blk.new_at; (first | rfl | (simp; done))) | with_reducible (first | apply Blk.store3 | apply Blk.store4) | (with_reducible apply Blk.farp; (first | omega | (simp <;> omega))) | with_reducible (first | apply Blk.allocp | apply Blk.drew | apply Blk.drewN)))) hc2
  obtain ⟨cF2, fF2, lF2, mF2, nF2⟩ := hF2.all5
  have hG2 : Blk v2 (w.heap.size + 1) 33 #[.int .i64 g0.a, .int .i64 g0.b, .int .i64 g0.c] := Blk.call (by (repeat (first | with_reducible assumption | (with_reducible apply Blk.new_at; (first | rfl | (simp; done))) | with_reducible (first | apply Blk.store3 | apply Blk.store4) | (with_reducible apply Blk.farp; (first | omega | (simp <;> omega))) | with_reducible (first | apply Blk.allocp | apply Blk.drew | apply Blk.drewN)))) hc2
  obtain ⟨cG2, fG2, lG2, mG2, nG2⟩ := hG2.all5
  have hR2 : Blk v2 (w.heap.size + 1 + 1) 25 #[.int .i64 0, .int .i64 0, .int .i64 0, .int .i64 0, .int .i64 0, .int .i64 0, .int .i64 0, .int .i64 0] := Blk.call (by (repeat (first | with_reducible assumption | (with_reducible apply Blk.new_at; (first | rfl | (simp; done))) | with_reducible (first | apply Blk.store3 | apply Blk.store4) | (with_reducible apply Blk.farp; (first | omega | (simp <;> omega))) | with_reducible (first | apply Blk.allocp | apply Blk.drew | apply Blk.drewN)))) hc2
  obtain ⟨cR2, fR2, lR2, mR2, nR2⟩ := hR2.all5
  have hA2 : Blk v2 (v1.heap.size) 33 #[.int .i64 f.a, .int .i64 b, .int .i64 ec] := Blk.call (by (repeat (first | with_reducible assumption | (with_reducible apply Blk.new_at; (first | rfl | (simp; done))) | with_reducible (first | apply Blk.store3 | apply Blk.store4) | (with_reducible apply Blk.farp; (first | omega | (simp <;> omega))) | with_reducible (first | apply Blk.allocp | apply Blk.drew | apply Blk.drewN)))) hc2
  obtain ⟨cA2, fA2, lA2, mA2, nA2⟩ := hA2.all5
  have hE2 : Blk v2 (v1.heap.size + 1) 33 #[.int .i64 e, .int .i64 b, .int .i64 ac] := Blk.call (by (repeat (first | with_reducible assumption | (with_reducible apply Blk.new_at; (first | rfl | (simp; done))) | with_reducible (first | apply Blk.store3 | apply Blk.store4) | (with_reducible apply Blk.farp; (first | omega | (simp <;> omega))) | with_reducible (first | apply Blk.allocp | apply Blk.drew | apply Blk.drewN)))) hc2
  obtain ⟨cE2, fE2, lE2, mE2, nE2⟩ := hE2.all5
  have hM2 : Blk v2 (v1.heap.size + 1 + 1) 27 #[.int .i64 m1, .int .i64 m2, .int .i64 m3, .int .i64 m4] := Blk.call (by (repeat (first | with_reducible assumption | (with_reducible apply Blk.new_at; (first | rfl | (simp; done))) | with_reducible (first | apply Blk.store3 | apply Blk.store4) | (with_reducible apply Blk.farp; (first | omega | (simp <;> omega))) | with_reducible (first | apply Blk.allocp | apply Blk.drew | apply Blk.drewN)))) hc2
  obtain ⟨cM2, fM2, lM2, mM2, nM2⟩ := hM2.all5
  have hN2 : Blk v2 (v1.heap.size + 1 + 1 + 1) 27 #[.int .i64 n1, .int .i64 n2, .int .i64 n3, .int .i64 n4] := Blk.call (by (repeat (first | with_reducible assumption | (with_reducible apply Blk.new_at; (first | rfl | (simp; done))) | with_reducible (first | apply Blk.store3 | apply Blk.store4) | (with_reducible apply Blk.farp; (first | omega | (simp <;> omega))) | with_reducible (first | apply Blk.allocp | apply Blk.drew | apply Blk.drewN)))) hc2
  obtain ⟨cN2, fN2, lN2, mN2, nN2⟩ := hN2.all5
  have hb2 : Below w.heap.size w v2 := (by repeat (first | with_reducible (first | exact Below.refl _ _ | assumption | apply Below.drew | apply below_drewN) | (with_reducible (first | apply below_setp | apply below_allocp); (first | omega | (simp <;> omega))) | (with_reducible refine below_viap (by assumption) ?_ ?_; (first | omega | (simp <;> omega)))))
  clear hF1 cF1 fF1 lF1 mF1 nF1 hG1 cG1 fG1 lG1 mG1 nG1 hR1 cR1 fR1 lR1 mR1 nR1
  go_wp2_with fail
  refine (hOp.out _).mono ?_
  rintro e v3 ⟨rfl, hc3⟩
  have hz3 := hc3.size
  (try simp at hz3)
  have hF3 : Blk v3 (w.heap.size) 33 #[.int .i64 f0.a, .int .i64 f0.b, .int .i64 f0.c] := Blk.call (by (repeat (first | with_reducible assumption | (with_reducible apply Blk.new_at; (first | rfl | (simp; done))) | with_reducible (first | apply Blk.store3 | apply Blk.store4) | (with_reducible apply Blk.farp; (first | omega | (simp <;> omega))) | with_reducible (first | apply Blk.allocp | apply Blk.drew | apply Blk.drewN)))) hc3
  obtain ⟨cF3, fF3, lF3, mF3, nF3⟩ := hF3.all5
  have hG3 : Blk v3 (w.heap.size + 1) 33 #[.int .i64 g0.a, .int .i64 g0.b, .int .i64 g0.c] := Blk.call (by (repeat (first | with_reducible assumption | (with_reducible apply Blk.new_at; (first | rfl | (simp; done))) | with_reducible (first | apply Blk.store3 | apply Blk.store4) | (with_reducible apply Blk.farp; (first | omega | (simp <;> omega))) | with_reducible (first | apply Blk.allocp | apply Blk.drew | apply Blk.drewN)))) hc3
  obtain ⟨cG3, fG3, lG3, mG3, nG3⟩ := hG3.all5
  have hR3 : Blk v3 (w.heap.size + 1 + 1) 25 #[.int .i64 0, .int .i64 0, .int .i64 0, .int .i64 0, .int .i64 0, .int .i64 0, .int .i64 0, .int .i64 0] := Blk.call (by (repeat (first | with_reducible assumption | (with_reducible apply Blk.new_at; (first | rfl | (simp; done))) | with_reducible (first | apply Blk.store3 | apply Blk.store4) | (with_reducible apply Blk.farp; (first | omega | (simp <;> omega))) | with_reducible (first | apply Blk.allocp | apply Blk.drew | apply Blk.drewN)))) hc3
  obtain ⟨cR3, fR3, lR3, mR3, nR3⟩ := hR3.all5
  have hA3 : Blk v3 (v1.heap.size) 33 #[.int .i64 f.a, .int .i64 b, .int .i64 ec] := Blk.call (by (repeat (first | with_reducible assumption | (with_reducible apply Blk.new_at; (first | rfl | (simp; done))) | with_reducible (first | apply Blk.store3 | apply Blk.store4) | (with_reducible apply Blk.farp; (first | omega | (simp <;> omega))) | with_reducible (first | apply Blk.allocp | apply Blk.drew | apply Blk.drewN)))) hc3
  obtain ⟨cA3, fA3, lA3, mA3, nA3⟩ := hA3.all5
  have hE3 : Blk v3 (v1.heap.size + 1) 33 #[.int .i64 e, .int .i64 b, .int .i64 ac] := Blk.call (by (repeat (first | with_reducible assumption | (with_reducible apply Blk.new_at; (first | rfl | (simp; done))) | with_reducible (first | apply Blk.store3 | apply Blk.store4) | (with_reducible apply Blk.farp; (first | omega | (simp <;> omega))) | with_reducible (first | apply Blk.allocp | apply Blk.drew | apply Blk.drewN)))) hc3
  obtain ⟨cE3, fE3, lE3, mE3, nE3⟩ := hE3.all5
  have hM3 : Blk v3 (v1.heap.size + 1 + 1) 27 #[.int .i64 m1, .int .i64 m2, .int .i64 m3, .int .i64 m4] := Blk.call (by (repeat (first | with_reducible assumption | (with_reducible apply Blk.new_at; (first | rfl | (simp; done))) | with_reducible (first | apply Blk.store3 | apply Blk.store4) | (with_reducible apply Blk.farp; (first | omega | (simp <;> omega))) | with_reducible (first | apply Blk.allocp | apply Blk.drew | apply Blk.drewN)))) hc3
  obtain ⟨cM3, fM3, lM3, mM3, nM3⟩ := hM3.all5
  have hN3 : Blk v3 (v1.heap.size + 1 + 1 + 1) 27 #[.int .i64 n1, .int .i64 n2, .int .i64 n3, .int .i64 n4] := Blk.call (by (repeat (first | with_reducible assumption | (with_reducible apply Blk.new_at; (first | rfl | (simp; done))) | with_reducible (first | apply Blk.store3 | apply Blk.store4) | (with_reducible apply Blk.farp; (first | omega | (simp <;> omega))) | with_reducible (first | apply Blk.allocp | apply Blk.drew | apply Blk.drewN)))) hc3
  obtain ⟨cN3, fN3, lN3, mN3, nN3⟩ := hN3.all5
  have hJ3 : Blk v3 (v2.heap.size) 33 #[.int .i64 l, .int .i64 b, .int .i64 c] := Blk.call (by (repeat (first | with_reducible assumption | (with_reducible apply Blk.new_at; (first | rfl | (simp; done))) | with_reducible (first | apply Blk.store3 | apply Blk.store4) | (with_reducible apply Blk.farp; (first | omega | (simp <;> omega))) | with_reducible (first | apply Blk.allocp | apply Blk.drew | apply Blk.drewN)))) hc3
  obtain ⟨cJ3, fJ3, lJ3, mJ3, nJ3⟩ := hJ3.all5
  have hb3 : Below w.heap.size w v3 := (by repeat (first | with_reducible (first | exact Below.refl _ _ | assumption | apply Below.drew | apply below_drewN) | (with_reducible (first | apply below_setp | apply below_allocp); (first | omega | (simp <;> omega))) | (with_reducible refine below_viap (by assumption) ?_ ?_; (first | omega | (simp <;> omega)))))
  clear hF2 cF2 fF2 lF2 mF2 nF2 hG2 cG2 fG2 lG2 mG2 nG2 hR2 cR2 fR2 lR2 mR2 nR2 hA2 cA2 fA2 lA2 mA2 nA2 hE2 cE2 fE2 lE2 mE2 nE2 hM2 cM2 fM2 lM2 mM2 nM2 hN2 cN2 fN2 lN2 mN2 nN2
  go_wp2_with fail
  refine (hRd.out _).mono ?_
  rintro e v4 ⟨rfl, hc4⟩
  have hz4 := hc4.size
  (try simp at hz4)
  have hF4 : Blk v4 (w.heap.size) 33 #[.int .i64 f0.a, .int .i64 f0.b, .int .i64 f0.c] := Blk.call (by (repeat (first | with_reducible assumption | (with_reducible apply Blk.new_at; (first | rfl | (simp; done))) | with_reducible (first | apply Blk.store3 | apply Blk.store4) | (with_reducible apply Blk.farp; (first | omega | (simp <;> omega))) | with_reducible (first | apply Blk.allocp | apply Blk.drew | apply Blk.drewN)))) hc4
  obtain ⟨cF4, fF4, lF4, mF4, nF4⟩ := hF4.all5
  have hG4 : Blk v4 (w.heap.size + 1) 33 #[.int .i64 g0.a, .int .i64 g0.b, .int .i64 g0.c] := Blk.call (by (repeat (first | with_reducible assumption | (with_reducible apply Blk.new_at; (first | rfl | (simp; done))) | with_reducible (first | apply Blk.store3 | apply Blk.store4) | (with_reducible apply Blk.farp; (first | omega | (simp <;> omega))) | with_reducible (first | apply Blk.allocp | apply Blk.drew | apply Blk.drewN)))) hc4
  obtain ⟨cG4, fG4, lG4, mG4, nG4⟩ := hG4.all5
  have hR4 : Blk v4 (w.heap.size + 1 + 1) 25 #[.int .i64 0, .int .i64 0, .int .i64 0, .int .i64 0, .int .i64 0, .int .i64 0, .int .i64 0, .int .i64 0] := Blk.call (by (repeat (first | with_reducible assumption | (with_reducible apply Blk.new_at; (first | rfl | (simp; done))) | with_reducible (first | apply Blk.store3 | apply Blk.store4) | (with_reducible apply Blk.farp; (first | omega | (simp <;> omega))) | with_reducible (first | apply Blk.allocp | apply Blk.drew | apply Blk.drewN)))) hc4
  obtain ⟨cR4, fR4, lR4, mR4, nR4⟩ := hR4.all5
  have hA4 : Blk v4 (v1.heap.size) 33 #[.int .i64 f.a, .int .i64 b, .int .i64 ec] := Blk.call (by (repeat (first | with_reducible assumption | (with_reducible apply Blk.new_at; (first | rfl | (simp; done))) | with_reducible (first | apply Blk.store3 | apply Blk.store4) | (with_reducible apply Blk.farp; (first | omega | (simp <;> omega))) | with_reducible (first | apply Blk.allocp | apply Blk.drew | apply Blk.drewN)))) hc4
  obtain ⟨cA4, fA4, lA4, mA4, nA4⟩ := hA4.all5
  have hE4 : Blk v4 (v1.heap.size + 1) 33 #[.int .i64 e, .int .i64 b, .int .i64 ac] := Blk.call (by (repeat (first | with_reducible assumption | (with_reducible apply Blk.new_at; (first | rfl | (simp; done))) | with_reducible (first | apply Blk.store3 | apply Blk.store4) | (with_reducible apply Blk.farp; (first | omega | (simp <;> omega))) | with_reducible (first | apply Blk.allocp | apply Blk.drew | apply Blk.drewN)))) hc4
  obtain ⟨cE4, fE4, lE4, mE4, nE4⟩ := hE4.all5
  have hM4 : Blk v4 (v1.heap.size + 1 + 1) 27 #[.int .i64 m1, .int .i64 m2, .int .i64 m3, .int .i64 m4] := Blk.call (by (repeat (first | with_reducible assumption | (with_reducible apply Blk.new_at; (first | rfl | (simp; done))) | with_reducible (first | apply Blk.store3 | apply Blk.store4) | (with_reducible apply Blk.farp; (first | omega | (simp <;> omega))) | with_reducible (first | apply Blk.allocp | apply Blk.drew | apply Blk.drewN)))) hc4
  obtain ⟨cM4, fM4, lM4, mM4, nM4⟩ := hM4.all5
  have hN4 : Blk v4 (v1.heap.size + 1 + 1 + 1) 27 #[.int .i64 n1, .int .i64 n2, .int .i64 n3, .int .i64 n4] := Blk.call (by (repeat (first | with_reducible assumption | (with_reducible apply Blk.new_at; (first | rfl | (simp; done))) | with_reducible (first | apply Blk.store3 | apply Blk.store4) | (with_reducible apply Blk.farp; (first | omega | (simp <;> omega))) | with_reducible (first | apply Blk.allocp | apply Blk.drew | apply Blk.drewN)))) hc4
  obtain ⟨cN4, fN4, lN4, mN4, nN4⟩ := hN4.all5
  have hJ4 : Blk v4 (v2.heap.size) 33 #[.int .i64 l, .int .i64 b, .int .i64 c] := Blk.call (by (repeat (first | with_reducible assumption | (with_reducible apply Blk.new_at; (first | rfl | (simp; done))) | with_reducible (first | apply Blk.store3 | apply Blk.store4) | (with_reducible apply Blk.farp; (first | omega | (simp <;> omega))) | with_reducible (first | apply Blk.allocp | apply Blk.drew | apply Blk.drewN)))) hc4
  obtain ⟨cJ4, fJ4, lJ4, mJ4, nJ4⟩ := hJ4.all5
  have hb4 : Below w.heap.size w v4 := (by repeat (first | with_reducible (first | exact Below.refl _ _ | assumption | apply Below.drew | apply below_drewN) | (with_reducible (first | apply below_setp | apply below_allocp); (first | omega | (simp <;> omega))) | (with_reducible refine below_viap (by assumption) ?_ ?_; (first | omega | (simp <;> omega)))))
  clear hF3 cF3 fF3 lF3 mF3 nF3 hG3 cG3 fG3 lG3 mG3 nG3 hR3 cR3 fR3 lR3 mR3 nR3 hA3 cA3 fA3 lA3 mA3 nA3 hE3 cE3 fE3 lE3 mE3 nE3 hM3 cM3 fM3 lM3 mM3 nM3 hN3 cN3 fN3 lN3 mN3 nN3 hJ3 cJ3 fJ3 lJ3 mJ3 nJ3
  have HI1 := Lib.hid (fun w => hI.out ⟨m1, m2, m3, m4⟩ w)
  have HI2 := Lib.hid (fun w => hI.out ⟨n1, n2, n3, n4⟩ w)
  dsimp only at HI1 HI2
  generalize invW ⟨m1, m2, m3, m4⟩ = mi at *
  generalize invW ⟨n1, n2, n3, n4⟩ = ni at *
  have HA1 := Lib.hid (fun w => cuAct1_any ⟨0, f.a, 1, 0, e, -b, 0, -c⟩ mi w)
  dsimp only at HA1
  generalize cuActF ⟨0, f.a, 1, 0, e, -b, 0, -c⟩ 0 mi = k1 at *
  have HA2 := Lib.hid (fun w => cuAct2_any k1 ni w)
  generalize cuActF k1 1 ni = k2 at *
  have HA3 := Lib.hid (fun w => cuAct3_any k2 ⟨p1, p2, p3, p4⟩ w)
  dsimp only at HA3
  generalize cuActF k2 2 ⟨p1, p2, p3, p4⟩ = k3 at *
  subst hK
  have k1' := K1.out
  have k2' := K2.out
  clear hI hU hJ hOp hRd
  go_upto_region 5 with (fail)
  clear k1' k2'
  generalize hw5 : ((v4.alloc (.cells #[.int .i64 rr.a, .int .i64 rr.b, .int .i64 rr.c] 33)).alloc (.cells #[.int .i64 p1, .int .i64 p2, .int .i64 p3, .int .i64 p4] 27)).alloc (.cells #[.int .i64 0, .int .i64 f.a, .int .i64 1, .int .i64 0, .int .i64 e, .int .i64 (-b), .int .i64 0, .int .i64 (-c)] 25) = v5
  have hR5 : Blk v5 (w.heap.size + 1 + 1) 25 #[.int .i64 0, .int .i64 0, .int .i64 0, .int .i64 0, .int .i64 0, .int .i64 0, .int .i64 0, .int .i64 0] := by rw [← hw5]; (repeat (first | with_reducible assumption | (with_reducible apply Blk.new_at; (first | rfl | (simp; done))) | with_reducible (first | apply Blk.store3 | apply Blk.store4) | (with_reducible apply Blk.farp; (first | omega | (simp <;> omega))) | with_reducible (first | apply Blk.allocp | apply Blk.drew | apply Blk.drewN)))
  obtain ⟨cR5, fR5, lR5, mR5, nR5⟩ := hR5.all5
  have hM5 : Blk v5 (v1.heap.size + 1 + 1) 27 #[.int .i64 m1, .int .i64 m2, .int .i64 m3, .int .i64 m4] := by rw [← hw5]; (repeat (first | with_reducible assumption | (with_reducible apply Blk.new_at; (first | rfl | (simp; done))) | with_reducible (first | apply Blk.store3 | apply Blk.store4) | (with_reducible apply Blk.farp; (first | omega | (simp <;> omega))) | with_reducible (first | apply Blk.allocp | apply Blk.drew | apply Blk.drewN)))
  obtain ⟨cM5, fM5, lM5, mM5, nM5⟩ := hM5.all5
  have hN5 : Blk v5 (v1.heap.size + 1 + 1 + 1) 27 #[.int .i64 n1, .int .i64 n2, .int .i64 n3, .int .i64 n4] := by rw [← hw5]; (repeat (first | with_reducible assumption | (with_reducible apply Blk.new_at; (first | rfl | (simp; done))) | with_reducible (first | apply Blk.store3 | apply Blk.store4) | (with_reducible apply Blk.farp; (first | omega | (simp <;> omega))) | with_reducible (first | apply Blk.allocp | apply Blk.drew | apply Blk.drewN)))
  obtain ⟨cN5, fN5, lN5, mN5, nN5⟩ := hN5.all5
  have hL5 : Blk v5 (v4.heap.size + 1) 27 #[.int .i64 p1, .int .i64 p2, .int .i64 p3, .int .i64 p4] := by rw [← hw5]; (repeat (first | with_reducible assumption | (with_reducible apply Blk.new_at; (first | rfl | (simp; done))) | with_reducible (first | apply Blk.store3 | apply Blk.store4) | (with_reducible apply Blk.farp; (first | omega | (simp <;> omega))) | with_reducible (first | apply Blk.allocp | apply Blk.drew | apply Blk.drewN)))
  obtain ⟨cL5, fL5, lL5, mL5, nL5⟩ := hL5.all5
  have hK5 : Blk v5 (v4.heap.size + 1 + 1) 25 #[.int .i64 0, .int .i64 f.a, .int .i64 1, .int .i64 0, .int .i64 e, .int .i64 (-b), .int .i64 0, .int .i64 (-c)] := by rw [← hw5]; (repeat (first | with_reducible assumption | (with_reducible apply Blk.new_at; (first | rfl | (simp; done))) | with_reducible (first | apply Blk.store3 | apply Blk.store4) | (with_reducible apply Blk.farp; (first | omega | (simp <;> omega))) | with_reducible (first | apply Blk.allocp | apply Blk.drew | apply Blk.drewN)))
  obtain ⟨cK5, fK5, lK5, mK5, nK5⟩ := hK5.all5
  have hb5 : Below w.heap.size w v5 := by rw [← hw5]; exact (by repeat (first | with_reducible (first | exact Below.refl _ _ | assumption | apply Below.drew | apply below_drewN) | (with_reducible (first | apply below_setp | apply below_allocp); (first | omega | (simp <;> omega))) | (with_reducible refine below_viap (by assumption) ?_ ?_; (first | omega | (simp <;> omega)))))
  have hz5 : v4.heap.size ≤ v5.heap.size := by rw [← hw5]; simp <;> omega
  clear hw5 hb4 hF4 cF4 fF4 lF4 mF4 nF4 hG4 cG4 fG4 lG4 mG4 nG4 hR4 cR4 fR4 lR4 mR4 nR4 hA4 cA4 fA4 lA4 mA4 nA4 hE4 cE4 fE4 lE4 mE4 nE4 hM4 cM4 fM4 lM4 mM4 nM4 hN4 cN4 fN4 lN4 mN4 nN4 hJ4 cJ4 fJ4 lJ4 mJ4 nJ4
  refine wp_region_calm 9 (Below (v5.heap.size) _) (by kernel_rfl) (by kernel_rfl) ((Below.refl _ _).drew) ?_
  simp only [List.take_succ_cons, List.take_zero, List.drop_succ_cons, List.drop_zero]
  repeat (first | (apply wpCalm_go; go_simp; (intro w' hw' hcc hff; go_simp; first | exact rfl | ((with_reducible refine (HI1.out _).mono ?_); rintro ee w1 ⟨rfl, hb⟩; exact ⟨rfl, calm_call (by simp <;> omega) hw' hb⟩) | ((with_reducible refine (HI2.out _).mono ?_); rintro ee w1 ⟨rfl, hb⟩; exact ⟨rfl, calm_call (by simp <;> omega) hw' hb⟩) | ((with_reducible refine (HA1.out _).mono ?_); rintro ee w1 ⟨rfl, hb⟩; exact ⟨rfl, calm_call (by simp <;> omega) hw' hb⟩) | ((with_reducible refine (HA2.out _).mono ?_); rintro ee w1 ⟨rfl, hb⟩; exact ⟨rfl, calm_call (by simp <;> omega) hw' hb⟩) | ((with_reducible refine (HA3.out _).mono ?_); rintro ee w1 ⟨rfl, hb⟩; exact ⟨rfl, calm_call (by simp <;> omega) hw' hb⟩)); (intro K hK; go_simp; refine hK _ ?_; clear hK K)) | (apply wpCalm_skip; go_simp; (try (focus (simp [undef]; done))); (intro K hK; go_simp; refine hK _ ?_; clear hK K)))
  refine wpCalm_nil ?_
  intro w1 hw1
  have hcc := (calm_cells hw1).1
  have hff := (calm_cells hw1).2
  have hss := calm_size hw1
  have hsz := hw1.size
  (try simp at hsz)
  have hR9 : Blk w1 (w.heap.size + 1 + 1) 25 #[.int .i64 0, .int .i64 0, .int .i64 0, .int .i64 0, .int .i64 0, .int .i64 0, .int .i64 0, .int .i64 0] := Blk.below hR5 hw1 (by omega)
  have cR9 := hR9.cell; have fR9 := hR9.frozen; have lR9 := hR9.lt
  clear hcc hff hss
  go_wp2
  exact bodyPost_ret (v := .agg #[.int .i64 k3.a, .int .i64 k3.b, .int .i64 k3.c, .int .i64 k3.d, .int .i64 k3.e, .int .i64 k3.f, .int .i64 k3.g, .int .i64 k3.h]) (by simp [results, Tryz.results49, go_sem, *]) rfl ⟨rfl, (by repeat (first | with_reducible (first | exact Below.refl _ _ | assumption | apply Below.drew | apply below_drewN) | (with_reducible (first | apply below_setp | apply below_allocp); (first | omega | (simp <;> omega))) | (with_reducible refine below_viap (by assumption) ?_ ?_; (first | omega | (simp <;> omega)))))⟩
end Go.Proofs.YtlcegkafagdcjaaGreatDoor
