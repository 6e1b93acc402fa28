/- Parts FM FY laid together by tp.py. -/
import Derived.Test.YtlcegkafagdcjaaGreatDoorFH
import Derived.Test.YtlcegkafagdcjaaGreatDoorXK
import Derived.Test.YtlcegkafagdcjaaGreatDoorUB
import Derived.Test.YtlcegkafagdcjaaGreatDoorU6
import Derived.Deep.RegionHeld3
import Derived.Test.YtlcegkafagdcjaaGreatDoorXL
namespace Go.Proofs.YtlcegkafagdcjaaGreatDoor
section
open Go.RowKit

theorem invW_cg {m n : M4} (h : CgM m n) : invW m = invW n := by
  have hd : Cg (detW m) (detW n) := ((((h.p.mul h.s).wr).sub ((h.q.mul h.r).wr)).wr).trans (((((Cg.refl n.p).mul (Cg.refl n.s)).wr).sub (((Cg.refl n.q).mul (Cg.refl n.r)).wr)).wr).symm
  unfold invW
  have one : ∀ {x y : Int}, Cg x y → wrap64 (detW m * x) = wrap64 (detW n * y) := fun {x y} hx => (hd.mul hx).wrEq
  have neg : ∀ {x y : Int}, Cg x y → wrap64 (wrap64 (-detW m) * x) = wrap64 (wrap64 (-detW n) * y) := fun {x y} hx => by
    rw [(hd.neg).wrEq]
    exact ((Cg.refl _).mul hx).wrEq
  rw [one h.s, neg h.q, neg h.r, one h.p]
theorem M4.mul_assoc (a b c : M4) : (a.mul b).mul c = a.mul (b.mul c) := by
  unfold M4.mul
  simp only [M4.mk.injEq]
  refine ⟨by grind, by grind, by grind, by grind⟩
theorem mmM_assoc (a b c : M4) : invW (mmM (mmM a b) c) = invW (mmM a (mmM b c)) := by
  refine invW_cg ?_
  have h1 : CgM (mmM (mmM a b) c) ((a.mul b).mul c) := cg_mmM (cg_mmM (.refl a) (.refl b)) (.refl c)
  have h2 : CgM (mmM a (mmM b c)) (a.mul (b.mul c)) := cg_mmM (.refl a) (cg_mmM (.refl b) (.refl c))
  rw [M4.mul_assoc] at h1
  exact ⟨h1.p.trans h2.p.symm, h1.q.trans h2.q.symm, h1.r.trans h2.r.symm, h1.s.trans h2.s.symm⟩
set_option maxRecDepth 100000 in
set_option maxHeartbeats 6400000 in
theorem invI_any (m : M4) (w : World) : Calls Tryz.prog 48 #[.agg #[.int .i64 m.p, .int .i64 m.q, .int .i64 m.r, .int .i64 m.s]] w fun e w' => e = .returned (.agg #[.int .i64 (invW m).p, .int .i64 (invW m).q, .int .i64 (invW m).r, .int .i64 (invW m).s]) ∧ Below w.heap.size w w' := by
  have hD := Lib.hid (fun w => detI_any m w)
  unfold invW
  generalize detW m = D at *
  go_enter Tryz.func48, Tryz.ntmps48
  go_wp2_with (go_at_call 60; (with_reducible refine (hD.out _).mono ?_); rintro e v1 ⟨rfl, hB1⟩; have hZ1 := hB1.size; (try simp at hZ1); (try have zl1 : w.heap.size < v1.heap.size := by omega); (try have ze1 : w.heap.size ≤ v1.heap.size := by omega); (try have zn1 : ¬ w.heap.size = v1.heap.size := by omega); (try have zm1 : ¬ v1.heap.size = w.heap.size := by omega); have hX1 : Blk v1 (w.heap.size) 27 #[.int .i64 m.p, .int .i64 m.q, .int .i64 m.r, .int .i64 m.s] := Blk.call (by (repeat (first | with_reducible assumption | (with_reducible apply Blk.new_at; (first | rfl | (simp; done))) | with_reducible (first | apply Blk.store3 | apply Blk.store4) | (with_reducible apply Blk.farp; (first | omega | (simp <;> omega))) | with_reducible (first | apply Blk.allocp | apply Blk.drew | apply Blk.drewN)))) hB1; obtain ⟨cX1, fX1, lX1, mX1, nX1⟩ := hX1.all5; have hR1 : Blk v1 (w.heap.size + 1) 27 #[.int .i64 0, .int .i64 0, .int .i64 0, .int .i64 0] := Blk.call (by (repeat (first | with_reducible assumption | (with_reducible apply Blk.new_at; (first | rfl | (simp; done))) | with_reducible (first | apply Blk.store3 | apply Blk.store4) | (with_reducible apply Blk.farp; (first | omega | (simp <;> omega))) | with_reducible (first | apply Blk.allocp | apply Blk.drew | apply Blk.drewN)))) hB1; obtain ⟨cR1, fR1, lR1, mR1, nR1⟩ := hR1.all5)
  exact bodyPost_ret (v := .agg #[.int .i64 (wrap64 (D * m.s)), .int .i64 (wrap64 (wrap64 (-D) * m.q)), .int .i64 (wrap64 (wrap64 (-D) * m.r)), .int .i64 (wrap64 (D * m.p))]) (by simp [results, Tryz.results48, go_sem, *]) rfl ⟨rfl, (by repeat (first | with_reducible (first | exact Below.refl _ _ | assumption | apply Below.drew | apply below_drewN) | (with_reducible (first | apply below_setp | apply below_allocp); (first | omega | (simp <;> omega))) | (with_reducible refine below_viap (by assumption) ?_ ?_; (first | omega | (simp <;> omega)))))⟩
set_option maxRecDepth 100000 in
set_option maxHeartbeats 6400000 in
theorem oppX_any (a b c : Int) (w : World) (h : wrap64 (-b) = -b) : Calls Tryz.prog 46 #[.agg #[.int .i64 a, .int .i64 b, .int .i64 c]] w fun e w' => e = .returned (.agg #[.int .i64 a, .int .i64 (-b), .int .i64 c]) ∧ Below w.heap.size w w' := by
  go_enter Tryz.func46, Tryz.ntmps46
  go_wp2
  exact bodyPost_ret (v := .agg #[.int .i64 a, .int .i64 (-b), .int .i64 c]) (by simp [results, Tryz.results46, go_sem, *]) rfl ⟨rfl, (by repeat (first | with_reducible (first | exact Below.refl _ _ | assumption | apply Below.drew | apply below_drewN) | (with_reducible (first | apply below_setp | apply below_allocp); (first | omega | (simp <;> omega))) | (with_reducible refine below_viap (by assumption) ?_ ?_; (first | omega | (simp <;> omega)))))⟩
set_option maxRecDepth 100000 in
set_option maxHeartbeats 6400000 in
theorem implCO_gen (d : Int) (f0 g0 f g : Fm) (x y S Q T e h k b c t1 t2 : Int) (w : World) (u : UD d f g x y S Q T e h k b c t1 t2) (hp : pairB f0 g0 = true) (hf0 : Def 1000000 f0) (hg0 : Def 1000000 g0) (hrf : red f0 = f) (hrg : red g0 = g) (K : Cu)
    (hK : cuMk f.a b c e (mmM (redM f0 M4.one) (shM t1)) (mmM (mmM (redM g0 M4.one) ⟨x, Q + T * x, y, S + T * y⟩) (shM t2)) (redM ⟨f.a * e, -b, c⟩ M4.one) = K) (E : Cu) (ans : Bool) (hc : ∀ w, Calls Tryz.prog 27 #[.agg #[.int .i64 K.a, .int .i64 K.b, .int .i64 K.c, .int .i64 K.d, .int .i64 K.e, .int .i64 K.f, .int .i64 K.g, .int .i64 K.h]] w fun e w' => e = .returned (.tuple #[.agg #[.int .i64 E.a, .int .i64 E.b, .int .i64 E.c, .int .i64 E.d, .int .i64 E.e, .int .i64 E.f, .int .i64 E.g, .int .i64 E.h], .bool ans]) ∧ Below w.heap.size w w') : Calls Tryz.prog 14 #[.agg #[.int .i64 f0.a, .int .i64 f0.b, .int .i64 f0.c], .agg #[.int .i64 g0.a, .int .i64 g0.b, .int .i64 g0.c]] w fun e w' => e = .returned (.tuple #[.agg #[.int .i64 E.a, .int .i64 E.b, .int .i64 E.c, .int .i64 E.d, .int .i64 E.e, .int .i64 E.f, .int .i64 E.g, .int .i64 E.h], .bool ans]) ∧ Below w.heap.size w w' := by
  have hP := Lib.hid (fun w => arePair_any f0 g0 w)
  rw [hp] at hP
  unfold cuMk at hK
  rw [mmM_assoc] at hK
  have hRf := Lib.hid (fun w => reduce_m f0 w hf0)
  have hRg := Lib.hid (fun w => reduce_m g0 w hg0)
  have hU := Lib.hid (fun w => unite_any d f g x y S Q T e h k b c t1 t2 w u)
  have hRd0 := u.dfo
  obtain ⟨ae1, ae2⟩ := u.ae
  obtain ⟨c1, c2⟩ := u.c_bd
  have b1 := u.b0; have b2 := u.b1
  have K1 := Lib.hid (show wrap64 (-b) = -b from IntWalk.wrap64_in _ (by omega))
  have K2 := Lib.hid (show wrap64 (-c) = -c from IntWalk.wrap64_in _ (by omega))
  have hRd := Lib.hid (fun w => reduce_m ⟨f.a * e, -b, c⟩ w hRd0)
  have hCm := Lib.hid (fun m1 m2 m3 m4 n1 n2 n3 n4 w => composite_any f.a e b c m1 m2 m3 m4 n1 n2 n3 n4 w ⟨by omega, by omega⟩)
  have hOp := Lib.hid (fun w => oppX_any (f.a * e) b c w K1.out)
  dsimp only at hRd
  unfold RetRM at hRf hRg hRd
  rw [hrf] at hRf
  rw [hrg] at hRg
  generalize redM f0 M4.one = P at *
  generalize redM g0 M4.one = R at *
  generalize red ⟨f.a * e, -b, c⟩ = rr at *
  generalize redM ⟨f.a * e, -b, c⟩ M4.one = L at *
  have hT1 := Lib.hid (fun w => times_any P.p P.q P.r P.s 1 t1 0 1 w)
  have hT2 := Lib.hid (fun w => times_any R.p R.q R.r R.s (mm x 1 (Q + T * x) 0) (mm x t2 (Q + T * x) 1) (mm y 1 (S + T * y) 0) (mm y t2 (S + T * y) 1) w)
  have eM : mmM P (shM t1) = ⟨mm P.p 1 P.q 0, mm P.p t1 P.q 1, mm P.r 1 P.s 0, mm P.r t1 P.s 1⟩ := rfl
  obtain ⟨Y, hY⟩ : ∃ Y, mmM ⟨x, Q + T * x, y, S + T * y⟩ (shM t2) = Y := ⟨_, rfl⟩
  have eY : (⟨mm x 1 (Q + T * x) 0, mm x t2 (Q + T * x) 1, mm y 1 (S + T * y) 0, mm y t2 (S + T * y) 1⟩ : M4) = Y := hY
  have y1 : mm x 1 (Q + T * x) 0 = Y.p := congrArg M4.p eY
  have y2 : mm x t2 (Q + T * x) 1 = Y.q := congrArg M4.q eY
  have y3 : mm y 1 (S + T * y) 0 = Y.r := congrArg M4.r eY
  have y4 : mm y t2 (S + T * y) 1 = Y.s := congrArg M4.s eY
  have eN : mmM R Y = ⟨mm R.p Y.p R.q Y.r, mm R.p Y.q R.q Y.s, mm R.r Y.p R.s Y.r, mm R.r Y.q R.s Y.s⟩ := rfl
  rw [hY, eM, eN] at hK
  rw [y1, y2, y3, y4] at hU hT2
  clear hY eY eM eN y1 y2 y3 y4 u hp hf0 hg0 hrf hrg hRd0 ae1 ae2 c1 c2 b1 b2
  generalize mm P.p 1 P.q 0 = m1 at *
  generalize mm P.p t1 P.q 1 = m2 at *
  generalize mm P.r 1 P.s 0 = m3 at *
  generalize mm P.r t1 P.s 1 = m4 at *
  generalize mm R.p Y.p R.q Y.r = n1 at *
  generalize mm R.p Y.q R.q Y.s = n2 at *
  generalize mm R.r Y.p R.s Y.r = n3 at *
  generalize mm R.r Y.q R.s Y.s = n4 at *
  have hI1 := Lib.hid (fun w => invI_any ⟨m1, m2, m3, m4⟩ w)
  have hI2 := Lib.hid (fun w => invI_any ⟨n1, n2, n3, n4⟩ w)
  dsimp only at hI1 hI2
  unfold cuK at hK
  generalize invW ⟨m1, m2, m3, m4⟩ = mi at *
  generalize invW ⟨n1, n2, n3, n4⟩ = ni at *
  have hA1 := Lib.hid (fun w => act1_any ⟨0, f.a, 1, 0, e, -b, 0, -c⟩ mi w)
  dsimp only at hA1
  generalize cuActF ⟨0, f.a, 1, 0, e, -b, 0, -c⟩ 0 mi = k1 at *
  have hA2 := Lib.hid (fun w => act2_any k1 ni w)
  generalize cuActF k1 1 ni = k2 at *
  have hA3 := Lib.hid (fun w => act3_any k2 L w)
  rw [hK] at hA3
  have hQ := Lib.hid hc
  clear hK hc
  have hCo := Lib.hid (hCm.out 1 t1 0 1 Y.p Y.q Y.r Y.s)
  clear hCm
  generalize f.a * e = l at *
  have k1' := K1.out
  have k2' := K2.out
  go_enter Tryz.func14, Tryz.ntmps14
  go_wp2_with fail
  refine (hP.out _).mono ?_
  rintro e v1 ⟨rfl, hc1⟩
  have hz1 := hc1.size
  (try simp at hz1)
  have hF1 : Blk v1 (w.heap.size) 33 #[.int .i64 f0.a, .int .i64 f0.b, .int .i64 f0.c] := Blk.call (by (repeat (first | with_reducible assumption | (with_reducible apply Blk.new_at; (first | rfl | (simp; done))) | with_reducible (first | apply Blk.store3 | apply Blk.store4) | (with_reducible apply Blk.farp; (first | omega | (simp <;> omega))) | with_reducible (first | apply Blk.allocp | apply Blk.drew | apply Blk.drewN)))) hc1
  obtain ⟨cF1, fF1, lF1, mF1, nF1⟩ := hF1.all5
  have hG1 : Blk v1 (w.heap.size + 1) 33 #[.int .i64 g0.a, .int .i64 g0.b, .int .i64 g0.c] := Blk.call (by (repeat (first | with_reducible assumption | (with_reducible apply Blk.new_at; (first | rfl | (simp; done))) | with_reducible (first | apply Blk.store3 | apply Blk.store4) | (with_reducible apply Blk.farp; (first | omega | (simp <;> omega))) | with_reducible (first | apply Blk.allocp | apply Blk.drew | apply Blk.drewN)))) hc1
  obtain ⟨cG1, fG1, lG1, mG1, nG1⟩ := hG1.all5
  have hR1 : Blk v1 (w.heap.size + 1 + 1) 25 #[.int .i64 0, .int .i64 0, .int .i64 0, .int .i64 0, .int .i64 0, .int .i64 0, .int .i64 0, .int .i64 0] := Blk.call (by (repeat (first | with_reducible assumption | (with_reducible apply Blk.new_at; (first | rfl | (simp; done))) | with_reducible (first | apply Blk.store3 | apply Blk.store4) | (with_reducible apply Blk.farp; (first | omega | (simp <;> omega))) | with_reducible (first | apply Blk.allocp | apply Blk.drew | apply Blk.drewN)))) hc1
  obtain ⟨cR1, fR1, lR1, mR1, nR1⟩ := hR1.all5
  have hb1 : Below w.heap.size w v1 := (by repeat (first | with_reducible (first | exact Below.refl _ _ | assumption | apply Below.drew | apply below_drewN) | (with_reducible (first | apply below_setp | apply below_allocp); (first | omega | (simp <;> omega))) | (with_reducible refine below_viap (by assumption) ?_ ?_; (first | omega | (simp <;> omega)))))
  go_wp2_with fail
  refine (hRf.out _).mono ?_
  rintro e v2 ⟨rfl, hc2⟩
  have hz2 := hc2.size
  (try simp at hz2)
  have hF2 : Blk v2 (w.heap.size) 33 #[.int .i64 f0.a, .int .i64 f0.b, .int .i64 f0.c] := Blk.call (by (repeat (first | with_reducible assumption | (with_reducible apply Blk.new_at; (first | rfl | (simp; done))) | with_reducible (first | apply Blk.store3 | apply Blk.store4) | (with_reducible apply Blk.farp; (first | omega | (simp <;> omega))) | with_reducible (first | apply Blk.allocp | apply Blk.drew | apply Blk.drewN)))) hc2
  obtain ⟨cF2, fF2, lF2, mF2, nF2⟩ := hF2.all5
  have hG2 : Blk v2 (w.heap.size + 1) 33 #[.int .i64 g0.a, .int .i64 g0.b, .int .i64 g0.c] := Blk.call (by (repeat (first | with_reducible assumption | (with_reducible apply Blk.new_at; (first | rfl | (simp; done))) | with_reducible (first | apply Blk.store3 | apply Blk.store4) | (with_reducible apply Blk.farp; (first | omega | (simp <;> omega))) | with_reducible (first | apply Blk.allocp | apply Blk.drew | apply Blk.drewN)))) hc2
  obtain ⟨cG2, fG2, lG2, mG2, nG2⟩ := hG2.all5
  have hR2 : Blk v2 (w.heap.size + 1 + 1) 25 #[.int .i64 0, .int .i64 0, .int .i64 0, .int .i64 0, .int .i64 0, .int .i64 0, .int .i64 0, .int .i64 0] := Blk.call (by (repeat (first | with_reducible assumption | (with_reducible apply Blk.new_at; (first | rfl | (simp; done))) | with_reducible (first | apply Blk.store3 | apply Blk.store4) | (with_reducible apply Blk.farp; (first | omega | (simp <;> omega))) | with_reducible (first | apply Blk.allocp | apply Blk.drew | apply Blk.drewN)))) hc2
  obtain ⟨cR2, fR2, lR2, mR2, nR2⟩ := hR2.all5
  have hb2 : Below w.heap.size w v2 := (by repeat (first | with_reducible (first | exact Below.refl _ _ | assumption | apply Below.drew | apply below_drewN) | (with_reducible (first | apply below_setp | apply below_allocp); (first | omega | (simp <;> omega))) | (with_reducible refine below_viap (by assumption) ?_ ?_; (first | omega | (simp <;> omega)))))
  clear hF1 cF1 fF1 lF1 mF1 nF1 hG1 cG1 fG1 lG1 mG1 nG1 hR1 cR1 fR1 lR1 mR1 nR1
  go_wp2_with fail
  refine (hRg.out _).mono ?_
  rintro e v3 ⟨rfl, hc3⟩
  have hz3 := hc3.size
  (try simp at hz3)
  have hF3 : Blk v3 (w.heap.size) 33 #[.int .i64 f0.a, .int .i64 f0.b, .int .i64 f0.c] := Blk.call (by (repeat (first | with_reducible assumption | (with_reducible apply Blk.new_at; (first | rfl | (simp; done))) | with_reducible (first | apply Blk.store3 | apply Blk.store4) | (with_reducible apply Blk.farp; (first | omega | (simp <;> omega))) | with_reducible (first | apply Blk.allocp | apply Blk.drew | apply Blk.drewN)))) hc3
  obtain ⟨cF3, fF3, lF3, mF3, nF3⟩ := hF3.all5
  have hG3 : Blk v3 (w.heap.size + 1) 33 #[.int .i64 g0.a, .int .i64 g0.b, .int .i64 g0.c] := Blk.call (by (repeat (first | with_reducible assumption | (with_reducible apply Blk.new_at; (first | rfl | (simp; done))) | with_reducible (first | apply Blk.store3 | apply Blk.store4) | (with_reducible apply Blk.farp; (first | omega | (simp <;> omega))) | with_reducible (first | apply Blk.allocp | apply Blk.drew | apply Blk.drewN)))) hc3
  obtain ⟨cG3, fG3, lG3, mG3, nG3⟩ := hG3.all5
  have hR3 : Blk v3 (w.heap.size + 1 + 1) 25 #[.int .i64 0, .int .i64 0, .int .i64 0, .int .i64 0, .int .i64 0, .int .i64 0, .int .i64 0, .int .i64 0] := Blk.call (by (repeat (first | with_reducible assumption | (with_reducible apply Blk.new_at; (first | rfl | (simp; done))) | with_reducible (first | apply Blk.store3 | apply Blk.store4) | (with_reducible apply Blk.farp; (first | omega | (simp <;> omega))) | with_reducible (first | apply Blk.allocp | apply Blk.drew | apply Blk.drewN)))) hc3
  obtain ⟨cR3, fR3, lR3, mR3, nR3⟩ := hR3.all5
  have hA3 : Blk v3 (v2.heap.size) 33 #[.int .i64 f.a, .int .i64 f.b, .int .i64 f.c] := Blk.call (by (repeat (first | with_reducible assumption | (with_reducible apply Blk.new_at; (first | rfl | (simp; done))) | with_reducible (first | apply Blk.store3 | apply Blk.store4) | (with_reducible apply Blk.farp; (first | omega | (simp <;> omega))) | with_reducible (first | apply Blk.allocp | apply Blk.drew | apply Blk.drewN)))) hc3
  obtain ⟨cA3, fA3, lA3, mA3, nA3⟩ := hA3.all5
  have hP3 : Blk v3 (v2.heap.size + 1) 27 #[.int .i64 P.p, .int .i64 P.q, .int .i64 P.r, .int .i64 P.s] := Blk.call (by (repeat (first | with_reducible assumption | (with_reducible apply Blk.new_at; (first | rfl | (simp; done))) | with_reducible (first | apply Blk.store3 | apply Blk.store4) | (with_reducible apply Blk.farp; (first | omega | (simp <;> omega))) | with_reducible (first | apply Blk.allocp | apply Blk.drew | apply Blk.drewN)))) hc3
  obtain ⟨cP3, fP3, lP3, mP3, nP3⟩ := hP3.all5
  have hb3 : Below w.heap.size w v3 := (by repeat (first | with_reducible (first | exact Below.refl _ _ | assumption | apply Below.drew | apply below_drewN) | (with_reducible (first | apply below_setp | apply below_allocp); (first | omega | (simp <;> omega))) | (with_reducible refine below_viap (by assumption) ?_ ?_; (first | omega | (simp <;> omega)))))
  clear hF2 cF2 fF2 lF2 mF2 nF2 hG2 cG2 fG2 lG2 mG2 nG2 hR2 cR2 fR2 lR2 mR2 nR2
  go_wp2_with fail
  refine (hU.out _).mono ?_
  rintro e v4 ⟨rfl, hc4⟩
  have hz4 := hc4.size
  (try simp at hz4)
  have hF4 : Blk v4 (w.heap.size) 33 #[.int .i64 f0.a, .int .i64 f0.b, .int .i64 f0.c] := Blk.call (by (repeat (first | with_reducible assumption | (with_reducible apply Blk.new_at; (first | rfl | (simp; done))) | with_reducible (first | apply Blk.store3 | apply Blk.store4) | (with_reducible apply Blk.farp; (first | omega | (simp <;> omega))) | with_reducible (first | apply Blk.allocp | apply Blk.drew | apply Blk.drewN)))) hc4
  obtain ⟨cF4, fF4, lF4, mF4, nF4⟩ := hF4.all5
  have hG4 : Blk v4 (w.heap.size + 1) 33 #[.int .i64 g0.a, .int .i64 g0.b, .int .i64 g0.c] := Blk.call (by (repeat (first | with_reducible assumption | (with_reducible apply Blk.new_at; (first | rfl | (simp; done))) | with_reducible (first | apply Blk.store3 | apply Blk.store4) | (with_reducible apply Blk.farp; (first | omega | (simp <;> omega))) | with_reducible (first | apply Blk.allocp | apply Blk.drew | apply Blk.drewN)))) hc4
  obtain ⟨cG4, fG4, lG4, mG4, nG4⟩ := hG4.all5
  have hR4 : Blk v4 (w.heap.size + 1 + 1) 25 #[.int .i64 0, .int .i64 0, .int .i64 0, .int .i64 0, .int .i64 0, .int .i64 0, .int .i64 0, .int .i64 0] := Blk.call (by (repeat (first | with_reducible assumption | (with_reducible apply Blk.new_at; (first | rfl | (simp; done))) | with_reducible (first | apply Blk.store3 | apply Blk.store4) | (with_reducible apply Blk.farp; (first | omega | (simp <;> omega))) | with_reducible (first | apply Blk.allocp | apply Blk.drew | apply Blk.drewN)))) hc4
  obtain ⟨cR4, fR4, lR4, mR4, nR4⟩ := hR4.all5
  have hA4 : Blk v4 (v2.heap.size) 33 #[.int .i64 f.a, .int .i64 f.b, .int .i64 f.c] := Blk.call (by (repeat (first | with_reducible assumption | (with_reducible apply Blk.new_at; (first | rfl | (simp; done))) | with_reducible (first | apply Blk.store3 | apply Blk.store4) | (with_reducible apply Blk.farp; (first | omega | (simp <;> omega))) | with_reducible (first | apply Blk.allocp | apply Blk.drew | apply Blk.drewN)))) hc4
  obtain ⟨cA4, fA4, lA4, mA4, nA4⟩ := hA4.all5
  have hP4 : Blk v4 (v2.heap.size + 1) 27 #[.int .i64 P.p, .int .i64 P.q, .int .i64 P.r, .int .i64 P.s] := Blk.call (by (repeat (first | with_reducible assumption | (with_reducible apply Blk.new_at; (first | rfl | (simp; done))) | with_reducible (first | apply Blk.store3 | apply Blk.store4) | (with_reducible apply Blk.farp; (first | omega | (simp <;> omega))) | with_reducible (first | apply Blk.allocp | apply Blk.drew | apply Blk.drewN)))) hc4
  obtain ⟨cP4, fP4, lP4, mP4, nP4⟩ := hP4.all5
  have hB4 : Blk v4 (v3.heap.size) 33 #[.int .i64 g.a, .int .i64 g.b, .int .i64 g.c] := Blk.call (by (repeat (first | with_reducible assumption | (with_reducible apply Blk.new_at; (first | rfl | (simp; done))) | with_reducible (first | apply Blk.store3 | apply Blk.store4) | (with_reducible apply Blk.farp; (first | omega | (simp <;> omega))) | with_reducible (first | apply Blk.allocp | apply Blk.drew | apply Blk.drewN)))) hc4
  obtain ⟨cB4, fB4, lB4, mB4, nB4⟩ := hB4.all5
  have hQ4 : Blk v4 (v3.heap.size + 1) 27 #[.int .i64 R.p, .int .i64 R.q, .int .i64 R.r, .int .i64 R.s] := Blk.call (by (repeat (first | with_reducible assumption | (with_reducible apply Blk.new_at; (first | rfl | (simp; done))) | with_reducible (first | apply Blk.store3 | apply Blk.store4) | (with_reducible apply Blk.farp; (first | omega | (simp <;> omega))) | with_reducible (first | apply Blk.allocp | apply Blk.drew | apply Blk.drewN)))) hc4
  obtain ⟨cQ4, fQ4, lQ4, mQ4, nQ4⟩ := hQ4.all5
  have hb4 : Below w.heap.size w v4 := (by repeat (first | with_reducible (first | exact Below.refl _ _ | assumption | apply Below.drew | apply below_drewN) | (with_reducible (first | apply below_setp | apply below_allocp); (first | omega | (simp <;> omega))) | (with_reducible refine below_viap (by assumption) ?_ ?_; (first | omega | (simp <;> omega)))))
  clear hF3 cF3 fF3 lF3 mF3 nF3 hG3 cG3 fG3 lG3 mG3 nG3 hR3 cR3 fR3 lR3 mR3 nR3 hA3 cA3 fA3 lA3 mA3 nA3 hP3 cP3 fP3 lP3 mP3 nP3
  go_wp2_with fail
  refine (hCo.out _).mono ?_
  rintro e v5 ⟨rfl, hc5⟩
  have hz5 := hc5.size
  (try simp at hz5)
  have hF5 : Blk v5 (w.heap.size) 33 #[.int .i64 f0.a, .int .i64 f0.b, .int .i64 f0.c] := Blk.call (by (repeat (first | with_reducible assumption | (with_reducible apply Blk.new_at; (first | rfl | (simp; done))) | with_reducible (first | apply Blk.store3 | apply Blk.store4) | (with_reducible apply Blk.farp; (first | omega | (simp <;> omega))) | with_reducible (first | apply Blk.allocp | apply Blk.drew | apply Blk.drewN)))) hc5
  obtain ⟨cF5, fF5, lF5, mF5, nF5⟩ := hF5.all5
  have hG5 : Blk v5 (w.heap.size + 1) 33 #[.int .i64 g0.a, .int .i64 g0.b, .int .i64 g0.c] := Blk.call (by (repeat (first | with_reducible assumption | (with_reducible apply Blk.new_at; (first | rfl | (simp; done))) | with_reducible (first | apply Blk.store3 | apply Blk.store4) | (with_reducible apply Blk.farp; (first | omega | (simp <;> omega))) | with_reducible (first | apply Blk.allocp | apply Blk.drew | apply Blk.drewN)))) hc5
  obtain ⟨cG5, fG5, lG5, mG5, nG5⟩ := hG5.all5
  have hR5 : Blk v5 (w.heap.size + 1 + 1) 25 #[.int .i64 0, .int .i64 0, .int .i64 0, .int .i64 0, .int .i64 0, .int .i64 0, .int .i64 0, .int .i64 0] := Blk.call (by (repeat (first | with_reducible assumption | (with_reducible apply Blk.new_at; (first | rfl | (simp; done))) | with_reducible (first | apply Blk.store3 | apply Blk.store4) | (with_reducible apply Blk.farp; (first | omega | (simp <;> omega))) | with_reducible (first | apply Blk.allocp | apply Blk.drew | apply Blk.drewN)))) hc5
  obtain ⟨cR5, fR5, lR5, mR5, nR5⟩ := hR5.all5
  have hA5 : Blk v5 (v2.heap.size) 33 #[.int .i64 f.a, .int .i64 f.b, .int .i64 f.c] := Blk.call (by (repeat (first | with_reducible assumption | (with_reducible apply Blk.new_at; (first | rfl | (simp; done))) | with_reducible (first | apply Blk.store3 | apply Blk.store4) | (with_reducible apply Blk.farp; (first | omega | (simp <;> omega))) | with_reducible (first | apply Blk.allocp | apply Blk.drew | apply Blk.drewN)))) hc5
  obtain ⟨cA5, fA5, lA5, mA5, nA5⟩ := hA5.all5
  have hP5 : Blk v5 (v2.heap.size + 1) 27 #[.int .i64 P.p, .int .i64 P.q, .int .i64 P.r, .int .i64 P.s] := Blk.call (by (repeat (first | with_reducible assumption | (with_reducible apply Blk.new_at; (first | rfl | (simp; done))) | with_reducible (first | apply Blk.store3 | apply Blk.store4) | (with_reducible apply Blk.farp; (first | omega | (simp <;> omega))) | with_reducible (first | apply Blk.allocp | apply Blk.drew | apply Blk.drewN)))) hc5
  obtain ⟨cP5, fP5, lP5, mP5, nP5⟩ := hP5.all5
  have hB5 : Blk v5 (v3.heap.size) 33 #[.int .i64 g.a, .int .i64 g.b, .int .i64 g.c] := Blk.call (by (repeat (first | with_reducible assumption | (with_reducible apply Blk.new_at; (first | rfl | (simp; done))) | with_reducible (first | apply Blk.store3 | apply Blk.store4) | (with_reducible apply Blk.farp; (first | omega | (simp <;> omega))) | with_reducible (first | apply Blk.allocp | apply Blk.drew | apply Blk.drewN)))) hc5
  obtain ⟨cB5, fB5, lB5, mB5, nB5⟩ := hB5.all5
  have hQ5 : Blk v5 (v3.heap.size + 1) 27 #[.int .i64 R.p, .int .i64 R.q, .int .i64 R.r, .int .i64 R.s] := Blk.call (by (repeat (first | with_reducible assumption | (with_reducible apply Blk.new_at; (first | rfl | (simp; done))) | with_reducible (first | apply Blk.store3 | apply Blk.store4) | (with_reducible apply Blk.farp; (first | omega | (simp <;> omega))) | with_reducible (first | apply Blk.allocp | apply Blk.drew | apply Blk.drewN)))) hc5
  obtain ⟨cQ5, fQ5, lQ5, mQ5, nQ5⟩ := hQ5.all5
  have hU5 : Blk v5 (v4.heap.size) 78 #[.int .i64 f.a, .int .i64 e, .int .i64 b, .int .i64 c, .int .i64 1, .int .i64 t1, .int .i64 0, .int .i64 1, .int .i64 Y.p, .int .i64 Y.q, .int .i64 Y.r, .int .i64 Y.s] := Blk.call (by (repeat (first | with_reducible assumption | (with_reducible apply Blk.new_at; (first | rfl | (simp; done))) | with_reducible (first | apply Blk.store3 | apply Blk.store4) | (with_reducible apply Blk.farp; (first | omega | (simp <;> omega))) | with_reducible (first | apply Blk.allocp | apply Blk.drew | apply Blk.drewN)))) hc5
  obtain ⟨cU5, fU5, lU5, mU5, nU5⟩ := hU5.all5
  have hb5 : Below w.heap.size w v5 := (by repeat (first | with_reducible (first | exact Below.refl _ _ | assumption | apply Below.drew | apply below_drewN) | (with_reducible (first | apply below_setp | apply below_allocp); (first | omega | (simp <;> omega))) | (with_reducible refine below_viap (by assumption) ?_ ?_; (first | omega | (simp <;> omega)))))
  clear hF4 cF4 fF4 lF4 mF4 nF4 hG4 cG4 fG4 lG4 mG4 nG4 hR4 cR4 fR4 lR4 mR4 nR4 hA4 cA4 fA4 lA4 mA4 nA4 hP4 cP4 fP4 lP4 mP4 nP4 hB4 cB4 fB4 lB4 mB4 nB4 hQ4 cQ4 fQ4 lQ4 mQ4 nQ4
  go_wp2_with fail
  refine (hOp.out _).mono ?_
  rintro e v6 ⟨rfl, hc6⟩
  have hz6 := hc6.size
  (try simp at hz6)
  have hF6 : Blk v6 (w.heap.size) 33 #[.int .i64 f0.a, .int .i64 f0.b, .int .i64 f0.c] := Blk.call (by (repeat (first | with_reducible assumption | (with_reducible apply Blk.new_at; (first | rfl | (simp; done))) | with_reducible (first | apply Blk.store3 | apply Blk.store4) | (with_reducible apply Blk.farp; (first | omega | (simp <;> omega))) | with_reducible (first | apply Blk.allocp | apply Blk.drew | apply Blk.drewN)))) hc6
  obtain ⟨cF6, fF6, lF6, mF6, nF6⟩ := hF6.all5
  have hG6 : Blk v6 (w.heap.size + 1) 33 #[.int .i64 g0.a, .int .i64 g0.b, .int .i64 g0.c] := Blk.call (by (repeat (first | with_reducible assumption | (with_reducible apply Blk.new_at; (first | rfl | (simp; done))) | with_reducible (first | apply Blk.store3 | apply Blk.store4) | (with_reducible apply Blk.farp; (first | omega | (simp <;> omega))) | with_reducible (first | apply Blk.allocp | apply Blk.drew | apply Blk.drewN)))) hc6
  obtain ⟨cG6, fG6, lG6, mG6, nG6⟩ := hG6.all5
  have hR6 : Blk v6 (w.heap.size + 1 + 1) 25 #[.int .i64 0, .int .i64 0, .int .i64 0, .int .i64 0, .int .i64 0, .int .i64 0, .int .i64 0, .int .i64 0] := Blk.call (by (repeat (first | with_reducible assumption | (with_reducible apply Blk.new_at; (first | rfl | (simp; done))) | with_reducible (first | apply Blk.store3 | apply Blk.store4) | (with_reducible apply Blk.farp; (first | omega | (simp <;> omega))) | with_reducible (first | apply Blk.allocp | apply Blk.drew | apply Blk.drewN)))) hc6
  obtain ⟨cR6, fR6, lR6, mR6, nR6⟩ := hR6.all5
  have hA6 : Blk v6 (v2.heap.size) 33 #[.int .i64 f.a, .int .i64 f.b, .int .i64 f.c] := Blk.call (by (repeat (first | with_reducible assumption | (with_reducible apply Blk.new_at; (first | rfl | (simp; done))) | with_reducible (first | apply Blk.store3 | apply Blk.store4) | (with_reducible apply Blk.farp; (first | omega | (simp <;> omega))) | with_reducible (first | apply Blk.allocp | apply Blk.drew | apply Blk.drewN)))) hc6
  obtain ⟨cA6, fA6, lA6, mA6, nA6⟩ := hA6.all5
  have hP6 : Blk v6 (v2.heap.size + 1) 27 #[.int .i64 P.p, .int .i64 P.q, .int .i64 P.r, .int .i64 P.s] := Blk.call (by (repeat (first | with_reducible assumption | (with_reducible apply Blk.new_at; (first | rfl | (simp; done))) | with_reducible (first | apply Blk.store3 | apply Blk.store4) | (with_reducible apply Blk.farp; (first | omega | (simp <;> omega))) | with_reducible (first | apply Blk.allocp | apply Blk.drew | apply Blk.drewN)))) hc6
  obtain ⟨cP6, fP6, lP6, mP6, nP6⟩ := hP6.all5
  have hB6 : Blk v6 (v3.heap.size) 33 #[.int .i64 g.a, .int .i64 g.b, .int .i64 g.c] := Blk.call (by (repeat (first | with_reducible assumption | (with_reducible apply Blk.new_at; (first | rfl | (simp; done))) | with_reducible (first | apply Blk.store3 | apply Blk.store4) | (with_reducible apply Blk.farp; (first | omega | (simp <;> omega))) | with_reducible (first | apply Blk.allocp | apply Blk.drew | apply Blk.drewN)))) hc6
  obtain ⟨cB6, fB6, lB6, mB6, nB6⟩ := hB6.all5
  have hQ6 : Blk v6 (v3.heap.size + 1) 27 #[.int .i64 R.p, .int .i64 R.q, .int .i64 R.r, .int .i64 R.s] := Blk.call (by (repeat (first | with_reducible assumption | (with_reducible apply Blk.new_at; (first | rfl | (simp; done))) | with_reducible (first | apply Blk.store3 | apply Blk.store4) | (with_reducible apply Blk.farp; (first | omega | (simp <;> omega))) | with_reducible (first | apply Blk.allocp | apply Blk.drew | apply Blk.drewN)))) hc6
  obtain ⟨cQ6, fQ6, lQ6, mQ6, nQ6⟩ := hQ6.all5
  have hU6 : Blk v6 (v4.heap.size) 78 #[.int .i64 f.a, .int .i64 e, .int .i64 b, .int .i64 c, .int .i64 1, .int .i64 t1, .int .i64 0, .int .i64 1, .int .i64 Y.p, .int .i64 Y.q, .int .i64 Y.r, .int .i64 Y.s] := Blk.call (by (repeat (first | with_reducible assumption | (with_reducible apply Blk.new_at; (first | rfl | (simp; done))) | with_reducible (first | apply Blk.store3 | apply Blk.store4) | (with_reducible apply Blk.farp; (first | omega | (simp <;> omega))) | with_reducible (first | apply Blk.allocp | apply Blk.drew | apply Blk.drewN)))) hc6
  obtain ⟨cU6, fU6, lU6, mU6, nU6⟩ := hU6.all5
  have hb6 : Below w.heap.size w v6 := (by repeat (first | with_reducible (first | exact Below.refl _ _ | assumption | apply Below.drew | apply below_drewN) | (with_reducible (first | apply below_setp | apply below_allocp); (first | omega | (simp <;> omega))) | (with_reducible refine below_viap (by assumption) ?_ ?_; (first | omega | (simp <;> omega)))))
  clear hF5 cF5 fF5 lF5 mF5 nF5 hG5 cG5 fG5 lG5 mG5 nG5 hR5 cR5 fR5 lR5 mR5 nR5 hA5 cA5 fA5 lA5 mA5 nA5 hP5 cP5 fP5 lP5 mP5 nP5 hB5 cB5 fB5 lB5 mB5 nB5 hQ5 cQ5 fQ5 lQ5 mQ5 nQ5 hU5 cU5 fU5 lU5 mU5 nU5
  go_wp2_with fail
  refine (hRd.out _).mono ?_
  rintro e v7 ⟨rfl, hc7⟩
  have hz7 := hc7.size
  (try simp at hz7)
  have hF7 : Blk v7 (w.heap.size) 33 #[.int .i64 f0.a, .int .i64 f0.b, .int .i64 f0.c] := Blk.call (by (repeat (first | with_reducible assumption | (with_reducible apply Blk.new_at; (first | rfl | (simp; done))) | with_reducible (first | apply Blk.store3 | apply Blk.store4) | (with_reducible apply Blk.farp; (first | omega | (simp <;> omega))) | with_reducible (first | apply Blk.allocp | apply Blk.drew | apply Blk.drewN)))) hc7
  obtain ⟨cF7, fF7, lF7, mF7, nF7⟩ := hF7.all5
  have hG7 : Blk v7 (w.heap.size + 1) 33 #[.int .i64 g0.a, .int .i64 g0.b, .int .i64 g0.c] := Blk.call (by (repeat (first | with_reducible assumption | (with_reducible apply Blk.new_at; (first | rfl | (simp; done))) | with_reducible (first | apply Blk.store3 | apply Blk.store4) | (with_reducible apply Blk.farp; (first | omega | (simp <;> omega))) | with_reducible (first | apply Blk.allocp | apply Blk.drew | apply Blk.drewN)))) hc7
  obtain ⟨cG7, fG7, lG7, mG7, nG7⟩ := hG7.all5
  have hR7 : Blk v7 (w.heap.size + 1 + 1) 25 #[.int .i64 0, .int .i64 0, .int .i64 0, .int .i64 0, .int .i64 0, .int .i64 0, .int .i64 0, .int .i64 0] := Blk.call (by (repeat (first | with_reducible assumption | (with_reducible apply Blk.new_at; (first | rfl | (simp; done))) | with_reducible (first | apply Blk.store3 | apply Blk.store4) | (with_reducible apply Blk.farp; (first | omega | (simp <;> omega))) | with_reducible (first | apply Blk.allocp | apply Blk.drew | apply Blk.drewN)))) hc7
  obtain ⟨cR7, fR7, lR7, mR7, nR7⟩ := hR7.all5
  have hA7 : Blk v7 (v2.heap.size) 33 #[.int .i64 f.a, .int .i64 f.b, .int .i64 f.c] := Blk.call (by (repeat (first | with_reducible assumption | (with_reducible apply Blk.new_at; (first | rfl | (simp; done))) | with_reducible (first | apply Blk.store3 | apply Blk.store4) | (with_reducible apply Blk.farp; (first | omega | (simp <;> omega))) | with_reducible (first | apply Blk.allocp | apply Blk.drew | apply Blk.drewN)))) hc7
  obtain ⟨cA7, fA7, lA7, mA7, nA7⟩ := hA7.all5
  have hP7 : Blk v7 (v2.heap.size + 1) 27 #[.int .i64 P.p, .int .i64 P.q, .int .i64 P.r, .int .i64 P.s] := Blk.call (by (repeat (first | with_reducible assumption | (with_reducible apply Blk.new_at; (first | rfl | (simp; done))) | with_reducible (first | apply Blk.store3 | apply Blk.store4) | (with_reducible apply Blk.farp; (first | omega | (simp <;> omega))) | with_reducible (first | apply Blk.allocp | apply Blk.drew | apply Blk.drewN)))) hc7
  obtain ⟨cP7, fP7, lP7, mP7, nP7⟩ := hP7.all5
  have hB7 : Blk v7 (v3.heap.size) 33 #[.int .i64 g.a, .int .i64 g.b, .int .i64 g.c] := Blk.call (by (repeat (first | with_reducible assumption | (with_reducible apply Blk.new_at; (first | rfl | (simp; done))) | with_reducible (first | apply Blk.store3 | apply Blk.store4) | (with_reducible apply Blk.farp; (first | omega | (simp <;> omega))) | with_reducible (first | apply Blk.allocp | apply Blk.drew | apply Blk.drewN)))) hc7
  obtain ⟨cB7, fB7, lB7, mB7, nB7⟩ := hB7.all5
  have hQ7 : Blk v7 (v3.heap.size + 1) 27 #[.int .i64 R.p, .int .i64 R.q, .int .i64 R.r, .int .i64 R.s] := Blk.call (by (repeat (first | with_reducible assumption | (with_reducible apply Blk.new_at; (first | rfl | (simp; done))) | with_reducible (first | apply Blk.store3 | apply Blk.store4) | (with_reducible apply Blk.farp; (first | omega | (simp <;> omega))) | with_reducible (first | apply Blk.allocp | apply Blk.drew | apply Blk.drewN)))) hc7
  obtain ⟨cQ7, fQ7, lQ7, mQ7, nQ7⟩ := hQ7.all5
  have hU7 : Blk v7 (v4.heap.size) 78 #[.int .i64 f.a, .int .i64 e, .int .i64 b, .int .i64 c, .int .i64 1, .int .i64 t1, .int .i64 0, .int .i64 1, .int .i64 Y.p, .int .i64 Y.q, .int .i64 Y.r, .int .i64 Y.s] := Blk.call (by (repeat (first | with_reducible assumption | (with_reducible apply Blk.new_at; (first | rfl | (simp; done))) | with_reducible (first | apply Blk.store3 | apply Blk.store4) | (with_reducible apply Blk.farp; (first | omega | (simp <;> omega))) | with_reducible (first | apply Blk.allocp | apply Blk.drew | apply Blk.drewN)))) hc7
  obtain ⟨cU7, fU7, lU7, mU7, nU7⟩ := hU7.all5
  have hb7 : Below w.heap.size w v7 := (by repeat (first | with_reducible (first | exact Below.refl _ _ | assumption | apply Below.drew | apply below_drewN) | (with_reducible (first | apply below_setp | apply below_allocp); (first | omega | (simp <;> omega))) | (with_reducible refine below_viap (by assumption) ?_ ?_; (first | omega | (simp <;> omega)))))
  clear hF6 cF6 fF6 lF6 mF6 nF6 hG6 cG6 fG6 lG6 mG6 nG6 hR6 cR6 fR6 lR6 mR6 nR6 hA6 cA6 fA6 lA6 mA6 nA6 hP6 cP6 fP6 lP6 mP6 nP6 hB6 cB6 fB6 lB6 mB6 nB6 hQ6 cQ6 fQ6 lQ6 mQ6 nQ6 hU6 cU6 fU6 lU6 mU6 nU6
  clear hP hRf hRg hU hCo hOp hRd
  go_upto_region 8 with (fail)
  clear k1' k2'
  generalize hw8 : ((v7.alloc (.cells #[.int .i64 rr.a, .int .i64 rr.b, .int .i64 rr.c] 33)).alloc (.cells #[.int .i64 L.p, .int .i64 L.q, .int .i64 L.r, .int .i64 L.s] 27)).alloc (.cells #[.int .i64 0, .int .i64 f.a, .int .i64 1, .int .i64 0, .int .i64 e, .int .i64 (-b), .int .i64 0, .int .i64 (-c)] 60) = v8
  have hR8 : Blk v8 (w.heap.size + 1 + 1) 25 #[.int .i64 0, .int .i64 0, .int .i64 0, .int .i64 0, .int .i64 0, .int .i64 0, .int .i64 0, .int .i64 0] := by rw [← hw8]; (repeat (first | with_reducible assumption | (with_reducible apply Blk.new_at; (first | rfl | (simp; done))) | with_reducible (first | apply Blk.store3 | apply Blk.store4) | (with_reducible apply Blk.farp; (first | omega | (simp <;> omega))) | with_reducible (first | apply Blk.allocp | apply Blk.drew | apply Blk.drewN)))
  obtain ⟨cR8, fR8, lR8, mR8, nR8⟩ := hR8.all5
  have hP8 : Blk v8 (v2.heap.size + 1) 27 #[.int .i64 P.p, .int .i64 P.q, .int .i64 P.r, .int .i64 P.s] := by rw [← hw8]; (repeat (first | with_reducible assumption | (with_reducible apply Blk.new_at; (first | rfl | (simp; done))) | with_reducible (first | apply Blk.store3 | apply Blk.store4) | (with_reducible apply Blk.farp; (first | omega | (simp <;> omega))) | with_reducible (first | apply Blk.allocp | apply Blk.drew | apply Blk.drewN)))
  obtain ⟨cP8, fP8, lP8, mP8, nP8⟩ := hP8.all5
  have hQ8 : Blk v8 (v3.heap.size + 1) 27 #[.int .i64 R.p, .int .i64 R.q, .int .i64 R.r, .int .i64 R.s] := by rw [← hw8]; (repeat (first | with_reducible assumption | (with_reducible apply Blk.new_at; (first | rfl | (simp; done))) | with_reducible (first | apply Blk.store3 | apply Blk.store4) | (with_reducible apply Blk.farp; (first | omega | (simp <;> omega))) | with_reducible (first | apply Blk.allocp | apply Blk.drew | apply Blk.drewN)))
  obtain ⟨cQ8, fQ8, lQ8, mQ8, nQ8⟩ := hQ8.all5
  have hU8 : Blk v8 (v4.heap.size) 78 #[.int .i64 f.a, .int .i64 e, .int .i64 b, .int .i64 c, .int .i64 1, .int .i64 t1, .int .i64 0, .int .i64 1, .int .i64 Y.p, .int .i64 Y.q, .int .i64 Y.r, .int .i64 Y.s] := by rw [← hw8]; (repeat (first | with_reducible assumption | (with_reducible apply Blk.new_at; (first | rfl | (simp; done))) | with_reducible (first | apply Blk.store3 | apply Blk.store4) | (with_reducible apply Blk.farp; (first | omega | (simp <;> omega))) | with_reducible (first | apply Blk.allocp | apply Blk.drew | apply Blk.drewN)))
  obtain ⟨cU8, fU8, lU8, mU8, nU8⟩ := hU8.all5
  have hL8 : Blk v8 (v7.heap.size + 1) 27 #[.int .i64 L.p, .int .i64 L.q, .int .i64 L.r, .int .i64 L.s] := by rw [← hw8]; (repeat (first | with_reducible assumption | (with_reducible apply Blk.new_at; (first | rfl | (simp; done))) | with_reducible (first | apply Blk.store3 | apply Blk.store4) | (with_reducible apply Blk.farp; (first | omega | (simp <;> omega))) | with_reducible (first | apply Blk.allocp | apply Blk.drew | apply Blk.drewN)))
  obtain ⟨cL8, fL8, lL8, mL8, nL8⟩ := hL8.all5
  have hE8 : Blk v8 (v7.heap.size + 1 + 1) 60 #[.int .i64 0, .int .i64 f.a, .int .i64 1, .int .i64 0, .int .i64 e, .int .i64 (-b), .int .i64 0, .int .i64 (-c)] := by rw [← hw8]; (repeat (first | with_reducible assumption | (with_reducible apply Blk.new_at; (first | rfl | (simp; done))) | with_reducible (first | apply Blk.store3 | apply Blk.store4) | (with_reducible apply Blk.farp; (first | omega | (simp <;> omega))) | with_reducible (first | apply Blk.allocp | apply Blk.drew | apply Blk.drewN)))
  obtain ⟨cE8, fE8, lE8, mE8, nE8⟩ := hE8.all5
  have hb8 : Below w.heap.size w v8 := by rw [← hw8]; exact (by repeat (first | with_reducible (first | exact Below.refl _ _ | assumption | apply Below.drew | apply below_drewN) | (with_reducible (first | apply below_setp | apply below_allocp); (first | omega | (simp <;> omega))) | (with_reducible refine below_viap (by assumption) ?_ ?_; (first | omega | (simp <;> omega)))))
  have hz8 : v7.heap.size + 1 + 1 < v8.heap.size := by rw [← hw8]; simp <;> omega
  clear hw8 hb7 hF7 cF7 fF7 lF7 mF7 nF7 hG7 cG7 fG7 lG7 mG7 nG7 hR7 cR7 fR7 lR7 mR7 nR7 hA7 cA7 fA7 lA7 mA7 nA7 hP7 cP7 fP7 lP7 mP7 nP7 hB7 cB7 fB7 lB7 mB7 nB7 hQ7 cQ7 fQ7 lQ7 mQ7 nQ7 hU7 cU7 fU7 lU7 mU7 nU7
  have nePQ : ¬ v2.heap.size + 1 = v3.heap.size + 1 := by omega
  have nePU : ¬ v2.heap.size + 1 = v4.heap.size := by omega
  have nePL : ¬ v2.heap.size + 1 = v7.heap.size + 1 := by omega
  have nePE : ¬ v2.heap.size + 1 = v7.heap.size + 1 + 1 := by omega
  have nePR : ¬ v2.heap.size + 1 = w.heap.size + 1 + 1 := by omega
  have neQP : ¬ v3.heap.size + 1 = v2.heap.size + 1 := by omega
  have neQU : ¬ v3.heap.size + 1 = v4.heap.size := by omega
  have neQL : ¬ v3.heap.size + 1 = v7.heap.size + 1 := by omega
  have neQE : ¬ v3.heap.size + 1 = v7.heap.size + 1 + 1 := by omega
  have neQR : ¬ v3.heap.size + 1 = w.heap.size + 1 + 1 := by omega
  have neUP : ¬ v4.heap.size = v2.heap.size + 1 := by omega
  have neUQ : ¬ v4.heap.size = v3.heap.size + 1 := by omega
  have neUL : ¬ v4.heap.size = v7.heap.size + 1 := by omega
  have neUE : ¬ v4.heap.size = v7.heap.size + 1 + 1 := by omega
  have neUR : ¬ v4.heap.size = w.heap.size + 1 + 1 := by omega
  have neLP : ¬ v7.heap.size + 1 = v2.heap.size + 1 := by omega
  have neLQ : ¬ v7.heap.size + 1 = v3.heap.size + 1 := by omega
  have neLU : ¬ v7.heap.size + 1 = v4.heap.size := by omega
  have neLE : ¬ v7.heap.size + 1 = v7.heap.size + 1 + 1 := by omega
  have neLR : ¬ v7.heap.size + 1 = w.heap.size + 1 + 1 := by omega
  have neEP : ¬ v7.heap.size + 1 + 1 = v2.heap.size + 1 := by omega
  have neEQ : ¬ v7.heap.size + 1 + 1 = v3.heap.size + 1 := by omega
  have neEU : ¬ v7.heap.size + 1 + 1 = v4.heap.size := by omega
  have neEL : ¬ v7.heap.size + 1 + 1 = v7.heap.size + 1 := by omega
  have neER : ¬ v7.heap.size + 1 + 1 = w.heap.size + 1 + 1 := by omega
  have neRP : ¬ w.heap.size + 1 + 1 = v2.heap.size + 1 := by omega
  have neRQ : ¬ w.heap.size + 1 + 1 = v3.heap.size + 1 := by omega
  have neRU : ¬ w.heap.size + 1 + 1 = v4.heap.size := by omega
  have neRL : ¬ w.heap.size + 1 + 1 = v7.heap.size + 1 := by omega
  have neRE : ¬ w.heap.size + 1 + 1 = v7.heap.size + 1 + 1 := by omega
  refine wp_region_calm 7 (Below (v8.heap.size) _) (by kernel_rfl) (by kernel_rfl) ((Below.refl _ _).drew) ?_
  simp only [List.take_succ_cons, List.take_zero, List.drop_succ_cons, List.drop_zero]
  repeat (first | (apply wpCalm_go; go_simp; (intro w' hw' hcc hff; go_simp; first | exact rfl | ((with_reducible refine (hT1.out _).mono ?_); rintro ee w1 ⟨rfl, hb⟩; exact ⟨rfl, calm_call (by simp <;> omega) hw' hb⟩) | ((with_reducible refine (hI1.out _).mono ?_); rintro ee w1 ⟨rfl, hb⟩; exact ⟨rfl, calm_call (by simp <;> omega) hw' hb⟩) | ((with_reducible refine (hA1.out _).mono ?_); rintro ee w1 ⟨rfl, hb⟩; exact ⟨rfl, calm_call (by simp <;> omega) hw' hb⟩)); (intro K hK; go_simp; refine hK _ ?_; clear hK K)) | (apply wpCalm_skip; go_simp; (try (focus (simp [undef]; done))); (intro K hK; go_simp; refine hK _ ?_; clear hK K)))
  refine wpCalm_nil ?_
  intro w1 hw1
  have hcc := (calm_cells hw1).1
  have hff := (calm_cells hw1).2
  have hss := calm_size hw1
  have hsz := hw1.size
  (try simp at hsz)
  have hPz : Blk w1 (v2.heap.size + 1) 27 #[.int .i64 P.p, .int .i64 P.q, .int .i64 P.r, .int .i64 P.s] := Blk.below hP8 hw1 (by omega)
  obtain ⟨cPz, fPz, lPz, mPz, nPz⟩ := hPz.all5
  have hQz : Blk w1 (v3.heap.size + 1) 27 #[.int .i64 R.p, .int .i64 R.q, .int .i64 R.r, .int .i64 R.s] := Blk.below hQ8 hw1 (by omega)
  obtain ⟨cQz, fQz, lQz, mQz, nQz⟩ := hQz.all5
  have hUz : Blk w1 (v4.heap.size) 78 #[.int .i64 f.a, .int .i64 e, .int .i64 b, .int .i64 c, .int .i64 1, .int .i64 t1, .int .i64 0, .int .i64 1, .int .i64 Y.p, .int .i64 Y.q, .int .i64 Y.r, .int .i64 Y.s] := Blk.below hU8 hw1 (by omega)
  obtain ⟨cUz, fUz, lUz, mUz, nUz⟩ := hUz.all5
  have hLz : Blk w1 (v7.heap.size + 1) 27 #[.int .i64 L.p, .int .i64 L.q, .int .i64 L.r, .int .i64 L.s] := Blk.below hL8 hw1 (by omega)
  obtain ⟨cLz, fLz, lLz, mLz, nLz⟩ := hLz.all5
  have hEz : Blk w1 (v7.heap.size + 1 + 1) 60 #[.int .i64 0, .int .i64 f.a, .int .i64 1, .int .i64 0, .int .i64 e, .int .i64 (-b), .int .i64 0, .int .i64 (-c)] := Blk.below hE8 hw1 (by omega)
  obtain ⟨cEz, fEz, lEz, mEz, nEz⟩ := hEz.all5
  have hRz : Blk w1 (w.heap.size + 1 + 1) 25 #[.int .i64 0, .int .i64 0, .int .i64 0, .int .i64 0, .int .i64 0, .int .i64 0, .int .i64 0, .int .i64 0] := Blk.below hR8 hw1 (by omega)
  obtain ⟨cRz, fRz, lRz, mRz, nRz⟩ := hRz.all5
  clear hcc hff hss hP8 cP8 fP8 lP8 mP8 nP8 hQ8 cQ8 fQ8 lQ8 mQ8 nQ8 hU8 cU8 fU8 lU8 mU8 nU8 hL8 cL8 fL8 lL8 mL8 nL8 hE8 cE8 fE8 lE8 mE8 nE8 hR8 cR8 fR8 lR8 mR8 nR8
  go_upto_region 9 with (fail)
  have hEy := Blk.put8 (a := .int .i64 k1.a) (b := .int .i64 k1.b) (c := .int .i64 k1.c) (d := .int .i64 k1.d) (e := .int .i64 k1.e) (f := .int .i64 k1.f) (u := .int .i64 k1.g) (v := .int .i64 k1.h) hEz rfl
  have hQy : Blk ((((((((w1.setCell ⟨v7.heap.size + 1 + 1, 0, none⟩ (.int .i64 k1.a)).setCell ⟨v7.heap.size + 1 + 1, 1, none⟩ (.int .i64 k1.b)).setCell ⟨v7.heap.size + 1 + 1, 2, none⟩ (.int .i64 k1.c)).setCell ⟨v7.heap.size + 1 + 1, 3, none⟩ (.int .i64 k1.d)).setCell ⟨v7.heap.size + 1 + 1, 4, none⟩ (.int .i64 k1.e)).setCell ⟨v7.heap.size + 1 + 1, 5, none⟩ (.int .i64 k1.f)).setCell ⟨v7.heap.size + 1 + 1, 6, none⟩ (.int .i64 k1.g)).setCell ⟨v7.heap.size + 1 + 1, 7, none⟩ (.int .i64 k1.h)) (v3.heap.size + 1) 27 #[.int .i64 R.p, .int .i64 R.q, .int .i64 R.r, .int .i64 R.s] := by (repeat (first | with_reducible assumption | (with_reducible apply Blk.new_at; (first | rfl | (simp; done))) | with_reducible (first | apply Blk.store3 | apply Blk.store4) | (with_reducible apply Blk.farp; (first | omega | (simp <;> omega))) | with_reducible (first | apply Blk.allocp | apply Blk.drew | apply Blk.drewN)))
  have hUy : Blk ((((((((w1.setCell ⟨v7.heap.size + 1 + 1, 0, none⟩ (.int .i64 k1.a)).setCell ⟨v7.heap.size + 1 + 1, 1, none⟩ (.int .i64 k1.b)).setCell ⟨v7.heap.size + 1 + 1, 2, none⟩ (.int .i64 k1.c)).setCell ⟨v7.heap.size + 1 + 1, 3, none⟩ (.int .i64 k1.d)).setCell ⟨v7.heap.size + 1 + 1, 4, none⟩ (.int .i64 k1.e)).setCell ⟨v7.heap.size + 1 + 1, 5, none⟩ (.int .i64 k1.f)).setCell ⟨v7.heap.size + 1 + 1, 6, none⟩ (.int .i64 k1.g)).setCell ⟨v7.heap.size + 1 + 1, 7, none⟩ (.int .i64 k1.h)) (v4.heap.size) 78 #[.int .i64 f.a, .int .i64 e, .int .i64 b, .int .i64 c, .int .i64 1, .int .i64 t1, .int .i64 0, .int .i64 1, .int .i64 Y.p, .int .i64 Y.q, .int .i64 Y.r, .int .i64 Y.s] := by (repeat (first | with_reducible assumption | (with_reducible apply Blk.new_at; (first | rfl | (simp; done))) | with_reducible (first | apply Blk.store3 | apply Blk.store4) | (with_reducible apply Blk.farp; (first | omega | (simp <;> omega))) | with_reducible (first | apply Blk.allocp | apply Blk.drew | apply Blk.drewN)))
  have hLy : Blk ((((((((w1.setCell ⟨v7.heap.size + 1 + 1, 0, none⟩ (.int .i64 k1.a)).setCell ⟨v7.heap.size + 1 + 1, 1, none⟩ (.int .i64 k1.b)).setCell ⟨v7.heap.size + 1 + 1, 2, none⟩ (.int .i64 k1.c)).setCell ⟨v7.heap.size + 1 + 1, 3, none⟩ (.int .i64 k1.d)).setCell ⟨v7.heap.size + 1 + 1, 4, none⟩ (.int .i64 k1.e)).setCell ⟨v7.heap.size + 1 + 1, 5, none⟩ (.int .i64 k1.f)).setCell ⟨v7.heap.size + 1 + 1, 6, none⟩ (.int .i64 k1.g)).setCell ⟨v7.heap.size + 1 + 1, 7, none⟩ (.int .i64 k1.h)) (v7.heap.size + 1) 27 #[.int .i64 L.p, .int .i64 L.q, .int .i64 L.r, .int .i64 L.s] := by (repeat (first | with_reducible assumption | (with_reducible apply Blk.new_at; (first | rfl | (simp; done))) | with_reducible (first | apply Blk.store3 | apply Blk.store4) | (with_reducible apply Blk.farp; (first | omega | (simp <;> omega))) | with_reducible (first | apply Blk.allocp | apply Blk.drew | apply Blk.drewN)))
  have hRy : Blk ((((((((w1.setCell ⟨v7.heap.size + 1 + 1, 0, none⟩ (.int .i64 k1.a)).setCell ⟨v7.heap.size + 1 + 1, 1, none⟩ (.int .i64 k1.b)).setCell ⟨v7.heap.size + 1 + 1, 2, none⟩ (.int .i64 k1.c)).setCell ⟨v7.heap.size + 1 + 1, 3, none⟩ (.int .i64 k1.d)).setCell ⟨v7.heap.size + 1 + 1, 4, none⟩ (.int .i64 k1.e)).setCell ⟨v7.heap.size + 1 + 1, 5, none⟩ (.int .i64 k1.f)).setCell ⟨v7.heap.size + 1 + 1, 6, none⟩ (.int .i64 k1.g)).setCell ⟨v7.heap.size + 1 + 1, 7, none⟩ (.int .i64 k1.h)) (w.heap.size + 1 + 1) 25 #[.int .i64 0, .int .i64 0, .int .i64 0, .int .i64 0, .int .i64 0, .int .i64 0, .int .i64 0, .int .i64 0] := by (repeat (first | with_reducible assumption | (with_reducible apply Blk.new_at; (first | rfl | (simp; done))) | with_reducible (first | apply Blk.store3 | apply Blk.store4) | (with_reducible apply Blk.farp; (first | omega | (simp <;> omega))) | with_reducible (first | apply Blk.allocp | apply Blk.drew | apply Blk.drewN)))
  have hby : Below w.heap.size w ((((((((w1.setCell ⟨v7.heap.size + 1 + 1, 0, none⟩ (.int .i64 k1.a)).setCell ⟨v7.heap.size + 1 + 1, 1, none⟩ (.int .i64 k1.b)).setCell ⟨v7.heap.size + 1 + 1, 2, none⟩ (.int .i64 k1.c)).setCell ⟨v7.heap.size + 1 + 1, 3, none⟩ (.int .i64 k1.d)).setCell ⟨v7.heap.size + 1 + 1, 4, none⟩ (.int .i64 k1.e)).setCell ⟨v7.heap.size + 1 + 1, 5, none⟩ (.int .i64 k1.f)).setCell ⟨v7.heap.size + 1 + 1, 6, none⟩ (.int .i64 k1.g)).setCell ⟨v7.heap.size + 1 + 1, 7, none⟩ (.int .i64 k1.h)) := by have hq := below_via hb8 hw1 (by omega); exact (by repeat (first | with_reducible (first | exact Below.refl _ _ | assumption | apply Below.drew | apply below_drewN) | (with_reducible (first | apply below_setp | apply below_allocp); (first | omega | (simp <;> omega))) | (with_reducible refine below_viap (by assumption) ?_ ?_; (first | omega | (simp <;> omega)))))
  have hzy : v7.heap.size + 1 + 1 < ((((((((w1.setCell ⟨v7.heap.size + 1 + 1, 0, none⟩ (.int .i64 k1.a)).setCell ⟨v7.heap.size + 1 + 1, 1, none⟩ (.int .i64 k1.b)).setCell ⟨v7.heap.size + 1 + 1, 2, none⟩ (.int .i64 k1.c)).setCell ⟨v7.heap.size + 1 + 1, 3, none⟩ (.int .i64 k1.d)).setCell ⟨v7.heap.size + 1 + 1, 4, none⟩ (.int .i64 k1.e)).setCell ⟨v7.heap.size + 1 + 1, 5, none⟩ (.int .i64 k1.f)).setCell ⟨v7.heap.size + 1 + 1, 6, none⟩ (.int .i64 k1.g)).setCell ⟨v7.heap.size + 1 + 1, 7, none⟩ (.int .i64 k1.h)).heap.size := by simp <;> omega
  generalize ((((((((w1.setCell ⟨v7.heap.size + 1 + 1, 0, none⟩ (.int .i64 k1.a)).setCell ⟨v7.heap.size + 1 + 1, 1, none⟩ (.int .i64 k1.b)).setCell ⟨v7.heap.size + 1 + 1, 2, none⟩ (.int .i64 k1.c)).setCell ⟨v7.heap.size + 1 + 1, 3, none⟩ (.int .i64 k1.d)).setCell ⟨v7.heap.size + 1 + 1, 4, none⟩ (.int .i64 k1.e)).setCell ⟨v7.heap.size + 1 + 1, 5, none⟩ (.int .i64 k1.f)).setCell ⟨v7.heap.size + 1 + 1, 6, none⟩ (.int .i64 k1.g)).setCell ⟨v7.heap.size + 1 + 1, 7, none⟩ (.int .i64 k1.h)) = v9 at *
  have hE9 := hEy
  obtain ⟨cE9, fE9, lE9, mE9, nE9⟩ := hE9.all5
  have hQ9 := hQy
  obtain ⟨cQ9, fQ9, lQ9, mQ9, nQ9⟩ := hQ9.all5
  have hU9 := hUy
  obtain ⟨cU9, fU9, lU9, mU9, nU9⟩ := hU9.all5
  have hL9 := hLy
  obtain ⟨cL9, fL9, lL9, mL9, nL9⟩ := hL9.all5
  have hR9 := hRy
  obtain ⟨cR9, fR9, lR9, mR9, nR9⟩ := hR9.all5
  have hb9 := hby; have hz9 := hzy
  clear hEy hQy hUy hLy hRy hby hzy hw1 hsz hb8 hz8 hPz cPz fPz lPz mPz nPz hQz cQz fQz lQz mQz nQz hUz cUz fUz lUz mUz nUz hLz cLz fLz lLz mLz nLz hEz cEz fEz lEz mEz nEz hRz cRz fRz lRz mRz nRz
  refine wp_region_calm 7 (Below (v9.heap.size) _) (by kernel_rfl) (by kernel_rfl) ((Below.refl _ _).drew) ?_
  simp only [List.take_succ_cons, List.take_zero, List.drop_succ_cons, List.drop_zero]
  repeat (first | (apply wpCalm_go; go_simp; (intro w' hw' hcc hff; go_simp; first | exact rfl | ((with_reducible refine (hT2.out _).mono ?_); rintro ee w1 ⟨rfl, hb⟩; exact ⟨rfl, calm_call (by simp <;> omega) hw' hb⟩) | ((with_reducible refine (hI2.out _).mono ?_); rintro ee w1 ⟨rfl, hb⟩; exact ⟨rfl, calm_call (by simp <;> omega) hw' hb⟩) | ((with_reducible refine (hA2.out _).mono ?_); rintro ee w1 ⟨rfl, hb⟩; exact ⟨rfl, calm_call (by simp <;> omega) hw' hb⟩)); (intro K hK; go_simp; refine hK _ ?_; clear hK K)) | (apply wpCalm_skip; go_simp; (try (focus (simp [undef]; done))); (intro K hK; go_simp; refine hK _ ?_; clear hK K)))
  refine wpCalm_nil ?_
  intro w1 hw1
  have hcc := (calm_cells hw1).1
  have hff := (calm_cells hw1).2
  have hss := calm_size hw1
  have hsz := hw1.size
  (try simp at hsz)
  have hQz : Blk w1 (v3.heap.size + 1) 27 #[.int .i64 R.p, .int .i64 R.q, .int .i64 R.r, .int .i64 R.s] := Blk.below hQ9 hw1 (by omega)
  obtain ⟨cQz, fQz, lQz, mQz, nQz⟩ := hQz.all5
  have hUz : Blk w1 (v4.heap.size) 78 #[.int .i64 f.a, .int .i64 e, .int .i64 b, .int .i64 c, .int .i64 1, .int .i64 t1, .int .i64 0, .int .i64 1, .int .i64 Y.p, .int .i64 Y.q, .int .i64 Y.r, .int .i64 Y.s] := Blk.below hU9 hw1 (by omega)
  obtain ⟨cUz, fUz, lUz, mUz, nUz⟩ := hUz.all5
  have hLz : Blk w1 (v7.heap.size + 1) 27 #[.int .i64 L.p, .int .i64 L.q, .int .i64 L.r, .int .i64 L.s] := Blk.below hL9 hw1 (by omega)
  obtain ⟨cLz, fLz, lLz, mLz, nLz⟩ := hLz.all5
  have hEz : Blk w1 (v7.heap.size + 1 + 1) 60 #[.int .i64 k1.a, .int .i64 k1.b, .int .i64 k1.c, .int .i64 k1.d, .int .i64 k1.e, .int .i64 k1.f, .int .i64 k1.g, .int .i64 k1.h] := Blk.below hE9 hw1 (by omega)
  obtain ⟨cEz, fEz, lEz, mEz, nEz⟩ := hEz.all5
  have hRz : Blk w1 (w.heap.size + 1 + 1) 25 #[.int .i64 0, .int .i64 0, .int .i64 0, .int .i64 0, .int .i64 0, .int .i64 0, .int .i64 0, .int .i64 0] := Blk.below hR9 hw1 (by omega)
  obtain ⟨cRz, fRz, lRz, mRz, nRz⟩ := hRz.all5
  clear hcc hff hss hQ9 cQ9 fQ9 lQ9 mQ9 nQ9 hU9 cU9 fU9 lU9 mU9 nU9 hL9 cL9 fL9 lL9 mL9 nL9 hE9 cE9 fE9 lE9 mE9 nE9 hR9 cR9 fR9 lR9 mR9 nR9
  go_upto_region 10 with (fail)
  have hEy := Blk.put8 (a := .int .i64 k2.a) (b := .int .i64 k2.b) (c := .int .i64 k2.c) (d := .int .i64 k2.d) (e := .int .i64 k2.e) (f := .int .i64 k2.f) (u := .int .i64 k2.g) (v := .int .i64 k2.h) hEz rfl
  have hLy : Blk ((((((((w1.setCell ⟨v7.heap.size + 1 + 1, 0, none⟩ (.int .i64 k2.a)).setCell ⟨v7.heap.size + 1 + 1, 1, none⟩ (.int .i64 k2.b)).setCell ⟨v7.heap.size + 1 + 1, 2, none⟩ (.int .i64 k2.c)).setCell ⟨v7.heap.size + 1 + 1, 3, none⟩ (.int .i64 k2.d)).setCell ⟨v7.heap.size + 1 + 1, 4, none⟩ (.int .i64 k2.e)).setCell ⟨v7.heap.size + 1 + 1, 5, none⟩ (.int .i64 k2.f)).setCell ⟨v7.heap.size + 1 + 1, 6, none⟩ (.int .i64 k2.g)).setCell ⟨v7.heap.size + 1 + 1, 7, none⟩ (.int .i64 k2.h)) (v7.heap.size + 1) 27 #[.int .i64 L.p, .int .i64 L.q, .int .i64 L.r, .int .i64 L.s] := by (repeat (first | with_reducible assumption | (with_reducible apply Blk.new_at; (first | rfl | (simp; done))) | with_reducible (first | apply Blk.store3 | apply Blk.store4) | (with_reducible apply Blk.farp; (first | omega | (simp <;> omega))) | with_reducible (first | apply Blk.allocp | apply Blk.drew | apply Blk.drewN)))
  have hRy : Blk ((((((((w1.setCell ⟨v7.heap.size + 1 + 1, 0, none⟩ (.int .i64 k2.a)).setCell ⟨v7.heap.size + 1 + 1, 1, none⟩ (.int .i64 k2.b)).setCell ⟨v7.heap.size + 1 + 1, 2, none⟩ (.int .i64 k2.c)).setCell ⟨v7.heap.size + 1 + 1, 3, none⟩ (.int .i64 k2.d)).setCell ⟨v7.heap.size + 1 + 1, 4, none⟩ (.int .i64 k2.e)).setCell ⟨v7.heap.size + 1 + 1, 5, none⟩ (.int .i64 k2.f)).setCell ⟨v7.heap.size + 1 + 1, 6, none⟩ (.int .i64 k2.g)).setCell ⟨v7.heap.size + 1 + 1, 7, none⟩ (.int .i64 k2.h)) (w.heap.size + 1 + 1) 25 #[.int .i64 0, .int .i64 0, .int .i64 0, .int .i64 0, .int .i64 0, .int .i64 0, .int .i64 0, .int .i64 0] := by (repeat (first | with_reducible assumption | (with_reducible apply Blk.new_at; (first | rfl | (simp; done))) | with_reducible (first | apply Blk.store3 | apply Blk.store4) | (with_reducible apply Blk.farp; (first | omega | (simp <;> omega))) | with_reducible (first | apply Blk.allocp | apply Blk.drew | apply Blk.drewN)))
  have hby : Below w.heap.size w ((((((((w1.setCell ⟨v7.heap.size + 1 + 1, 0, none⟩ (.int .i64 k2.a)).setCell ⟨v7.heap.size + 1 + 1, 1, none⟩ (.int .i64 k2.b)).setCell ⟨v7.heap.size + 1 + 1, 2, none⟩ (.int .i64 k2.c)).setCell ⟨v7.heap.size + 1 + 1, 3, none⟩ (.int .i64 k2.d)).setCell ⟨v7.heap.size + 1 + 1, 4, none⟩ (.int .i64 k2.e)).setCell ⟨v7.heap.size + 1 + 1, 5, none⟩ (.int .i64 k2.f)).setCell ⟨v7.heap.size + 1 + 1, 6, none⟩ (.int .i64 k2.g)).setCell ⟨v7.heap.size + 1 + 1, 7, none⟩ (.int .i64 k2.h)) := by have hq := below_via hb9 hw1 (by omega); exact (by repeat (first | with_reducible (first | exact Below.refl _ _ | assumption | apply Below.drew | apply below_drewN) | (with_reducible (first | apply below_setp | apply below_allocp); (first | omega | (simp <;> omega))) | (with_reducible refine below_viap (by assumption) ?_ ?_; (first | omega | (simp <;> omega)))))
  have hzy : v7.heap.size + 1 + 1 < ((((((((w1.setCell ⟨v7.heap.size + 1 + 1, 0, none⟩ (.int .i64 k2.a)).setCell ⟨v7.heap.size + 1 + 1, 1, none⟩ (.int .i64 k2.b)).setCell ⟨v7.heap.size + 1 + 1, 2, none⟩ (.int .i64 k2.c)).setCell ⟨v7.heap.size + 1 + 1, 3, none⟩ (.int .i64 k2.d)).setCell ⟨v7.heap.size + 1 + 1, 4, none⟩ (.int .i64 k2.e)).setCell ⟨v7.heap.size + 1 + 1, 5, none⟩ (.int .i64 k2.f)).setCell ⟨v7.heap.size + 1 + 1, 6, none⟩ (.int .i64 k2.g)).setCell ⟨v7.heap.size + 1 + 1, 7, none⟩ (.int .i64 k2.h)).heap.size := by simp <;> omega
  generalize ((((((((w1.setCell ⟨v7.heap.size + 1 + 1, 0, none⟩ (.int .i64 k2.a)).setCell ⟨v7.heap.size + 1 + 1, 1, none⟩ (.int .i64 k2.b)).setCell ⟨v7.heap.size + 1 + 1, 2, none⟩ (.int .i64 k2.c)).setCell ⟨v7.heap.size + 1 + 1, 3, none⟩ (.int .i64 k2.d)).setCell ⟨v7.heap.size + 1 + 1, 4, none⟩ (.int .i64 k2.e)).setCell ⟨v7.heap.size + 1 + 1, 5, none⟩ (.int .i64 k2.f)).setCell ⟨v7.heap.size + 1 + 1, 6, none⟩ (.int .i64 k2.g)).setCell ⟨v7.heap.size + 1 + 1, 7, none⟩ (.int .i64 k2.h)) = v10 at *
  have hE10 := hEy
  obtain ⟨cE10, fE10, lE10, mE10, nE10⟩ := hE10.all5
  have hL10 := hLy
  obtain ⟨cL10, fL10, lL10, mL10, nL10⟩ := hL10.all5
  have hR10 := hRy
  obtain ⟨cR10, fR10, lR10, mR10, nR10⟩ := hR10.all5
  have hb10 := hby; have hz10 := hzy
  clear hEy hLy hRy hby hzy hw1 hsz hb9 hz9 hQz cQz fQz lQz mQz nQz hUz cUz fUz lUz mUz nUz hLz cLz fLz lLz mLz nLz hEz cEz fEz lEz mEz nEz hRz cRz fRz lRz mRz nRz
  go_wp2_with (first | (go_at_call 26; (with_reducible refine (hA3.out _).mono ?_); rintro e vx ⟨rfl, hcvx⟩; have hzvx := hcvx.size; (try simp at hzvx); have hRvx : Blk vx (w.heap.size + 1 + 1) 25 #[.int .i64 0, .int .i64 0, .int .i64 0, .int .i64 0, .int .i64 0, .int .i64 0, .int .i64 0, .int .i64 0] := Blk.call (by (repeat (first | with_reducible assumption | (with_reducible apply Blk.new_at; (first | rfl | (simp; done))) | with_reducible (first | apply Blk.store3 | apply Blk.store4) | (with_reducible apply Blk.farp; (first | omega | (simp <;> omega))) | with_reducible (first | apply Blk.allocp | apply Blk.drew | apply Blk.drewN)))) hcvx; obtain ⟨cRvx, fRvx, lRvx, mRvx, nRvx⟩ := hRvx.all5) | (go_at_call 27; (with_reducible refine (hQ.out _).mono ?_); rintro e vy ⟨rfl, hcvy⟩; have hzvy := hcvy.size; (try simp at hzvy); have hRvy : Blk vy (w.heap.size + 1 + 1) 25 #[.int .i64 0, .int .i64 0, .int .i64 0, .int .i64 0, .int .i64 0, .int .i64 0, .int .i64 0, .int .i64 0] := Blk.call (by (repeat (first | with_reducible assumption | (with_reducible apply Blk.new_at; (first | rfl | (simp; done))) | with_reducible (first | apply Blk.store3 | apply Blk.store4) | (with_reducible apply Blk.farp; (first | omega | (simp <;> omega))) | with_reducible (first | apply Blk.allocp | apply Blk.drew | apply Blk.drewN)))) hcvy; obtain ⟨cRvy, fRvy, lRvy, mRvy, nRvy⟩ := hRvy.all5))
  have hbz : Below w.heap.size w vy := by have := hb10; exact (by repeat (first | with_reducible (first | exact Below.refl _ _ | assumption | apply Below.drew | apply below_drewN) | (with_reducible (first | apply below_setp | apply below_allocp); (first | omega | (simp <;> omega))) | (with_reducible refine below_viap (by assumption) ?_ ?_; (first | omega | (simp <;> omega)))))
  exact bodyPost_ret (v := .tuple #[.agg #[.int .i64 E.a, .int .i64 E.b, .int .i64 E.c, .int .i64 E.d, .int .i64 E.e, .int .i64 E.f, .int .i64 E.g, .int .i64 E.h], .bool ans]) (by simp [results, Tryz.results14, go_sem, *]) rfl ⟨rfl, (by repeat (first | with_reducible (first | exact Below.refl _ _ | assumption | apply Below.drew | apply below_drewN) | (with_reducible (first | apply below_setp | apply below_allocp); (first | omega | (simp <;> omega))) | (with_reducible refine below_viap (by assumption) ?_ ?_; (first | omega | (simp <;> omega)))))⟩
end

section
open Go.RowKit

set_option maxRecDepth 100000 in
set_option maxHeartbeats 6400000 in
theorem implCO_pair (f0 g0 : Fm) (w : World) (hp : pairB f0 g0 = false) : Calls Tryz.prog 14 #[.agg #[.int .i64 f0.a, .int .i64 f0.b, .int .i64 f0.c], .agg #[.int .i64 g0.a, .int .i64 g0.b, .int .i64 g0.c]] w fun e w' => e = .returned (.tuple #[.agg #[.int .i64 0, .int .i64 0, .int .i64 0, .int .i64 0, .int .i64 0, .int .i64 0, .int .i64 0, .int .i64 0], .bool false]) ∧ Below w.heap.size w w' := by
  have hP := Lib.hid (fun w => arePair_any f0 g0 w)
  rw [hp] at hP
  clear hp
  go_enter Tryz.func14, Tryz.ntmps14
  go_wp2_with (go_at_call 42; (with_reducible refine (hP.out _).mono ?_); rintro e v1 ⟨rfl, hB1⟩; have hZ1 := hB1.size; (try simp at hZ1); (try have zl1 : w.heap.size < v1.heap.size := by omega); (try have ze1 : w.heap.size ≤ v1.heap.size := by omega); (try have zn1 : ¬ w.heap.size = v1.heap.size := by omega); (try have zm1 : ¬ v1.heap.size = w.heap.size := by omega); have hF1 : Blk v1 (w.heap.size) 33 #[.int .i64 f0.a, .int .i64 f0.b, .int .i64 f0.c] := Blk.call (by (repeat (first | with_reducible assumption | (with_reducible apply Blk.new_at; (first | rfl | (simp; done))) | with_reducible (first | apply Blk.store3 | apply Blk.store4) | (with_reducible apply Blk.farp; (first | omega | (simp <;> omega))) | with_reducible (first | apply Blk.allocp | apply Blk.drew | apply Blk.drewN)))) hB1; obtain ⟨cF1, fF1, lF1, mF1, nF1⟩ := hF1.all5; have hG1 : Blk v1 (w.heap.size + 1) 33 #[.int .i64 g0.a, .int .i64 g0.b, .int .i64 g0.c] := Blk.call (by (repeat (first | with_reducible assumption | (with_reducible apply Blk.new_at; (first | rfl | (simp; done))) | with_reducible (first | apply Blk.store3 | apply Blk.store4) | (with_reducible apply Blk.farp; (first | omega | (simp <;> omega))) | with_reducible (first | apply Blk.allocp | apply Blk.drew | apply Blk.drewN)))) hB1; obtain ⟨cG1, fG1, lG1, mG1, nG1⟩ := hG1.all5; have hR1 : Blk v1 (w.heap.size + 1 + 1) 25 #[.int .i64 0, .int .i64 0, .int .i64 0, .int .i64 0, .int .i64 0, .int .i64 0, .int .i64 0, .int .i64 0] := Blk.call (by (repeat (first | with_reducible assumption | (with_reducible apply Blk.new_at; (first | rfl | (simp; done))) | with_reducible (first | apply Blk.store3 | apply Blk.store4) | (with_reducible apply Blk.farp; (first | omega | (simp <;> omega))) | with_reducible (first | apply Blk.allocp | apply Blk.drew | apply Blk.drewN)))) hB1; obtain ⟨cR1, fR1, lR1, mR1, nR1⟩ := hR1.all5)
  exact bodyPost_ret (v := .tuple #[.agg #[.int .i64 0, .int .i64 0, .int .i64 0, .int .i64 0, .int .i64 0, .int .i64 0, .int .i64 0, .int .i64 0], .bool false]) (by simp [results, Tryz.results14, go_sem, *]) rfl ⟨rfl, (by repeat (first | with_reducible (first | exact Below.refl _ _ | assumption | apply Below.drew | apply below_drewN) | (with_reducible (first | apply below_setp | apply below_allocp); (first | omega | (simp <;> omega))) | (with_reducible refine below_viap (by assumption) ?_ ?_; (first | omega | (simp <;> omega)))))⟩
/-- The cube of two forms: both sides tell the same; if there is one, it has the forms. -/
theorem co_both (f g : Fm) : ∃ (K : Cu) (b : Bool), (∀ w, Calls Tryz.prog 14 #[.agg #[.int .i64 f.a, .int .i64 f.b, .int .i64 f.c], .agg #[.int .i64 g.a, .int .i64 g.b, .int .i64 g.c]] w fun e w' => e = .returned (.tuple #[.agg #[.int .i64 K.a, .int .i64 K.b, .int .i64 K.c, .int .i64 K.d, .int .i64 K.e, .int .i64 K.f, .int .i64 K.g, .int .i64 K.h], .bool b]) ∧ Below w.heap.size w w') ∧
    (∀ w, Calls Tryz.prog 15 #[.agg #[.int .i64 f.a, .int .i64 f.b, .int .i64 f.c], .agg #[.int .i64 g.a, .int .i64 g.b, .int .i64 g.c]] w fun e w' => e = .returned (.tuple #[.agg #[.int .i64 K.a, .int .i64 K.b, .int .i64 K.c, .int .i64 K.d, .int .i64 K.e, .int .i64 K.f, .int .i64 K.g, .int .i64 K.h], .bool b]) ∧ Below w.heap.size w w') ∧
    (b = true → cuB K = true ∧ cuF K = f ∧ cuF2 K = g ∧ pairB f g = true ∧ Dsc (disc f) ∧ cmp (disc f) (red f) (red g) ∈ clsL (disc f) ∧ cuF3 K = red (oppF (cmp (disc f) (red f) (red g)))) := by
  cases hp : pairB f g with
  | false => exact ⟨⟨0, 0, 0, 0, 0, 0, 0, 0⟩, false, fun w => implCO_pair f g w hp, fun w => specCO_pair f g w hp, fun h => by cases h⟩
  | true =>
    have hp' := hp
    unfold pairB at hp
    simp only [Bool.and_eq_true, decide_eq_true_eq] at hp
    obtain ⟨hf, hg, he⟩ := hp
    have cf : CF (disc f) f (red f) := CF.of_cls hf
    have cg : CF (disc g) g (red g) := CF.of_cls hg
    rw [← he] at cg
    have df : Def 1000000 f := cls_def6 hf
    have dg : Def 1000000 g := cls_def6 hg
    obtain ⟨x, y, S, Q, T, e, h, k, b, c, t1, t2, u⟩ := ud_ex cf.D cf.mem cg.mem
    obtain ⟨_, f2, _⟩ := isFm_bd (cls_fm hf).1
    obtain ⟨_, g2, _⟩ := isFm_bd (cls_fm hg).1
    obtain ⟨K, hK⟩ : ∃ K, cuMk (red f).a b c e (mmM (redM f M4.one) (shM t1)) (mmM (mmM (redM g M4.one) ⟨x, Q + T * x, y, S + T * y⟩) (shM t2)) (redM ⟨(red f).a * e, -b, c⟩ M4.one) = K := ⟨_, rfl⟩
    cases hc : cuB K with
    | false => exact ⟨⟨0, 0, 0, 0, 0, 0, 0, 0⟩, false, fun w => implCO_gen _ f g _ _ _ _ _ _ _ _ _ _ _ _ _ _ w u hp' df dg rfl rfl K hK ⟨0, 0, 0, 0, 0, 0, 0, 0⟩ false (fun w => ecube_no K w hc), fun w => specCO_no _ f g _ _ _ _ _ _ _ _ _ _ _ _ _ _ w u hp' df dg rfl rfl K hK hc, fun h => by cases h⟩
    | true =>
      obtain ⟨w1, w2, w3⟩ := mk_law u df dg f2 g2 rfl rfl K hK hc
      exact ⟨K, true, fun w => implCO_gen _ f g _ _ _ _ _ _ _ _ _ _ _ _ _ _ w u hp' df dg rfl rfl K hK K true (fun w => ecube_yes K w hc), fun w => specCO_yes _ f g _ _ _ _ _ _ _ _ _ _ _ _ _ _ w u hp' df dg rfl rfl K hK hc, fun _ => ⟨hc, w1, w2, rfl, cf.D, cf.D.cmpm cf.mem cg.mem, w3⟩⟩
end
end Go.Proofs.YtlcegkafagdcjaaGreatDoor
