/- Contracts: the identity cube, the cube of two forms, of the reference (written by gen_QL.py). -/
import Derived.Test.YtlcegkafagdcjaaGreatDoorQK
namespace Go.Proofs.YtlcegkafagdcjaaGreatDoor
open Go.RowKit

/-- The identity cube. -/
def cuOneF (d : Int) : Cu := ⟨0, 1, 1, -(d % 2), 1, -(d % 2), -(d % 2), d % 2 - (oneF d).c⟩
set_option maxRecDepth 100000 in
set_option maxHeartbeats 6400000 in
theorem cuOne_any (d : Int) (w : World) (D : Dsc d) : Calls Tryz.prog 55 #[.int .i64 d] w fun e w' => e = .returned (.agg #[.int .i64 ((cuOneF d).a), .int .i64 ((cuOneF d).b), .int .i64 ((cuOneF d).c), .int .i64 ((cuOneF d).d), .int .i64 ((cuOneF d).e), .int .i64 ((cuOneF d).f), .int .i64 ((cuOneF d).g), .int .i64 ((cuOneF d).h)]) ∧ Below w.heap.size w w' := by
  have hP := Lib.hid (fun w => nuMod_any d 2 w (by omega) (by omega))
  obtain ⟨u, hu⟩ : ∃ u, oneF d = u := ⟨_, rfl⟩
  have hO := Lib.hid (fun w => coOne_any d u w D hu)
  have hc : -1000 ≤ u.c ∧ u.c ≤ 1000 := by
    rw [← hu]
    show -1000 ≤ (d % 2 - d) / 4 ∧ (d % 2 - d) / 4 ≤ 1000
    have h1 := D.lo; have h2 := D.hi
    omega
  have hp : 0 ≤ d % 2 ∧ d % 2 < 2 := by omega
  unfold cuOneF
  rw [hu]
  clear hu
  generalize d % 2 = p at *
  have hi : ∀ w : World, (Instr.field 33 (.agg #[.int .i64 u.a, .int .i64 u.b, .int .i64 u.c]) 2).run Tryz.prog w = .ok (.int .i64 u.c) w := fun _ => by kernel_rfl
  have K1 := Lib.hid (show wrap64 (-p) = -p from IntWalk.wrap64_in _ (by omega))
  have K2 := Lib.hid (show wrap64 (p - u.c) = p - u.c from IntWalk.wrap64_in _ (by omega))
  clear hc hp
  have k1 := K1.out
  have k2 := K2.out
  go_enter Tryz.func55, Tryz.ntmps55
  go_wp2_with (first | (go_at_call 95; (with_reducible refine (hP.out _).mono ?_); rintro e v ⟨rfl, rfl⟩) | (go_at_call 96; (with_reducible refine (hO.out _).mono ?_); rintro e v1 ⟨rfl, hB1⟩; have hZ1 := hB1.size; (try simp at hZ1); (try have zl1 : w.heap.size < v1.heap.size := by omega); (try have ze1 : w.heap.size ≤ v1.heap.size := by omega); (try have zn1 : ¬ w.heap.size = v1.heap.size := by omega); (try have zm1 : ¬ v1.heap.size = w.heap.size := by omega); have hR1 : Blk v1 (w.heap.size) 25 #[.int .i64 0, .int .i64 0, .int .i64 0, .int .i64 0, .int .i64 0, .int .i64 0, .int .i64 0, .int .i64 0] := Blk.call (by (repeat (first | with_reducible assumption | (with_reducible apply Blk.new_at; (first | rfl | (simp; done))) | with_reducible apply Blk.store3 | with_reducible apply Blk.store4 | (with_reducible apply Blk.farp; (first | omega | (simp <;> omega))) | with_reducible apply Blk.allocp | with_reducible apply Blk.drew | with_reducible apply Blk.drewN))) hB1; have cR1 := hR1.cell; have fR1 := hR1.frozen; have lR1 := hR1.lt; have mR1 := Nat.ne_of_gt lR1; have nR1 := Nat.ne_of_lt lR1))
  exact bodyPost_ret (v := .agg #[.int .i64 0, .int .i64 1, .int .i64 1, .int .i64 (-p), .int .i64 1, .int .i64 (-p), .int .i64 (-p), .int .i64 (p - u.c)]) (by simp [results, Tryz.results55, go_sem, *]) rfl ⟨rfl, (by repeat (first | with_reducible exact Below.refl _ _ | with_reducible assumption | with_reducible apply Below.drew | with_reducible apply below_drewN | (with_reducible apply below_setp; (first | omega | (simp <;> omega))) | (with_reducible apply below_allocp; (first | omega | (simp <;> omega))) | (with_reducible refine below_viap (by assumption) ?_ ?_; (first | omega | (simp <;> omega)))))⟩
theorem cuAct1_any (k : Cu) (m : M4) (w : World) : Calls Tryz.prog 32 #[.agg #[.int .i64 k.a, .int .i64 k.b, .int .i64 k.c, .int .i64 k.d, .int .i64 k.e, .int .i64 k.f, .int .i64 k.g, .int .i64 k.h], .int .i64 1, .agg #[.int .i64 m.p, .int .i64 m.q, .int .i64 m.r, .int .i64 m.s]] w fun e w' => e = .returned (.agg #[.int .i64 ((cuActF k 0 m).a), .int .i64 ((cuActF k 0 m).b), .int .i64 ((cuActF k 0 m).c), .int .i64 ((cuActF k 0 m).d), .int .i64 ((cuActF k 0 m).e), .int .i64 ((cuActF k 0 m).f), .int .i64 ((cuActF k 0 m).g), .int .i64 ((cuActF k 0 m).h)]) ∧ Below w.heap.size w w' := cuAct_any k 0 m w (by omega)
theorem cuAct2_any (k : Cu) (m : M4) (w : World) : Calls Tryz.prog 32 #[.agg #[.int .i64 k.a, .int .i64 k.b, .int .i64 k.c, .int .i64 k.d, .int .i64 k.e, .int .i64 k.f, .int .i64 k.g, .int .i64 k.h], .int .i64 2, .agg #[.int .i64 m.p, .int .i64 m.q, .int .i64 m.r, .int .i64 m.s]] w fun e w' => e = .returned (.agg #[.int .i64 ((cuActF k 1 m).a), .int .i64 ((cuActF k 1 m).b), .int .i64 ((cuActF k 1 m).c), .int .i64 ((cuActF k 1 m).d), .int .i64 ((cuActF k 1 m).e), .int .i64 ((cuActF k 1 m).f), .int .i64 ((cuActF k 1 m).g), .int .i64 ((cuActF k 1 m).h)]) ∧ Below w.heap.size w w' := cuAct_any k 1 m w (by omega)
theorem cuAct3_any (k : Cu) (m : M4) (w : World) : Calls Tryz.prog 32 #[.agg #[.int .i64 k.a, .int .i64 k.b, .int .i64 k.c, .int .i64 k.d, .int .i64 k.e, .int .i64 k.f, .int .i64 k.g, .int .i64 k.h], .int .i64 3, .agg #[.int .i64 m.p, .int .i64 m.q, .int .i64 m.r, .int .i64 m.s]] w fun e w' => e = .returned (.agg #[.int .i64 ((cuActF k 2 m).a), .int .i64 ((cuActF k 2 m).b), .int .i64 ((cuActF k 2 m).c), .int .i64 ((cuActF k 2 m).d), .int .i64 ((cuActF k 2 m).e), .int .i64 ((cuActF k 2 m).f), .int .i64 ((cuActF k 2 m).g), .int .i64 ((cuActF k 2 m).h)]) ∧ Below w.heap.size w w' := cuAct_any k 2 m w (by omega)
set_option maxRecDepth 100000 in
set_option maxHeartbeats 6400000 in
theorem cuMake_any (d : Int) (f g : Fm) (w : World) (D : Dsc d) (hf : f ∈ clsL d) (hg : g ∈ clsL d) : Calls Tryz.prog 49 #[.agg #[.int .i64 f.a, .int .i64 f.b, .int .i64 f.c], .agg #[.int .i64 g.a, .int .i64 g.b, .int .i64 g.c]] w fun e w' => ∃ k : Cu, e = .returned (.agg #[.int .i64 k.a, .int .i64 k.b, .int .i64 k.c, .int .i64 k.d, .int .i64 k.e, .int .i64 k.f, .int .i64 k.g, .int .i64 k.h]) ∧ Below w.heap.size w w' := by
  obtain ⟨x, y, S, Q, T, e, h, k, b, c, t1, t2, u⟩ := ud_ex D hf hg
  have cf := CF.of_mem D hf
  have cg := CF.of_mem D hg
  have hU := Lib.hid (fun w => coUnite_any d f g f g x y S Q T e h k b c t1 t2 w u cf.df cg.df cf.rd cg.rd)
  obtain ⟨ae1, ae2⟩ := u.ae
  obtain ⟨e1, e2⟩ := u.e_pos
  obtain ⟨c1, c2⟩ := u.c_bd
  have b1 := u.b0; have b2 := u.b1
  have bec := mul_bd (a := e) (x := c) (A := 20000) (X := 1000000) (by omega) (by omega) (by omega) (by omega)
  have hJ := Lib.hid (fun w => coJoined_any f.a e b c (f.a * c) w ⟨by omega, by omega⟩ ⟨by omega, by omega⟩ e1 ⟨by omega, by omega⟩)
  have hOp := Lib.hid (fun w => foOpposite_any ⟨f.a * e, b, c⟩ w (show Far b from ⟨by omega, by omega⟩))
  have hRd := Lib.hid (fun w => reReduce_any (oppF ⟨f.a * e, b, c⟩) w (opp_def u.dfn))
  have hI := Lib.hid (fun m w => foInvW_any m w)
  have K1 := Lib.hid (show wrap64 (-b) = -b from IntWalk.wrap64_in _ (by omega))
  have K2 := Lib.hid (show wrap64 (-c) = -c from IntWalk.wrap64_in _ (by omega))
  clear u cf cg ae1 ae2 b1 b2 bec c1 c2 e1 e2 D hf hg
  generalize red (oppF ⟨f.a * e, b, c⟩) = rr at *
  have ho : oppF ⟨f.a * e, b, c⟩ = ⟨f.a * e, -b, c⟩ := rfl
  rw [ho] at hOp hRd
  clear ho
  dsimp only at hOp hRd
  unfold RetUn at hU
  generalize f.a * e = l at *
  generalize f.a * c = ac at *
  generalize e * c = ec at *
  go_enter Tryz.func49, Tryz.ntmps49
  go_wp2_with fail
  refine (hU.out _).mono ?_
  rintro e v1 ⟨m1, m2, m3, m4, n1, n2, n3, n4, rfl, hc1⟩
  have hz1 := hc1.size
  (try simp at hz1)
  have hF1 : Blk v1 (w.heap.size) 33 #[.int .i64 f.a, .int .i64 f.b, .int .i64 f.c] := Blk.call (by (repeat (first | with_reducible assumption | (with_reducible apply Blk.new_at; (first | rfl | (simp; done))) | with_reducible apply Blk.store3 | with_reducible apply Blk.store4 | (with_reducible apply Blk.farp; (first | omega | (simp <;> omega))) | with_reducible apply Blk.allocp | with_reducible apply Blk.drew | with_reducible apply Blk.drewN))) hc1
  have cF1 := hF1.cell; have fF1 := hF1.frozen; have lF1 := hF1.lt; have mF1 := Nat.ne_of_gt lF1; have nF1 := Nat.ne_of_lt lF1
  have hG1 : Blk v1 (w.heap.size + 1) 33 #[.int .i64 g.a, .int .i64 g.b, .int .i64 g.c] := Blk.call (by (repeat (first | with_reducible assumption | (with_reducible apply Blk.new_at; (first | rfl | (simp; done))) | with_reducible apply Blk.store3 | with_reducible apply Blk.store4 | (with_reducible apply Blk.farp; (first | omega | (simp <;> omega))) | with_reducible apply Blk.allocp | with_reducible apply Blk.drew | with_reducible apply Blk.drewN))) hc1
  have cG1 := hG1.cell; have fG1 := hG1.frozen; have lG1 := hG1.lt; have mG1 := Nat.ne_of_gt lG1; have nG1 := Nat.ne_of_lt lG1
  have hR1 : Blk v1 (w.heap.size + 1 + 1) 25 #[.int .i64 0, .int .i64 0, .int .i64 0, .int .i64 0, .int .i64 0, .int .i64 0, .int .i64 0, .int .i64 0] := Blk.call (by (repeat (first | with_reducible assumption | (with_reducible apply Blk.new_at; (first | rfl | (simp; done))) | with_reducible apply Blk.store3 | with_reducible apply Blk.store4 | (with_reducible apply Blk.farp; (first | omega | (simp <;> omega))) | with_reducible apply Blk.allocp | with_reducible apply Blk.drew | with_reducible apply Blk.drewN))) hc1
  have cR1 := hR1.cell; have fR1 := hR1.frozen; have lR1 := hR1.lt; have mR1 := Nat.ne_of_gt lR1; have nR1 := Nat.ne_of_lt lR1
  have hb1 : Below w.heap.size w v1 := (by repeat (first | with_reducible exact Below.refl _ _ | with_reducible assumption | with_reducible apply Below.drew | with_reducible apply below_drewN | (with_reducible apply below_setp; (first | omega | (simp <;> omega))) | (with_reducible apply below_allocp; (first | omega | (simp <;> omega))) | (with_reducible refine below_viap (by assumption) ?_ ?_; (first | omega | (simp <;> omega)))))
  go_wp2_with fail
  refine (hJ.out _).mono ?_
  rintro e v2 ⟨rfl, hc2⟩
  have hz2 := hc2.size
  (try simp at hz2)
  have hF2 : Blk v2 (w.heap.size) 33 #[.int .i64 f.a, .int .i64 f.b, .int .i64 f.c] := Blk.call (by (repeat (first | with_reducible assumption | (with_reducible apply Blk.new_at; (first | rfl | (simp; done))) | with_reducible apply Blk.store3 | with_reducible apply Blk.store4 | (with_reducible apply Blk.farp; (first | omega | (simp <;> omega))) | with_reducible apply Blk.allocp | with_reducible apply Blk.drew | with_reducible apply Blk.drewN))) hc2
  have cF2 := hF2.cell; have fF2 := hF2.frozen; have lF2 := hF2.lt; have mF2 := Nat.ne_of_gt lF2; have nF2 := Nat.ne_of_lt lF2
  have hG2 : Blk v2 (w.heap.size + 1) 33 #[.int .i64 g.a, .int .i64 g.b, .int .i64 g.c] := Blk.call (by (repeat (first | with_reducible assumption | (with_reducible apply Blk.new_at; (first | rfl | (simp; done))) | with_reducible apply Blk.store3 | with_reducible apply Blk.store4 | (with_reducible apply Blk.farp; (first | omega | (simp <;> omega))) | with_reducible apply Blk.allocp | with_reducible apply Blk.drew | with_reducible apply Blk.drewN))) hc2
  have cG2 := hG2.cell; have fG2 := hG2.frozen; have lG2 := hG2.lt; have mG2 := Nat.ne_of_gt lG2; have nG2 := Nat.ne_of_lt lG2
  have hR2 : Blk v2 (w.heap.size + 1 + 1) 25 #[.int .i64 0, .int .i64 0, .int .i64 0, .int .i64 0, .int .i64 0, .int .i64 0, .int .i64 0, .int .i64 0] := Blk.call (by (repeat (first | with_reducible assumption | (with_reducible apply Blk.new_at; (first | rfl | (simp; done))) | with_reducible apply Blk.store3 | with_reducible apply Blk.store4 | (with_reducible apply Blk.farp; (first | omega | (simp <;> omega))) | with_reducible apply Blk.allocp | with_reducible apply Blk.drew | with_reducible apply Blk.drewN))) hc2
  have cR2 := hR2.cell; have fR2 := hR2.frozen; have lR2 := hR2.lt; have mR2 := Nat.ne_of_gt lR2; have nR2 := Nat.ne_of_lt lR2
  have hA2 : Blk v2 (v1.heap.size) 33 #[.int .i64 f.a, .int .i64 b, .int .i64 ec] := Blk.call (by (repeat (first | with_reducible assumption | (with_reducible apply Blk.new_at; (first | rfl | (simp; done))) | with_reducible apply Blk.store3 | with_reducible apply Blk.store4 | (with_reducible apply Blk.farp; (first | omega | (simp <;> omega))) | with_reducible apply Blk.allocp | with_reducible apply Blk.drew | with_reducible apply Blk.drewN))) hc2
  have cA2 := hA2.cell; have fA2 := hA2.frozen; have lA2 := hA2.lt; have mA2 := Nat.ne_of_gt lA2; have nA2 := Nat.ne_of_lt lA2
  have hE2 : Blk v2 (v1.heap.size + 1) 33 #[.int .i64 e, .int .i64 b, .int .i64 ac] := Blk.call (by (repeat (first | with_reducible assumption | (with_reducible apply Blk.new_at; (first | rfl | (simp; done))) | with_reducible apply Blk.store3 | with_reducible apply Blk.store4 | (with_reducible apply Blk.farp; (first | omega | (simp <;> omega))) | with_reducible apply Blk.allocp | with_reducible apply Blk.drew | with_reducible apply Blk.drewN))) hc2
  have cE2 := hE2.cell; have fE2 := hE2.frozen; have lE2 := hE2.lt; have mE2 := Nat.ne_of_gt lE2; have nE2 := Nat.ne_of_lt lE2
  have hM2 : Blk v2 (v1.heap.size + 1 + 1) 27 #[.int .i64 m1, .int .i64 m2, .int .i64 m3, .int .i64 m4] := Blk.call (by (repeat (first | with_reducible assumption | (with_reducible apply Blk.new_at; (first | rfl | (simp; done))) | with_reducible apply Blk.store3 | with_reducible apply Blk.store4 | (with_reducible apply Blk.farp; (first | omega | (simp <;> omega))) | with_reducible apply Blk.allocp | with_reducible apply Blk.drew | with_reducible apply Blk.drewN))) hc2
  have cM2 := hM2.cell; have fM2 := hM2.frozen; have lM2 := hM2.lt; have mM2 := Nat.ne_of_gt lM2; have nM2 := Nat.ne_of_lt lM2
  have hN2 : Blk v2 (v1.heap.size + 1 + 1 + 1) 27 #[.int .i64 n1, .int .i64 n2, .int .i64 n3, .int .i64 n4] := Blk.call (by (repeat (first | with_reducible assumption | (with_reducible apply Blk.new_at; (first | rfl | (simp; done))) | with_reducible apply Blk.store3 | with_reducible apply Blk.store4 | (with_reducible apply Blk.farp; (first | omega | (simp <;> omega))) | with_reducible apply Blk.allocp | with_reducible apply Blk.drew | with_reducible apply Blk.drewN))) hc2
  have cN2 := hN2.cell; have fN2 := hN2.frozen; have lN2 := hN2.lt; have mN2 := Nat.ne_of_gt lN2; have nN2 := Nat.ne_of_lt lN2
  have hb2 : Below w.heap.size w v2 := (by repeat (first | with_reducible exact Below.refl _ _ | with_reducible assumption | with_reducible apply Below.drew | with_reducible apply below_drewN | (with_reducible apply below_setp; (first | omega | (simp <;> omega))) | (with_reducible apply below_allocp; (first | omega | (simp <;> omega))) | (with_reducible refine below_viap (by assumption) ?_ ?_; (first | omega | (simp <;> omega)))))
  clear hF1 cF1 fF1 lF1 mF1 nF1 hG1 cG1 fG1 lG1 mG1 nG1 hR1 cR1 fR1 lR1 mR1 nR1
  go_wp2_with fail
  refine (hOp.out _).mono ?_
  rintro e v3 ⟨rfl, hc3⟩
  have hz3 := hc3.size
  (try simp at hz3)
  have hF3 : Blk v3 (w.heap.size) 33 #[.int .i64 f.a, .int .i64 f.b, .int .i64 f.c] := Blk.call (by (repeat (first | with_reducible assumption | (with_reducible apply Blk.new_at; (first | rfl | (simp; done))) | with_reducible apply Blk.store3 | with_reducible apply Blk.store4 | (with_reducible apply Blk.farp; (first | omega | (simp <;> omega))) | with_reducible apply Blk.allocp | with_reducible apply Blk.drew | with_reducible apply Blk.drewN))) hc3
  have cF3 := hF3.cell; have fF3 := hF3.frozen; have lF3 := hF3.lt; have mF3 := Nat.ne_of_gt lF3; have nF3 := Nat.ne_of_lt lF3
  have hG3 : Blk v3 (w.heap.size + 1) 33 #[.int .i64 g.a, .int .i64 g.b, .int .i64 g.c] := Blk.call (by (repeat (first | with_reducible assumption | (with_reducible apply Blk.new_at; (first | rfl | (simp; done))) | with_reducible apply Blk.store3 | with_reducible apply Blk.store4 | (with_reducible apply Blk.farp; (first | omega | (simp <;> omega))) | with_reducible apply Blk.allocp | with_reducible apply Blk.drew | with_reducible apply Blk.drewN))) hc3
  have cG3 := hG3.cell; have fG3 := hG3.frozen; have lG3 := hG3.lt; have mG3 := Nat.ne_of_gt lG3; have nG3 := Nat.ne_of_lt lG3
  have hR3 : Blk v3 (w.heap.size + 1 + 1) 25 #[.int .i64 0, .int .i64 0, .int .i64 0, .int .i64 0, .int .i64 0, .int .i64 0, .int .i64 0, .int .i64 0] := Blk.call (by (repeat (first | with_reducible assumption | (with_reducible apply Blk.new_at; (first | rfl | (simp; done))) | with_reducible apply Blk.store3 | with_reducible apply Blk.store4 | (with_reducible apply Blk.farp; (first | omega | (simp <;> omega))) | with_reducible apply Blk.allocp | with_reducible apply Blk.drew | with_reducible apply Blk.drewN))) hc3
  have cR3 := hR3.cell; have fR3 := hR3.frozen; have lR3 := hR3.lt; have mR3 := Nat.ne_of_gt lR3; have nR3 := Nat.ne_of_lt lR3
  have hA3 : Blk v3 (v1.heap.size) 33 #[.int .i64 f.a, .int .i64 b, .int .i64 ec] := Blk.call (by (repeat (first | with_reducible assumption | (with_reducible apply Blk.new_at; (first | rfl | (simp; done))) | with_reducible apply Blk.store3 | with_reducible apply Blk.store4 | (with_reducible apply Blk.farp; (first | omega | (simp <;> omega))) | with_reducible apply Blk.allocp | with_reducible apply Blk.drew | with_reducible apply Blk.drewN))) hc3
  have cA3 := hA3.cell; have fA3 := hA3.frozen; have lA3 := hA3.lt; have mA3 := Nat.ne_of_gt lA3; have nA3 := Nat.ne_of_lt lA3
  have hE3 : Blk v3 (v1.heap.size + 1) 33 #[.int .i64 e, .int .i64 b, .int .i64 ac] := Blk.call (by (repeat (first | with_reducible assumption | (with_reducible apply Blk.new_at; (first | rfl | (simp; done))) | with_reducible apply Blk.store3 | with_reducible apply Blk.store4 | (with_reducible apply Blk.farp; (first | omega | (simp <;> omega))) | with_reducible apply Blk.allocp | with_reducible apply Blk.drew | with_reducible apply Blk.drewN))) hc3
  have cE3 := hE3.cell; have fE3 := hE3.frozen; have lE3 := hE3.lt; have mE3 := Nat.ne_of_gt lE3; have nE3 := Nat.ne_of_lt lE3
  have hM3 : Blk v3 (v1.heap.size + 1 + 1) 27 #[.int .i64 m1, .int .i64 m2, .int .i64 m3, .int .i64 m4] := Blk.call (by (repeat (first | with_reducible assumption | (with_reducible apply Blk.new_at; (first | rfl | (simp; done))) | with_reducible apply Blk.store3 | with_reducible apply Blk.store4 | (with_reducible apply Blk.farp; (first | omega | (simp <;> omega))) | with_reducible apply Blk.allocp | with_reducible apply Blk.drew | with_reducible apply Blk.drewN))) hc3
  have cM3 := hM3.cell; have fM3 := hM3.frozen; have lM3 := hM3.lt; have mM3 := Nat.ne_of_gt lM3; have nM3 := Nat.ne_of_lt lM3
  have hN3 : Blk v3 (v1.heap.size + 1 + 1 + 1) 27 #[.int .i64 n1, .int .i64 n2, .int .i64 n3, .int .i64 n4] := Blk.call (by (repeat (first | with_reducible assumption | (with_reducible apply Blk.new_at; (first | rfl | (simp; done))) | with_reducible apply Blk.store3 | with_reducible apply Blk.store4 | (with_reducible apply Blk.farp; (first | omega | (simp <;> omega))) | with_reducible apply Blk.allocp | with_reducible apply Blk.drew | with_reducible apply Blk.drewN))) hc3
  have cN3 := hN3.cell; have fN3 := hN3.frozen; have lN3 := hN3.lt; have mN3 := Nat.ne_of_gt lN3; have nN3 := Nat.ne_of_lt lN3
  have hJ3 : Blk v3 (v2.heap.size) 33 #[.int .i64 l, .int .i64 b, .int .i64 c] := Blk.call (by (repeat (first | with_reducible assumption | (with_reducible apply Blk.new_at; (first | rfl | (simp; done))) | with_reducible apply Blk.store3 | with_reducible apply Blk.store4 | (with_reducible apply Blk.farp; (first | omega | (simp <;> omega))) | with_reducible apply Blk.allocp | with_reducible apply Blk.drew | with_reducible apply Blk.drewN))) hc3
  have cJ3 := hJ3.cell; have fJ3 := hJ3.frozen; have lJ3 := hJ3.lt; have mJ3 := Nat.ne_of_gt lJ3; have nJ3 := Nat.ne_of_lt lJ3
  have hb3 : Below w.heap.size w v3 := (by repeat (first | with_reducible exact Below.refl _ _ | with_reducible assumption | with_reducible apply Below.drew | with_reducible apply below_drewN | (with_reducible apply below_setp; (first | omega | (simp <;> omega))) | (with_reducible apply below_allocp; (first | omega | (simp <;> omega))) | (with_reducible refine below_viap (by assumption) ?_ ?_; (first | omega | (simp <;> omega)))))
  clear hF2 cF2 fF2 lF2 mF2 nF2 hG2 cG2 fG2 lG2 mG2 nG2 hR2 cR2 fR2 lR2 mR2 nR2 hA2 cA2 fA2 lA2 mA2 nA2 hE2 cE2 fE2 lE2 mE2 nE2 hM2 cM2 fM2 lM2 mM2 nM2 hN2 cN2 fN2 lN2 mN2 nN2
  go_wp2_with fail
  refine (hRd.out _).mono ?_
  rintro e v4 ⟨p1, p2, p3, p4, rfl, hc4⟩
  have hz4 := hc4.size
  (try simp at hz4)
  have hF4 : Blk v4 (w.heap.size) 33 #[.int .i64 f.a, .int .i64 f.b, .int .i64 f.c] := Blk.call (by (repeat (first | with_reducible assumption | (with_reducible apply Blk.new_at; (first | rfl | (simp; done))) | with_reducible apply Blk.store3 | with_reducible apply Blk.store4 | (with_reducible apply Blk.farp; (first | omega | (simp <;> omega))) | with_reducible apply Blk.allocp | with_reducible apply Blk.drew | with_reducible apply Blk.drewN))) hc4
  have cF4 := hF4.cell; have fF4 := hF4.frozen; have lF4 := hF4.lt; have mF4 := Nat.ne_of_gt lF4; have nF4 := Nat.ne_of_lt lF4
  have hG4 : Blk v4 (w.heap.size + 1) 33 #[.int .i64 g.a, .int .i64 g.b, .int .i64 g.c] := Blk.call (by (repeat (first | with_reducible assumption | (with_reducible apply Blk.new_at; (first | rfl | (simp; done))) | with_reducible apply Blk.store3 | with_reducible apply Blk.store4 | (with_reducible apply Blk.farp; (first | omega | (simp <;> omega))) | with_reducible apply Blk.allocp | with_reducible apply Blk.drew | with_reducible apply Blk.drewN))) hc4
  have cG4 := hG4.cell; have fG4 := hG4.frozen; have lG4 := hG4.lt; have mG4 := Nat.ne_of_gt lG4; have nG4 := Nat.ne_of_lt lG4
  have hR4 : Blk v4 (w.heap.size + 1 + 1) 25 #[.int .i64 0, .int .i64 0, .int .i64 0, .int .i64 0, .int .i64 0, .int .i64 0, .int .i64 0, .int .i64 0] := Blk.call (by (repeat (first | with_reducible assumption | (with_reducible apply Blk.new_at; (first | rfl | (simp; done))) | with_reducible apply Blk.store3 | with_reducible apply Blk.store4 | (with_reducible apply Blk.farp; (first | omega | (simp <;> omega))) | with_reducible apply Blk.allocp | with_reducible apply Blk.drew | with_reducible apply Blk.drewN))) hc4
  have cR4 := hR4.cell; have fR4 := hR4.frozen; have lR4 := hR4.lt; have mR4 := Nat.ne_of_gt lR4; have nR4 := Nat.ne_of_lt lR4
  have hA4 : Blk v4 (v1.heap.size) 33 #[.int .i64 f.a, .int .i64 b, .int .i64 ec] := Blk.call (by (repeat (first | with_reducible assumption | (with_reducible apply Blk.new_at; (first | rfl | (simp; done))) | with_reducible apply Blk.store3 | with_reducible apply Blk.store4 | (with_reducible apply Blk.farp; (first | omega | (simp <;> omega))) | with_reducible apply Blk.allocp | with_reducible apply Blk.drew | with_reducible apply Blk.drewN))) hc4
  have cA4 := hA4.cell; have fA4 := hA4.frozen; have lA4 := hA4.lt; have mA4 := Nat.ne_of_gt lA4; have nA4 := Nat.ne_of_lt lA4
  have hE4 : Blk v4 (v1.heap.size + 1) 33 #[.int .i64 e, .int .i64 b, .int .i64 ac] := Blk.call (by (repeat (first | with_reducible assumption | (with_reducible apply Blk.new_at; (first | rfl | (simp; done))) | with_reducible apply Blk.store3 | with_reducible apply Blk.store4 | (with_reducible apply Blk.farp; (first | omega | (simp <;> omega))) | with_reducible apply Blk.allocp | with_reducible apply Blk.drew | with_reducible apply Blk.drewN))) hc4
  have cE4 := hE4.cell; have fE4 := hE4.frozen; have lE4 := hE4.lt; have mE4 := Nat.ne_of_gt lE4; have nE4 := Nat.ne_of_lt lE4
  have hM4 : Blk v4 (v1.heap.size + 1 + 1) 27 #[.int .i64 m1, .int .i64 m2, .int .i64 m3, .int .i64 m4] := Blk.call (by (repeat (first | with_reducible assumption | (with_reducible apply Blk.new_at; (first | rfl | (simp; done))) | with_reducible apply Blk.store3 | with_reducible apply Blk.store4 | (with_reducible apply Blk.farp; (first | omega | (simp <;> omega))) | with_reducible apply Blk.allocp | with_reducible apply Blk.drew | with_reducible apply Blk.drewN))) hc4
  have cM4 := hM4.cell; have fM4 := hM4.frozen; have lM4 := hM4.lt; have mM4 := Nat.ne_of_gt lM4; have nM4 := Nat.ne_of_lt lM4
  have hN4 : Blk v4 (v1.heap.size + 1 + 1 + 1) 27 #[.int .i64 n1, .int .i64 n2, .int .i64 n3, .int .i64 n4] := Blk.call (by (repeat (first | with_reducible assumption | (with_reducible apply Blk.new_at; (first | rfl | (simp; done))) | with_reducible apply Blk.store3 | with_reducible apply Blk.store4 | (with_reducible apply Blk.farp; (first | omega | (simp <;> omega))) | with_reducible apply Blk.allocp | with_reducible apply Blk.drew | with_reducible apply Blk.drewN))) hc4
  have cN4 := hN4.cell; have fN4 := hN4.frozen; have lN4 := hN4.lt; have mN4 := Nat.ne_of_gt lN4; have nN4 := Nat.ne_of_lt lN4
  have hJ4 : Blk v4 (v2.heap.size) 33 #[.int .i64 l, .int .i64 b, .int .i64 c] := Blk.call (by (repeat (first | with_reducible assumption | (with_reducible apply Blk.new_at; (first | rfl | (simp; done))) | with_reducible apply Blk.store3 | with_reducible apply Blk.store4 | (with_reducible apply Blk.farp; (first | omega | (simp <;> omega))) | with_reducible apply Blk.allocp | with_reducible apply Blk.drew | with_reducible apply Blk.drewN))) hc4
  have cJ4 := hJ4.cell; have fJ4 := hJ4.frozen; have lJ4 := hJ4.lt; have mJ4 := Nat.ne_of_gt lJ4; have nJ4 := Nat.ne_of_lt lJ4
  have hb4 : Below w.heap.size w v4 := (by repeat (first | with_reducible exact Below.refl _ _ | with_reducible assumption | with_reducible apply Below.drew | with_reducible apply below_drewN | (with_reducible apply below_setp; (first | omega | (simp <;> omega))) | (with_reducible apply below_allocp; (first | omega | (simp <;> omega))) | (with_reducible refine below_viap (by assumption) ?_ ?_; (first | omega | (simp <;> omega)))))
  clear hF3 cF3 fF3 lF3 mF3 nF3 hG3 cG3 fG3 lG3 mG3 nG3 hR3 cR3 fR3 lR3 mR3 nR3 hA3 cA3 fA3 lA3 mA3 nA3 hE3 cE3 fE3 lE3 mE3 nE3 hM3 cM3 fM3 lM3 mM3 nM3 hN3 cN3 fN3 lN3 mN3 nN3 hJ3 cJ3 fJ3 lJ3 mJ3 nJ3
  have HI1 := Lib.hid (fun w => hI.out ⟨m1, m2, m3, m4⟩ w)
  have HI2 := Lib.hid (fun w => hI.out ⟨n1, n2, n3, n4⟩ w)
  dsimp only at HI1 HI2
  generalize invW ⟨m1, m2, m3, m4⟩ = mi at *
  generalize invW ⟨n1, n2, n3, n4⟩ = ni at *
  have HA1 := Lib.hid (fun w => cuAct1_any ⟨0, f.a, 1, 0, e, -b, 0, -c⟩ mi w)
  dsimp only at HA1
  generalize cuActF ⟨0, f.a, 1, 0, e, -b, 0, -c⟩ 0 mi = k1 at *
  have HA2 := Lib.hid (fun w => cuAct2_any k1 ni w)
  generalize cuActF k1 1 ni = k2 at *
  have HA3 := Lib.hid (fun w => cuAct3_any k2 ⟨p1, p2, p3, p4⟩ w)
  dsimp only at HA3
  generalize cuActF k2 2 ⟨p1, p2, p3, p4⟩ = k3 at *
  have k1' := K1.out
  have k2' := K2.out
  clear hI hU hJ hOp hRd
  go_upto_region 5 with (fail)
  clear k1' k2'
  generalize hw5 : ((v4.alloc (.cells #[.int .i64 rr.a, .int .i64 rr.b, .int .i64 rr.c] 33)).alloc (.cells #[.int .i64 p1, .int .i64 p2, .int .i64 p3, .int .i64 p4] 27)).alloc (.cells #[.int .i64 0, .int .i64 f.a, .int .i64 1, .int .i64 0, .int .i64 e, .int .i64 (-b), .int .i64 0, .int .i64 (-c)] 25) = v5
  have hR5 : Blk v5 (w.heap.size + 1 + 1) 25 #[.int .i64 0, .int .i64 0, .int .i64 0, .int .i64 0, .int .i64 0, .int .i64 0, .int .i64 0, .int .i64 0] := by rw [← hw5]; (repeat (first | with_reducible assumption | (with_reducible apply Blk.new_at; (first | rfl | (simp; done))) | with_reducible apply Blk.store3 | with_reducible apply Blk.store4 | (with_reducible apply Blk.farp; (first | omega | (simp <;> omega))) | with_reducible apply Blk.allocp | with_reducible apply Blk.drew | with_reducible apply Blk.drewN))
  have cR5 := hR5.cell; have fR5 := hR5.frozen; have lR5 := hR5.lt; have mR5 := Nat.ne_of_gt lR5; have nR5 := Nat.ne_of_lt lR5
  have hM5 : Blk v5 (v1.heap.size + 1 + 1) 27 #[.int .i64 m1, .int .i64 m2, .int .i64 m3, .int .i64 m4] := by rw [← hw5]; (repeat (first | with_reducible assumption | (with_reducible apply Blk.new_at; (first | rfl | (simp; done))) | with_reducible apply Blk.store3 | with_reducible apply Blk.store4 | (with_reducible apply Blk.farp; (first | omega | (simp <;> omega))) | with_reducible apply Blk.allocp | with_reducible apply Blk.drew | with_reducible apply Blk.drewN))
  have cM5 := hM5.cell; have fM5 := hM5.frozen; have lM5 := hM5.lt; have mM5 := Nat.ne_of_gt lM5; have nM5 := Nat.ne_of_lt lM5
  have hN5 : Blk v5 (v1.heap.size + 1 + 1 + 1) 27 #[.int .i64 n1, .int .i64 n2, .int .i64 n3, .int .i64 n4] := by rw [← hw5]; (repeat (first | with_reducible assumption | (with_reducible apply Blk.new_at; (first | rfl | (simp; done))) | with_reducible apply Blk.store3 | with_reducible apply Blk.store4 | (with_reducible apply Blk.farp; (first | omega | (simp <;> omega))) | with_reducible apply Blk.allocp | with_reducible apply Blk.drew | with_reducible apply Blk.drewN))
  have cN5 := hN5.cell; have fN5 := hN5.frozen; have lN5 := hN5.lt; have mN5 := Nat.ne_of_gt lN5; have nN5 := Nat.ne_of_lt lN5
  have hL5 : Blk v5 (v4.heap.size + 1) 27 #[.int .i64 p1, .int .i64 p2, .int .i64 p3, .int .i64 p4] := by rw [← hw5]; (repeat (first | with_reducible assumption | (with_reducible apply Blk.new_at; (first | rfl | (simp; done))) | with_reducible apply Blk.store3 | with_reducible apply Blk.store4 | (with_reducible apply Blk.farp; (first | omega | (simp <;> omega))) | with_reducible apply Blk.allocp | with_reducible apply Blk.drew | with_reducible apply Blk.drewN))
  have cL5 := hL5.cell; have fL5 := hL5.frozen; have lL5 := hL5.lt; have mL5 := Nat.ne_of_gt lL5; have nL5 := Nat.ne_of_lt lL5
  have hK5 : Blk v5 (v4.heap.size + 1 + 1) 25 #[.int .i64 0, .int .i64 f.a, .int .i64 1, .int .i64 0, .int .i64 e, .int .i64 (-b), .int .i64 0, .int .i64 (-c)] := by rw [← hw5]; (repeat (first | with_reducible assumption | (with_reducible apply Blk.new_at; (first | rfl | (simp; done))) | with_reducible apply Blk.store3 | with_reducible apply Blk.store4 | (with_reducible apply Blk.farp; (first | omega | (simp <;> omega))) | with_reducible apply Blk.allocp | with_reducible apply Blk.drew | with_reducible apply Blk.drewN))
  have cK5 := hK5.cell; have fK5 := hK5.frozen; have lK5 := hK5.lt; have mK5 := Nat.ne_of_gt lK5; have nK5 := Nat.ne_of_lt lK5
  have hb5 : Below w.heap.size w v5 := by rw [← hw5]; exact (by repeat (first | with_reducible exact Below.refl _ _ | with_reducible assumption | with_reducible apply Below.drew | with_reducible apply below_drewN | (with_reducible apply below_setp; (first | omega | (simp <;> omega))) | (with_reducible apply below_allocp; (first | omega | (simp <;> omega))) | (with_reducible refine below_viap (by assumption) ?_ ?_; (first | omega | (simp <;> omega)))))
  have hz5 : v4.heap.size ≤ v5.heap.size := by rw [← hw5]; simp <;> omega
  clear hw5 hb4 hF4 cF4 fF4 lF4 mF4 nF4 hG4 cG4 fG4 lG4 mG4 nG4 hR4 cR4 fR4 lR4 mR4 nR4 hA4 cA4 fA4 lA4 mA4 nA4 hE4 cE4 fE4 lE4 mE4 nE4 hM4 cM4 fM4 lM4 mM4 nM4 hN4 cN4 fN4 lN4 mN4 nN4 hJ4 cJ4 fJ4 lJ4 mJ4 nJ4
  refine wp_region_calm 9 (Below (v5.heap.size) _) (by kernel_rfl) (by kernel_rfl) ((Below.refl _ _).drew) ?_
  simp only [List.take_succ_cons, List.take_zero, List.drop_succ_cons, List.drop_zero]
  repeat (first | (apply wpCalm_go; go_simp; (intro w' hw' hcc hff; go_simp; first | exact rfl | ((with_reducible refine (HI1.out _).mono ?_); rintro ee w1 ⟨rfl, hb⟩; exact ⟨rfl, calm_call (by simp <;> omega) hw' hb⟩) | ((with_reducible refine (HI2.out _).mono ?_); rintro ee w1 ⟨rfl, hb⟩; exact ⟨rfl, calm_call (by simp <;> omega) hw' hb⟩) | ((with_reducible refine (HA1.out _).mono ?_); rintro ee w1 ⟨rfl, hb⟩; exact ⟨rfl, calm_call (by simp <;> omega) hw' hb⟩) | ((with_reducible refine (HA2.out _).mono ?_); rintro ee w1 ⟨rfl, hb⟩; exact ⟨rfl, calm_call (by simp <;> omega) hw' hb⟩) | ((with_reducible refine (HA3.out _).mono ?_); rintro ee w1 ⟨rfl, hb⟩; exact ⟨rfl, calm_call (by simp <;> omega) hw' hb⟩)); (intro K hK; go_simp; refine hK _ ?_; clear hK K)) | (apply wpCalm_skip; go_simp; (try (focus (simp [undef]; done))); (intro K hK; go_simp; refine hK _ ?_; clear hK K)))
  refine wpCalm_nil ?_
  intro w1 hw1
  have hcc := (calm_cells hw1).1
  have hff := (calm_cells hw1).2
  have hss := calm_size hw1
  have hsz := hw1.size
  (try simp at hsz)
  have hR9 : Blk w1 (w.heap.size + 1 + 1) 25 #[.int .i64 0, .int .i64 0, .int .i64 0, .int .i64 0, .int .i64 0, .int .i64 0, .int .i64 0, .int .i64 0] := Blk.below hR5 hw1 (by omega)
  have cR9 := hR9.cell; have fR9 := hR9.frozen; have lR9 := hR9.lt
  clear hcc hff hss
  go_wp2
  exact bodyPost_ret (v := .agg #[.int .i64 k3.a, .int .i64 k3.b, .int .i64 k3.c, .int .i64 k3.d, .int .i64 k3.e, .int .i64 k3.f, .int .i64 k3.g, .int .i64 k3.h]) (by simp [results, Tryz.results49, go_sem, *]) rfl ⟨k3, rfl, (by repeat (first | with_reducible exact Below.refl _ _ | with_reducible assumption | with_reducible apply Below.drew | with_reducible apply below_drewN | (with_reducible apply below_setp; (first | omega | (simp <;> omega))) | (with_reducible apply below_allocp; (first | omega | (simp <;> omega))) | (with_reducible refine below_viap (by assumption) ?_ ?_; (first | omega | (simp <;> omega)))))⟩
end Go.Proofs.YtlcegkafagdcjaaGreatDoor
