/- FnCubes returns true: for every drawn projective cube with definite forms, the composite of its three forms is the identity, and all three have its discriminant. Conditions: none. -/
import Derived.Test.YtjjkndgokdofdaaQN
import Derived.Test.YtjjkndgokdofdaaQM
import Derived.Test.YtjjkndgokdofdaaW2
namespace Go.Proofs.Ytjjkndgokdofdaa
open Go.RowKit Go.ChangeShapes Go.WideShapes Go.ChangeAt Go.Joins

set_option maxRecDepth 100000 in
set_option maxHeartbeats 25600000 in
theorem walk_FnCubes (zs es : List Int) (v u : Value) (w : World) (hz : ReB zs v w) (he : ReB es u w) :
    Calls Try.prog 4 #[v, u] w fun e w' => e = .returned (.bool true) ∧ Below w.heap.size w w' := by
  have HZ := Lib.hid hz
  obtain ⟨A, c1', rfl⟩ := hz.shape
  obtain ⟨A2, c2', rfl⟩ := he.shape
  clear hz he
  by_cases hbig : zs.length ≤ 1048576 ∧ es.length ≤ 1048576 - zs.length
  · have Hb := Lib.hid (fun w => big_no A A2 zs.length es.length c1' c2' w hbig.1 hbig.2)
    have HR := Lib.hid (HZ.out.rd hbig.1)
    clear HZ hbig
    go_enter Try.func4, Try.ntmps4
    go_wp2_with (go_at_call 6; (with_reducible refine (Hb.out _).mono ?_); rintro e v ⟨rfl, rfl⟩)
    refine (drawCFm_any zs _ _ _ HR.out (Nat.le_refl _)).mono ?_
    rintro e v1 ⟨k, rfl, hb1⟩
    have hz1 := hb1.size
    clear HR Hb
    cases hk : cuB k with
    | false =>
      have HI := Lib.hid (fun w => implCF_no k w hk)
      have HS := Lib.hid (fun w => specCF_no k w hk)
      clear hk
      go_wp2_with fail
      refine (HI.out _).mono ?_
      rintro e v2 ⟨rfl, hc2⟩
      have hz2 := hc2.size
      (try simp at hz2)
      have hK2 : Blk v2 (v1.heap.size) 45 #[.int .i64 k.a, .int .i64 k.b, .int .i64 k.c, .int .i64 k.d, .int .i64 k.e, .int .i64 k.f, .int .i64 k.g, .int .i64 k.h] := Blk.call (by (repeat (first | with_reducible assumption | (with_reducible apply Blk.new_at; (first | rfl | (simp; done))) | with_reducible apply Blk.store3 | with_reducible apply Blk.store4 | (with_reducible apply Blk.farp; (first | omega | (simp <;> omega))) | with_reducible apply Blk.allocp | with_reducible apply Blk.drew | with_reducible apply Blk.drewN))) hc2
      have cK2 := hK2.cell; have fK2 := hK2.frozen; have lK2 := hK2.lt; have mK2 := Nat.ne_of_gt lK2; have nK2 := Nat.ne_of_lt lK2
      have hb2 : Below w.heap.size w v2 := (by repeat (first | with_reducible exact Below.refl _ _ | with_reducible assumption | with_reducible apply Below.drew | with_reducible apply below_drewN | (with_reducible apply below_setp; (first | omega | (simp <;> omega))) | (with_reducible apply below_allocp; (first | omega | (simp <;> omega))) | (with_reducible refine below_viap (by assumption) ?_ ?_; (first | omega | (simp <;> omega)))))
      have : ¬ v1.heap.size = v2.heap.size + 1 := by have := lK2; omega
      have : v1.heap.size < v2.heap.size + 1 := by have := lK2; omega
      have : ¬ v1.heap.size = v2.heap.size + 1 + 1 := by have := lK2; omega
      have : v1.heap.size < v2.heap.size + 1 + 1 := by have := lK2; omega
      go_wp2_with fail
      refine (HS.out _).mono ?_
      rintro e v3 ⟨rfl, hc3⟩
      have hz3 := hc3.size
      (try simp at hz3)
      have hK3 : Blk v3 (v1.heap.size) 45 #[.int .i64 k.a, .int .i64 k.b, .int .i64 k.c, .int .i64 k.d, .int .i64 k.e, .int .i64 k.f, .int .i64 k.g, .int .i64 k.h] := Blk.call (by (repeat (first | with_reducible assumption | (with_reducible apply Blk.new_at; (first | rfl | (simp; done))) | with_reducible apply Blk.store3 | with_reducible apply Blk.store4 | (with_reducible apply Blk.farp; (first | omega | (simp <;> omega))) | with_reducible apply Blk.allocp | with_reducible apply Blk.drew | with_reducible apply Blk.drewN))) hc3
      have cK3 := hK3.cell; have fK3 := hK3.frozen; have lK3 := hK3.lt; have mK3 := Nat.ne_of_gt lK3; have nK3 := Nat.ne_of_lt lK3
      have hF3 : Blk v3 (v2.heap.size) 33 #[.int .i64 0, .int .i64 0, .int .i64 0] := Blk.call (by (repeat (first | with_reducible assumption | (with_reducible apply Blk.new_at; (first | rfl | (simp; done))) | with_reducible apply Blk.store3 | with_reducible apply Blk.store4 | (with_reducible apply Blk.farp; (first | omega | (simp <;> omega))) | with_reducible apply Blk.allocp | with_reducible apply Blk.drew | with_reducible apply Blk.drewN))) hc3
      have cF3 := hF3.cell; have fF3 := hF3.frozen; have lF3 := hF3.lt; have mF3 := Nat.ne_of_gt lF3; have nF3 := Nat.ne_of_lt lF3
      have hG3 : Blk v3 (v2.heap.size + 1) 33 #[.int .i64 0, .int .i64 0, .int .i64 0] := Blk.call (by (repeat (first | with_reducible assumption | (with_reducible apply Blk.new_at; (first | rfl | (simp; done))) | with_reducible apply Blk.store3 | with_reducible apply Blk.store4 | (with_reducible apply Blk.farp; (first | omega | (simp <;> omega))) | with_reducible apply Blk.allocp | with_reducible apply Blk.drew | with_reducible apply Blk.drewN))) hc3
      have cG3 := hG3.cell; have fG3 := hG3.frozen; have lG3 := hG3.lt; have mG3 := Nat.ne_of_gt lG3; have nG3 := Nat.ne_of_lt lG3
      have hU3 : Blk v3 (v2.heap.size + 1 + 1) 33 #[.int .i64 0, .int .i64 0, .int .i64 0] := Blk.call (by (repeat (first | with_reducible assumption | (with_reducible apply Blk.new_at; (first | rfl | (simp; done))) | with_reducible apply Blk.store3 | with_reducible apply Blk.store4 | (with_reducible apply Blk.farp; (first | omega | (simp <;> omega))) | with_reducible apply Blk.allocp | with_reducible apply Blk.drew | with_reducible apply Blk.drewN))) hc3
      have cU3 := hU3.cell; have fU3 := hU3.frozen; have lU3 := hU3.lt; have mU3 := Nat.ne_of_gt lU3; have nU3 := Nat.ne_of_lt lU3
      have hb3 : Below w.heap.size w v3 := (by repeat (first | with_reducible exact Below.refl _ _ | with_reducible assumption | with_reducible apply Below.drew | with_reducible apply below_drewN | (with_reducible apply below_setp; (first | omega | (simp <;> omega))) | (with_reducible apply below_allocp; (first | omega | (simp <;> omega))) | (with_reducible refine below_viap (by assumption) ?_ ?_; (first | omega | (simp <;> omega)))))
      clear hK2 cK2 fK2 lK2 mK2 nK2
      have : ¬ v1.heap.size = v3.heap.size + 1 := by have := lK3; omega
      have : v1.heap.size < v3.heap.size + 1 := by have := lK3; omega
      have : ¬ v1.heap.size = v3.heap.size + 1 + 1 := by have := lK3; omega
      have : v1.heap.size < v3.heap.size + 1 + 1 := by have := lK3; omega
      have : ¬ v2.heap.size = v3.heap.size + 1 := by have := lF3; omega
      have : v2.heap.size < v3.heap.size + 1 := by have := lF3; omega
      have : ¬ v2.heap.size = v3.heap.size + 1 + 1 := by have := lF3; omega
      have : v2.heap.size < v3.heap.size + 1 + 1 := by have := lF3; omega
      have : ¬ v2.heap.size + 1 = v3.heap.size + 1 := by have := lG3; omega
      have : v2.heap.size + 1 < v3.heap.size + 1 := by have := lG3; omega
      have : ¬ v2.heap.size + 1 = v3.heap.size + 1 + 1 := by have := lG3; omega
      have : v2.heap.size + 1 < v3.heap.size + 1 + 1 := by have := lG3; omega
      have : ¬ v2.heap.size + 1 + 1 = v3.heap.size + 1 := by have := lU3; omega
      have : v2.heap.size + 1 + 1 < v3.heap.size + 1 := by have := lU3; omega
      have : ¬ v2.heap.size + 1 + 1 = v3.heap.size + 1 + 1 := by have := lU3; omega
      have : v2.heap.size + 1 + 1 < v3.heap.size + 1 + 1 := by have := lU3; omega
      go_wp2
      go_ret
      exact ⟨rfl, (by repeat (first | with_reducible exact Below.refl _ _ | with_reducible assumption | with_reducible apply Below.drew | with_reducible apply below_drewN | (with_reducible apply below_setp; (first | omega | (simp <;> omega))) | (with_reducible apply below_allocp; (first | omega | (simp <;> omega))) | (with_reducible refine below_viap (by assumption) ?_ ?_; (first | omega | (simp <;> omega)))))⟩
    | true =>
      have V := cuB_v hk
      have HI := Lib.hid (fun w => implCF_yes k w hk)
      have HS := Lib.hid (fun w => specCF_yes k w hk)
      have HC := Lib.hid (fun w => implCD_yes k w hk)
      have HP := Lib.hid (fun w => implPj_yes k w hk)
      have HD1 := Lib.hid (fun w => implDisc_q (cuF k) w (cuF_bd V))
      have HD2 := Lib.hid (fun w => implDisc_q (cuF2 k) w (cuF_bd V.turn))
      have HD3 := Lib.hid (fun w => implDisc_q (cuF3 k) w (cuF_bd V.turn.turn))
      rw [cu_disc2 k] at HD2
      rw [cu_disc3 k] at HD3
      have HL := Lib.hid (fun (h : prCu k = true) h1 h2 h3 => cu_law (k := k) h h1 h2 h3)
      have HI1 := Lib.hid (fun w => IsClassFormQ_any (cuF k).a (cuF k).b (cuF k).c w)
      have HI2 := Lib.hid (fun w => IsClassFormQ_any (cuF2 k).a (cuF2 k).b (cuF2 k).c w)
      have HI3 := Lib.hid (fun w => IsClassFormQ_any (cuF3 k).a (cuF3 k).b (cuF3 k).c w)
      obtain ⟨D, hD⟩ : ∃ D, disc (cuF k) = D := ⟨_, rfl⟩
      rw [hD] at HC HD1 HD2 HD3
      clear hk V hD
      obtain ⟨pj, hpj⟩ : ∃ b, prCu k = b := ⟨_, rfl⟩
      obtain ⟨q1, hq1⟩ : ∃ b, isCls (cuF k).a (cuF k).b (cuF k).c = b := ⟨_, rfl⟩
      obtain ⟨q2, hq2⟩ : ∃ b, isCls (cuF2 k).a (cuF2 k).b (cuF2 k).c = b := ⟨_, rfl⟩
      obtain ⟨q3, hq3⟩ : ∃ b, isCls (cuF3 k).a (cuF3 k).b (cuF3 k).c = b := ⟨_, rfl⟩
      rw [hpj] at HP HL
      rw [hq1] at HI1 HL
      rw [hq2] at HI2 HL
      rw [hq3] at HI3 HL
      clear hpj hq1 hq2 hq3
      generalize cuF k = f at *
      generalize cuF2 k = g at *
      generalize cuF3 k = h at *
      go_wp2_with fail
      refine (HI.out _).mono ?_
      rintro e v2 ⟨rfl, hc2⟩
      have hz2 := hc2.size
      (try simp at hz2)
      have hK2 : Blk v2 (v1.heap.size) 45 #[.int .i64 k.a, .int .i64 k.b, .int .i64 k.c, .int .i64 k.d, .int .i64 k.e, .int .i64 k.f, .int .i64 k.g, .int .i64 k.h] := Blk.call (by (repeat (first | with_reducible assumption | (with_reducible apply Blk.new_at; (first | rfl | (simp; done))) | with_reducible apply Blk.store3 | with_reducible apply Blk.store4 | (with_reducible apply Blk.farp; (first | omega | (simp <;> omega))) | with_reducible apply Blk.allocp | with_reducible apply Blk.drew | with_reducible apply Blk.drewN))) hc2
      have cK2 := hK2.cell; have fK2 := hK2.frozen; have lK2 := hK2.lt; have mK2 := Nat.ne_of_gt lK2; have nK2 := Nat.ne_of_lt lK2
      have hb2 : Below w.heap.size w v2 := (by repeat (first | with_reducible exact Below.refl _ _ | with_reducible assumption | with_reducible apply Below.drew | with_reducible apply below_drewN | (with_reducible apply below_setp; (first | omega | (simp <;> omega))) | (with_reducible apply below_allocp; (first | omega | (simp <;> omega))) | (with_reducible refine below_viap (by assumption) ?_ ?_; (first | omega | (simp <;> omega)))))
      have : ¬ v1.heap.size = v2.heap.size + 1 := by have := lK2; omega
      have : v1.heap.size < v2.heap.size + 1 := by have := lK2; omega
      have : ¬ v1.heap.size = v2.heap.size + 1 + 1 := by have := lK2; omega
      have : v1.heap.size < v2.heap.size + 1 + 1 := by have := lK2; omega
      go_wp2_with fail
      refine (HS.out _).mono ?_
      rintro e v3 ⟨rfl, hc3⟩
      have hz3 := hc3.size
      (try simp at hz3)
      have hK3 : Blk v3 (v1.heap.size) 45 #[.int .i64 k.a, .int .i64 k.b, .int .i64 k.c, .int .i64 k.d, .int .i64 k.e, .int .i64 k.f, .int .i64 k.g, .int .i64 k.h] := Blk.call (by (repeat (first | with_reducible assumption | (with_reducible apply Blk.new_at; (first | rfl | (simp; done))) | with_reducible apply Blk.store3 | with_reducible apply Blk.store4 | (with_reducible apply Blk.farp; (first | omega | (simp <;> omega))) | with_reducible apply Blk.allocp | with_reducible apply Blk.drew | with_reducible apply Blk.drewN))) hc3
      have cK3 := hK3.cell; have fK3 := hK3.frozen; have lK3 := hK3.lt; have mK3 := Nat.ne_of_gt lK3; have nK3 := Nat.ne_of_lt lK3
      have hF3 : Blk v3 (v2.heap.size) 33 #[.int .i64 f.a, .int .i64 f.b, .int .i64 f.c] := Blk.call (by (repeat (first | with_reducible assumption | (with_reducible apply Blk.new_at; (first | rfl | (simp; done))) | with_reducible apply Blk.store3 | with_reducible apply Blk.store4 | (with_reducible apply Blk.farp; (first | omega | (simp <;> omega))) | with_reducible apply Blk.allocp | with_reducible apply Blk.drew | with_reducible apply Blk.drewN))) hc3
      have cF3 := hF3.cell; have fF3 := hF3.frozen; have lF3 := hF3.lt; have mF3 := Nat.ne_of_gt lF3; have nF3 := Nat.ne_of_lt lF3
      have hG3 : Blk v3 (v2.heap.size + 1) 33 #[.int .i64 g.a, .int .i64 g.b, .int .i64 g.c] := Blk.call (by (repeat (first | with_reducible assumption | (with_reducible apply Blk.new_at; (first | rfl | (simp; done))) | with_reducible apply Blk.store3 | with_reducible apply Blk.store4 | (with_reducible apply Blk.farp; (first | omega | (simp <;> omega))) | with_reducible apply Blk.allocp | with_reducible apply Blk.drew | with_reducible apply Blk.drewN))) hc3
      have cG3 := hG3.cell; have fG3 := hG3.frozen; have lG3 := hG3.lt; have mG3 := Nat.ne_of_gt lG3; have nG3 := Nat.ne_of_lt lG3
      have hU3 : Blk v3 (v2.heap.size + 1 + 1) 33 #[.int .i64 h.a, .int .i64 h.b, .int .i64 h.c] := Blk.call (by (repeat (first | with_reducible assumption | (with_reducible apply Blk.new_at; (first | rfl | (simp; done))) | with_reducible apply Blk.store3 | with_reducible apply Blk.store4 | (with_reducible apply Blk.farp; (first | omega | (simp <;> omega))) | with_reducible apply Blk.allocp | with_reducible apply Blk.drew | with_reducible apply Blk.drewN))) hc3
      have cU3 := hU3.cell; have fU3 := hU3.frozen; have lU3 := hU3.lt; have mU3 := Nat.ne_of_gt lU3; have nU3 := Nat.ne_of_lt lU3
      have hb3 : Below w.heap.size w v3 := (by repeat (first | with_reducible exact Below.refl _ _ | with_reducible assumption | with_reducible apply Below.drew | with_reducible apply below_drewN | (with_reducible apply below_setp; (first | omega | (simp <;> omega))) | (with_reducible apply below_allocp; (first | omega | (simp <;> omega))) | (with_reducible refine below_viap (by assumption) ?_ ?_; (first | omega | (simp <;> omega)))))
      clear hK2 cK2 fK2 lK2 mK2 nK2
      have : ¬ v1.heap.size = v3.heap.size + 1 := by have := lK3; omega
      have : v1.heap.size < v3.heap.size + 1 := by have := lK3; omega
      have : ¬ v1.heap.size = v3.heap.size + 1 + 1 := by have := lK3; omega
      have : v1.heap.size < v3.heap.size + 1 + 1 := by have := lK3; omega
      have : ¬ v2.heap.size = v3.heap.size + 1 := by have := lF3; omega
      have : v2.heap.size < v3.heap.size + 1 := by have := lF3; omega
      have : ¬ v2.heap.size = v3.heap.size + 1 + 1 := by have := lF3; omega
      have : v2.heap.size < v3.heap.size + 1 + 1 := by have := lF3; omega
      have : ¬ v2.heap.size + 1 = v3.heap.size + 1 := by have := lG3; omega
      have : v2.heap.size + 1 < v3.heap.size + 1 := by have := lG3; omega
      have : ¬ v2.heap.size + 1 = v3.heap.size + 1 + 1 := by have := lG3; omega
      have : v2.heap.size + 1 < v3.heap.size + 1 + 1 := by have := lG3; omega
      have : ¬ v2.heap.size + 1 + 1 = v3.heap.size + 1 := by have := lU3; omega
      have : v2.heap.size + 1 + 1 < v3.heap.size + 1 := by have := lU3; omega
      have : ¬ v2.heap.size + 1 + 1 = v3.heap.size + 1 + 1 := by have := lU3; omega
      have : v2.heap.size + 1 + 1 < v3.heap.size + 1 + 1 := by have := lU3; omega
      go_wp2_with fail
      refine (HC.out _).mono ?_
      rintro e v4 ⟨rfl, hc4⟩
      have hz4 := hc4.size
      (try simp at hz4)
      have hK4 : Blk v4 (v1.heap.size) 45 #[.int .i64 k.a, .int .i64 k.b, .int .i64 k.c, .int .i64 k.d, .int .i64 k.e, .int .i64 k.f, .int .i64 k.g, .int .i64 k.h] := Blk.call (by (repeat (first | with_reducible assumption | (with_reducible apply Blk.new_at; (first | rfl | (simp; done))) | with_reducible apply Blk.store3 | with_reducible apply Blk.store4 | (with_reducible apply Blk.farp; (first | omega | (simp <;> omega))) | with_reducible apply Blk.allocp | with_reducible apply Blk.drew | with_reducible apply Blk.drewN))) hc4
      have cK4 := hK4.cell; have fK4 := hK4.frozen; have lK4 := hK4.lt; have mK4 := Nat.ne_of_gt lK4; have nK4 := Nat.ne_of_lt lK4
      have hF4 : Blk v4 (v2.heap.size) 33 #[.int .i64 f.a, .int .i64 f.b, .int .i64 f.c] := Blk.call (by (repeat (first | with_reducible assumption | (with_reducible apply Blk.new_at; (first | rfl | (simp; done))) | with_reducible apply Blk.store3 | with_reducible apply Blk.store4 | (with_reducible apply Blk.farp; (first | omega | (simp <;> omega))) | with_reducible apply Blk.allocp | with_reducible apply Blk.drew | with_reducible apply Blk.drewN))) hc4
      have cF4 := hF4.cell; have fF4 := hF4.frozen; have lF4 := hF4.lt; have mF4 := Nat.ne_of_gt lF4; have nF4 := Nat.ne_of_lt lF4
      have hG4 : Blk v4 (v2.heap.size + 1) 33 #[.int .i64 g.a, .int .i64 g.b, .int .i64 g.c] := Blk.call (by (repeat (first | with_reducible assumption | (with_reducible apply Blk.new_at; (first | rfl | (simp; done))) | with_reducible apply Blk.store3 | with_reducible apply Blk.store4 | (with_reducible apply Blk.farp; (first | omega | (simp <;> omega))) | with_reducible apply Blk.allocp | with_reducible apply Blk.drew | with_reducible apply Blk.drewN))) hc4
      have cG4 := hG4.cell; have fG4 := hG4.frozen; have lG4 := hG4.lt; have mG4 := Nat.ne_of_gt lG4; have nG4 := Nat.ne_of_lt lG4
      have hU4 : Blk v4 (v2.heap.size + 1 + 1) 33 #[.int .i64 h.a, .int .i64 h.b, .int .i64 h.c] := Blk.call (by (repeat (first | with_reducible assumption | (with_reducible apply Blk.new_at; (first | rfl | (simp; done))) | with_reducible apply Blk.store3 | with_reducible apply Blk.store4 | (with_reducible apply Blk.farp; (first | omega | (simp <;> omega))) | with_reducible apply Blk.allocp | with_reducible apply Blk.drew | with_reducible apply Blk.drewN))) hc4
      have cU4 := hU4.cell; have fU4 := hU4.frozen; have lU4 := hU4.lt; have mU4 := Nat.ne_of_gt lU4; have nU4 := Nat.ne_of_lt lU4
      have hR4 : Blk v4 (v3.heap.size) 33 #[.int .i64 f.a, .int .i64 f.b, .int .i64 f.c] := Blk.call (by (repeat (first | with_reducible assumption | (with_reducible apply Blk.new_at; (first | rfl | (simp; done))) | with_reducible apply Blk.store3 | with_reducible apply Blk.store4 | (with_reducible apply Blk.farp; (first | omega | (simp <;> omega))) | with_reducible apply Blk.allocp | with_reducible apply Blk.drew | with_reducible apply Blk.drewN))) hc4
      have cR4 := hR4.cell; have fR4 := hR4.frozen; have lR4 := hR4.lt; have mR4 := Nat.ne_of_gt lR4; have nR4 := Nat.ne_of_lt lR4
      have hS4 : Blk v4 (v3.heap.size + 1) 33 #[.int .i64 g.a, .int .i64 g.b, .int .i64 g.c] := Blk.call (by (repeat (first | with_reducible assumption | (with_reducible apply Blk.new_at; (first | rfl | (simp; done))) | with_reducible apply Blk.store3 | with_reducible apply Blk.store4 | (with_reducible apply Blk.farp; (first | omega | (simp <;> omega))) | with_reducible apply Blk.allocp | with_reducible apply Blk.drew | with_reducible apply Blk.drewN))) hc4
      have cS4 := hS4.cell; have fS4 := hS4.frozen; have lS4 := hS4.lt; have mS4 := Nat.ne_of_gt lS4; have nS4 := Nat.ne_of_lt lS4
      have hT4 : Blk v4 (v3.heap.size + 1 + 1) 33 #[.int .i64 h.a, .int .i64 h.b, .int .i64 h.c] := Blk.call (by (repeat (first | with_reducible assumption | (with_reducible apply Blk.new_at; (first | rfl | (simp; done))) | with_reducible apply Blk.store3 | with_reducible apply Blk.store4 | (with_reducible apply Blk.farp; (first | omega | (simp <;> omega))) | with_reducible apply Blk.allocp | with_reducible apply Blk.drew | with_reducible apply Blk.drewN))) hc4
      have cT4 := hT4.cell; have fT4 := hT4.frozen; have lT4 := hT4.lt; have mT4 := Nat.ne_of_gt lT4; have nT4 := Nat.ne_of_lt lT4
      have hb4 : Below w.heap.size w v4 := (by repeat (first | with_reducible exact Below.refl _ _ | with_reducible assumption | with_reducible apply Below.drew | with_reducible apply below_drewN | (with_reducible apply below_setp; (first | omega | (simp <;> omega))) | (with_reducible apply below_allocp; (first | omega | (simp <;> omega))) | (with_reducible refine below_viap (by assumption) ?_ ?_; (first | omega | (simp <;> omega)))))
      clear hK3 cK3 fK3 lK3 mK3 nK3 hF3 cF3 fF3 lF3 mF3 nF3 hG3 cG3 fG3 lG3 mG3 nG3 hU3 cU3 fU3 lU3 mU3 nU3 HI HS
      clear hR4 cR4 fR4 lR4 mR4 nR4 hS4 cS4 fS4 lS4 mS4 nS4 hT4 cT4 fT4 lT4 mT4 nT4
      go_wp2_with fail
      refine (HD1.out _).mono ?_
      rintro e v5 ⟨rfl, hc5⟩
      have hz5 := hc5.size
      (try simp at hz5)
      have hK5 : Blk v5 (v1.heap.size) 45 #[.int .i64 k.a, .int .i64 k.b, .int .i64 k.c, .int .i64 k.d, .int .i64 k.e, .int .i64 k.f, .int .i64 k.g, .int .i64 k.h] := Blk.call (by (repeat (first | with_reducible assumption | (with_reducible apply Blk.new_at; (first | rfl | (simp; done))) | with_reducible apply Blk.store3 | with_reducible apply Blk.store4 | (with_reducible apply Blk.farp; (first | omega | (simp <;> omega))) | with_reducible apply Blk.allocp | with_reducible apply Blk.drew | with_reducible apply Blk.drewN))) hc5
      have cK5 := hK5.cell; have fK5 := hK5.frozen; have lK5 := hK5.lt; have mK5 := Nat.ne_of_gt lK5; have nK5 := Nat.ne_of_lt lK5
      have hF5 : Blk v5 (v2.heap.size) 33 #[.int .i64 f.a, .int .i64 f.b, .int .i64 f.c] := Blk.call (by (repeat (first | with_reducible assumption | (with_reducible apply Blk.new_at; (first | rfl | (simp; done))) | with_reducible apply Blk.store3 | with_reducible apply Blk.store4 | (with_reducible apply Blk.farp; (first | omega | (simp <;> omega))) | with_reducible apply Blk.allocp | with_reducible apply Blk.drew | with_reducible apply Blk.drewN))) hc5
      have cF5 := hF5.cell; have fF5 := hF5.frozen; have lF5 := hF5.lt; have mF5 := Nat.ne_of_gt lF5; have nF5 := Nat.ne_of_lt lF5
      have hG5 : Blk v5 (v2.heap.size + 1) 33 #[.int .i64 g.a, .int .i64 g.b, .int .i64 g.c] := Blk.call (by (repeat (first | with_reducible assumption | (with_reducible apply Blk.new_at; (first | rfl | (simp; done))) | with_reducible apply Blk.store3 | with_reducible apply Blk.store4 | (with_reducible apply Blk.farp; (first | omega | (simp <;> omega))) | with_reducible apply Blk.allocp | with_reducible apply Blk.drew | with_reducible apply Blk.drewN))) hc5
      have cG5 := hG5.cell; have fG5 := hG5.frozen; have lG5 := hG5.lt; have mG5 := Nat.ne_of_gt lG5; have nG5 := Nat.ne_of_lt lG5
      have hU5 : Blk v5 (v2.heap.size + 1 + 1) 33 #[.int .i64 h.a, .int .i64 h.b, .int .i64 h.c] := Blk.call (by (repeat (first | with_reducible assumption | (with_reducible apply Blk.new_at; (first | rfl | (simp; done))) | with_reducible apply Blk.store3 | with_reducible apply Blk.store4 | (with_reducible apply Blk.farp; (first | omega | (simp <;> omega))) | with_reducible apply Blk.allocp | with_reducible apply Blk.drew | with_reducible apply Blk.drewN))) hc5
      have cU5 := hU5.cell; have fU5 := hU5.frozen; have lU5 := hU5.lt; have mU5 := Nat.ne_of_gt lU5; have nU5 := Nat.ne_of_lt lU5
      have hb5 : Below w.heap.size w v5 := (by repeat (first | with_reducible exact Below.refl _ _ | with_reducible assumption | with_reducible apply Below.drew | with_reducible apply below_drewN | (with_reducible apply below_setp; (first | omega | (simp <;> omega))) | (with_reducible apply below_allocp; (first | omega | (simp <;> omega))) | (with_reducible refine below_viap (by assumption) ?_ ?_; (first | omega | (simp <;> omega)))))
      clear hK4 cK4 fK4 lK4 mK4 nK4 hF4 cF4 fF4 lF4 mF4 nF4 hG4 cG4 fG4 lG4 mG4 nG4 hU4 cU4 fU4 lU4 mU4 nU4
      go_wp2_with fail
      refine (HD2.out _).mono ?_
      rintro e v6 ⟨rfl, hc6⟩
      have hz6 := hc6.size
      (try simp at hz6)
      have hK6 : Blk v6 (v1.heap.size) 45 #[.int .i64 k.a, .int .i64 k.b, .int .i64 k.c, .int .i64 k.d, .int .i64 k.e, .int .i64 k.f, .int .i64 k.g, .int .i64 k.h] := Blk.call (by (repeat (first | with_reducible assumption | (with_reducible apply Blk.new_at; (first | rfl | (simp; done))) | with_reducible apply Blk.store3 | with_reducible apply Blk.store4 | (with_reducible apply Blk.farp; (first | omega | (simp <;> omega))) | with_reducible apply Blk.allocp | with_reducible apply Blk.drew | with_reducible apply Blk.drewN))) hc6
      have cK6 := hK6.cell; have fK6 := hK6.frozen; have lK6 := hK6.lt; have mK6 := Nat.ne_of_gt lK6; have nK6 := Nat.ne_of_lt lK6
      have hF6 : Blk v6 (v2.heap.size) 33 #[.int .i64 f.a, .int .i64 f.b, .int .i64 f.c] := Blk.call (by (repeat (first | with_reducible assumption | (with_reducible apply Blk.new_at; (first | rfl | (simp; done))) | with_reducible apply Blk.store3 | with_reducible apply Blk.store4 | (with_reducible apply Blk.farp; (first | omega | (simp <;> omega))) | with_reducible apply Blk.allocp | with_reducible apply Blk.drew | with_reducible apply Blk.drewN))) hc6
      have cF6 := hF6.cell; have fF6 := hF6.frozen; have lF6 := hF6.lt; have mF6 := Nat.ne_of_gt lF6; have nF6 := Nat.ne_of_lt lF6
      have hG6 : Blk v6 (v2.heap.size + 1) 33 #[.int .i64 g.a, .int .i64 g.b, .int .i64 g.c] := Blk.call (by (repeat (first | with_reducible assumption | (with_reducible apply Blk.new_at; (first | rfl | (simp; done))) | with_reducible apply Blk.store3 | with_reducible apply Blk.store4 | (with_reducible apply Blk.farp; (first | omega | (simp <;> omega))) | with_reducible apply Blk.allocp | with_reducible apply Blk.drew | with_reducible apply Blk.drewN))) hc6
      have cG6 := hG6.cell; have fG6 := hG6.frozen; have lG6 := hG6.lt; have mG6 := Nat.ne_of_gt lG6; have nG6 := Nat.ne_of_lt lG6
      have hU6 : Blk v6 (v2.heap.size + 1 + 1) 33 #[.int .i64 h.a, .int .i64 h.b, .int .i64 h.c] := Blk.call (by (repeat (first | with_reducible assumption | (with_reducible apply Blk.new_at; (first | rfl | (simp; done))) | with_reducible apply Blk.store3 | with_reducible apply Blk.store4 | (with_reducible apply Blk.farp; (first | omega | (simp <;> omega))) | with_reducible apply Blk.allocp | with_reducible apply Blk.drew | with_reducible apply Blk.drewN))) hc6
      have cU6 := hU6.cell; have fU6 := hU6.frozen; have lU6 := hU6.lt; have mU6 := Nat.ne_of_gt lU6; have nU6 := Nat.ne_of_lt lU6
      have hb6 : Below w.heap.size w v6 := (by repeat (first | with_reducible exact Below.refl _ _ | with_reducible assumption | with_reducible apply Below.drew | with_reducible apply below_drewN | (with_reducible apply below_setp; (first | omega | (simp <;> omega))) | (with_reducible apply below_allocp; (first | omega | (simp <;> omega))) | (with_reducible refine below_viap (by assumption) ?_ ?_; (first | omega | (simp <;> omega)))))
      clear hK5 cK5 fK5 lK5 mK5 nK5 hF5 cF5 fF5 lF5 mF5 nF5 hG5 cG5 fG5 lG5 mG5 nG5 hU5 cU5 fU5 lU5 mU5 nU5
      go_wp2_with fail
      refine (HD3.out _).mono ?_
      rintro e v7 ⟨rfl, hc7⟩
      have hz7 := hc7.size
      (try simp at hz7)
      have hK7 : Blk v7 (v1.heap.size) 45 #[.int .i64 k.a, .int .i64 k.b, .int .i64 k.c, .int .i64 k.d, .int .i64 k.e, .int .i64 k.f, .int .i64 k.g, .int .i64 k.h] := Blk.call (by (repeat (first | with_reducible assumption | (with_reducible apply Blk.new_at; (first | rfl | (simp; done))) | with_reducible apply Blk.store3 | with_reducible apply Blk.store4 | (with_reducible apply Blk.farp; (first | omega | (simp <;> omega))) | with_reducible apply Blk.allocp | with_reducible apply Blk.drew | with_reducible apply Blk.drewN))) hc7
      have cK7 := hK7.cell; have fK7 := hK7.frozen; have lK7 := hK7.lt; have mK7 := Nat.ne_of_gt lK7; have nK7 := Nat.ne_of_lt lK7
      have hF7 : Blk v7 (v2.heap.size) 33 #[.int .i64 f.a, .int .i64 f.b, .int .i64 f.c] := Blk.call (by (repeat (first | with_reducible assumption | (with_reducible apply Blk.new_at; (first | rfl | (simp; done))) | with_reducible apply Blk.store3 | with_reducible apply Blk.store4 | (with_reducible apply Blk.farp; (first | omega | (simp <;> omega))) | with_reducible apply Blk.allocp | with_reducible apply Blk.drew | with_reducible apply Blk.drewN))) hc7
      have cF7 := hF7.cell; have fF7 := hF7.frozen; have lF7 := hF7.lt; have mF7 := Nat.ne_of_gt lF7; have nF7 := Nat.ne_of_lt lF7
      have hG7 : Blk v7 (v2.heap.size + 1) 33 #[.int .i64 g.a, .int .i64 g.b, .int .i64 g.c] := Blk.call (by (repeat (first | with_reducible assumption | (with_reducible apply Blk.new_at; (first | rfl | (simp; done))) | with_reducible apply Blk.store3 | with_reducible apply Blk.store4 | (with_reducible apply Blk.farp; (first | omega | (simp <;> omega))) | with_reducible apply Blk.allocp | with_reducible apply Blk.drew | with_reducible apply Blk.drewN))) hc7
      have cG7 := hG7.cell; have fG7 := hG7.frozen; have lG7 := hG7.lt; have mG7 := Nat.ne_of_gt lG7; have nG7 := Nat.ne_of_lt lG7
      have hU7 : Blk v7 (v2.heap.size + 1 + 1) 33 #[.int .i64 h.a, .int .i64 h.b, .int .i64 h.c] := Blk.call (by (repeat (first | with_reducible assumption | (with_reducible apply Blk.new_at; (first | rfl | (simp; done))) | with_reducible apply Blk.store3 | with_reducible apply Blk.store4 | (with_reducible apply Blk.farp; (first | omega | (simp <;> omega))) | with_reducible apply Blk.allocp | with_reducible apply Blk.drew | with_reducible apply Blk.drewN))) hc7
      have cU7 := hU7.cell; have fU7 := hU7.frozen; have lU7 := hU7.lt; have mU7 := Nat.ne_of_gt lU7; have nU7 := Nat.ne_of_lt lU7
      have hb7 : Below w.heap.size w v7 := (by repeat (first | with_reducible exact Below.refl _ _ | with_reducible assumption | with_reducible apply Below.drew | with_reducible apply below_drewN | (with_reducible apply below_setp; (first | omega | (simp <;> omega))) | (with_reducible apply below_allocp; (first | omega | (simp <;> omega))) | (with_reducible refine below_viap (by assumption) ?_ ?_; (first | omega | (simp <;> omega)))))
      clear hK6 cK6 fK6 lK6 mK6 nK6 hF6 cF6 fF6 lF6 mF6 nF6 hG6 cG6 fG6 lG6 mG6 nG6 hU6 cU6 fU6 lU6 mU6 nU6
      go_wp2_with fail
      refine (HP.out _).mono ?_
      rintro e v8 ⟨rfl, hc8⟩
      have hz8 := hc8.size
      (try simp at hz8)
      have hK8 : Blk v8 (v1.heap.size) 45 #[.int .i64 k.a, .int .i64 k.b, .int .i64 k.c, .int .i64 k.d, .int .i64 k.e, .int .i64 k.f, .int .i64 k.g, .int .i64 k.h] := Blk.call (by (repeat (first | with_reducible assumption | (with_reducible apply Blk.new_at; (first | rfl | (simp; done))) | with_reducible apply Blk.store3 | with_reducible apply Blk.store4 | (with_reducible apply Blk.farp; (first | omega | (simp <;> omega))) | with_reducible apply Blk.allocp | with_reducible apply Blk.drew | with_reducible apply Blk.drewN))) hc8
      have cK8 := hK8.cell; have fK8 := hK8.frozen; have lK8 := hK8.lt; have mK8 := Nat.ne_of_gt lK8; have nK8 := Nat.ne_of_lt lK8
      have hF8 : Blk v8 (v2.heap.size) 33 #[.int .i64 f.a, .int .i64 f.b, .int .i64 f.c] := Blk.call (by (repeat (first | with_reducible assumption | (with_reducible apply Blk.new_at; (first | rfl | (simp; done))) | with_reducible apply Blk.store3 | with_reducible apply Blk.store4 | (with_reducible apply Blk.farp; (first | omega | (simp <;> omega))) | with_reducible apply Blk.allocp | with_reducible apply Blk.drew | with_reducible apply Blk.drewN))) hc8
      have cF8 := hF8.cell; have fF8 := hF8.frozen; have lF8 := hF8.lt; have mF8 := Nat.ne_of_gt lF8; have nF8 := Nat.ne_of_lt lF8
      have hG8 : Blk v8 (v2.heap.size + 1) 33 #[.int .i64 g.a, .int .i64 g.b, .int .i64 g.c] := Blk.call (by (repeat (first | with_reducible assumption | (with_reducible apply Blk.new_at; (first | rfl | (simp; done))) | with_reducible apply Blk.store3 | with_reducible apply Blk.store4 | (with_reducible apply Blk.farp; (first | omega | (simp <;> omega))) | with_reducible apply Blk.allocp | with_reducible apply Blk.drew | with_reducible apply Blk.drewN))) hc8
      have cG8 := hG8.cell; have fG8 := hG8.frozen; have lG8 := hG8.lt; have mG8 := Nat.ne_of_gt lG8; have nG8 := Nat.ne_of_lt lG8
      have hU8 : Blk v8 (v2.heap.size + 1 + 1) 33 #[.int .i64 h.a, .int .i64 h.b, .int .i64 h.c] := Blk.call (by (repeat (first | with_reducible assumption | (with_reducible apply Blk.new_at; (first | rfl | (simp; done))) | with_reducible apply Blk.store3 | with_reducible apply Blk.store4 | (with_reducible apply Blk.farp; (first | omega | (simp <;> omega))) | with_reducible apply Blk.allocp | with_reducible apply Blk.drew | with_reducible apply Blk.drewN))) hc8
      have cU8 := hU8.cell; have fU8 := hU8.frozen; have lU8 := hU8.lt; have mU8 := Nat.ne_of_gt lU8; have nU8 := Nat.ne_of_lt lU8
      have hb8 : Below w.heap.size w v8 := (by repeat (first | with_reducible exact Below.refl _ _ | with_reducible assumption | with_reducible apply Below.drew | with_reducible apply below_drewN | (with_reducible apply below_setp; (first | omega | (simp <;> omega))) | (with_reducible apply below_allocp; (first | omega | (simp <;> omega))) | (with_reducible refine below_viap (by assumption) ?_ ?_; (first | omega | (simp <;> omega)))))
      clear hK7 cK7 fK7 lK7 mK7 nK7 hF7 cF7 fF7 lF7 mF7 nF7 hG7 cG7 fG7 lG7 mG7 nG7 hU7 cU7 fU7 lU7 mU7 nU7 HC HD1 HD2 HD3
      clear HP
      cases pj with
      | false =>
        go_wp2
        go_ret
        exact ⟨rfl, (by repeat (first | with_reducible exact Below.refl _ _ | with_reducible assumption | with_reducible apply Below.drew | with_reducible apply below_drewN | (with_reducible apply below_setp; (first | omega | (simp <;> omega))) | (with_reducible apply below_allocp; (first | omega | (simp <;> omega))) | (with_reducible refine below_viap (by assumption) ?_ ?_; (first | omega | (simp <;> omega)))))⟩
      | true =>
      go_wp2_with fail
      refine (HI1.out _).mono ?_
      rintro e v9 ⟨rfl, hc9⟩
      have hz9 := hc9.size
      (try simp at hz9)
      have hK9 : Blk v9 (v1.heap.size) 45 #[.int .i64 k.a, .int .i64 k.b, .int .i64 k.c, .int .i64 k.d, .int .i64 k.e, .int .i64 k.f, .int .i64 k.g, .int .i64 k.h] := Blk.call (by (repeat (first | with_reducible assumption | (with_reducible apply Blk.new_at; (first | rfl | (simp; done))) | with_reducible apply Blk.store3 | with_reducible apply Blk.store4 | (with_reducible apply Blk.farp; (first | omega | (simp <;> omega))) | with_reducible apply Blk.allocp | with_reducible apply Blk.drew | with_reducible apply Blk.drewN))) hc9
      have cK9 := hK9.cell; have fK9 := hK9.frozen; have lK9 := hK9.lt; have mK9 := Nat.ne_of_gt lK9; have nK9 := Nat.ne_of_lt lK9
      have hF9 : Blk v9 (v2.heap.size) 33 #[.int .i64 f.a, .int .i64 f.b, .int .i64 f.c] := Blk.call (by (repeat (first | with_reducible assumption | (with_reducible apply Blk.new_at; (first | rfl | (simp; done))) | with_reducible apply Blk.store3 | with_reducible apply Blk.store4 | (with_reducible apply Blk.farp; (first | omega | (simp <;> omega))) | with_reducible apply Blk.allocp | with_reducible apply Blk.drew | with_reducible apply Blk.drewN))) hc9
      have cF9 := hF9.cell; have fF9 := hF9.frozen; have lF9 := hF9.lt; have mF9 := Nat.ne_of_gt lF9; have nF9 := Nat.ne_of_lt lF9
      have hG9 : Blk v9 (v2.heap.size + 1) 33 #[.int .i64 g.a, .int .i64 g.b, .int .i64 g.c] := Blk.call (by (repeat (first | with_reducible assumption | (with_reducible apply Blk.new_at; (first | rfl | (simp; done))) | with_reducible apply Blk.store3 | with_reducible apply Blk.store4 | (with_reducible apply Blk.farp; (first | omega | (simp <;> omega))) | with_reducible apply Blk.allocp | with_reducible apply Blk.drew | with_reducible apply Blk.drewN))) hc9
      have cG9 := hG9.cell; have fG9 := hG9.frozen; have lG9 := hG9.lt; have mG9 := Nat.ne_of_gt lG9; have nG9 := Nat.ne_of_lt lG9
      have hU9 : Blk v9 (v2.heap.size + 1 + 1) 33 #[.int .i64 h.a, .int .i64 h.b, .int .i64 h.c] := Blk.call (by (repeat (first | with_reducible assumption | (with_reducible apply Blk.new_at; (first | rfl | (simp; done))) | with_reducible apply Blk.store3 | with_reducible apply Blk.store4 | (with_reducible apply Blk.farp; (first | omega | (simp <;> omega))) | with_reducible apply Blk.allocp | with_reducible apply Blk.drew | with_reducible apply Blk.drewN))) hc9
      have cU9 := hU9.cell; have fU9 := hU9.frozen; have lU9 := hU9.lt; have mU9 := Nat.ne_of_gt lU9; have nU9 := Nat.ne_of_lt lU9
      have hb9 : Below w.heap.size w v9 := (by repeat (first | with_reducible exact Below.refl _ _ | with_reducible assumption | with_reducible apply Below.drew | with_reducible apply below_drewN | (with_reducible apply below_setp; (first | omega | (simp <;> omega))) | (with_reducible apply below_allocp; (first | omega | (simp <;> omega))) | (with_reducible refine below_viap (by assumption) ?_ ?_; (first | omega | (simp <;> omega)))))
      clear hK8 cK8 fK8 lK8 mK8 nK8 hF8 cF8 fF8 lF8 mF8 nF8 hG8 cG8 fG8 lG8 mG8 nG8 hU8 cU8 fU8 lU8 mU8 nU8 HI1
      cases q1 with
      | false =>
        go_wp2
        go_ret
        exact ⟨rfl, (by repeat (first | with_reducible exact Below.refl _ _ | with_reducible assumption | with_reducible apply Below.drew | with_reducible apply below_drewN | (with_reducible apply below_setp; (first | omega | (simp <;> omega))) | (with_reducible apply below_allocp; (first | omega | (simp <;> omega))) | (with_reducible refine below_viap (by assumption) ?_ ?_; (first | omega | (simp <;> omega)))))⟩
      | true =>
      go_wp2_with fail
      refine (HI2.out _).mono ?_
      rintro e v10 ⟨rfl, hc10⟩
      have hz10 := hc10.size
      (try simp at hz10)
      have hK10 : Blk v10 (v1.heap.size) 45 #[.int .i64 k.a, .int .i64 k.b, .int .i64 k.c, .int .i64 k.d, .int .i64 k.e, .int .i64 k.f, .int .i64 k.g, .int .i64 k.h] := Blk.call (by (repeat (first | with_reducible assumption | (with_reducible apply Blk.new_at; (first | rfl | (simp; done))) | with_reducible apply Blk.store3 | with_reducible apply Blk.store4 | (with_reducible apply Blk.farp; (first | omega | (simp <;> omega))) | with_reducible apply Blk.allocp | with_reducible apply Blk.drew | with_reducible apply Blk.drewN))) hc10
      have cK10 := hK10.cell; have fK10 := hK10.frozen; have lK10 := hK10.lt; have mK10 := Nat.ne_of_gt lK10; have nK10 := Nat.ne_of_lt lK10
      have hF10 : Blk v10 (v2.heap.size) 33 #[.int .i64 f.a, .int .i64 f.b, .int .i64 f.c] := Blk.call (by (repeat (first | with_reducible assumption | (with_reducible apply Blk.new_at; (first | rfl | (simp; done))) | with_reducible apply Blk.store3 | with_reducible apply Blk.store4 | (with_reducible apply Blk.farp; (first | omega | (simp <;> omega))) | with_reducible apply Blk.allocp | with_reducible apply Blk.drew | with_reducible apply Blk.drewN))) hc10
      have cF10 := hF10.cell; have fF10 := hF10.frozen; have lF10 := hF10.lt; have mF10 := Nat.ne_of_gt lF10; have nF10 := Nat.ne_of_lt lF10
      have hG10 : Blk v10 (v2.heap.size + 1) 33 #[.int .i64 g.a, .int .i64 g.b, .int .i64 g.c] := Blk.call (by (repeat (first | with_reducible assumption | (with_reducible apply Blk.new_at; (first | rfl | (simp; done))) | with_reducible apply Blk.store3 | with_reducible apply Blk.store4 | (with_reducible apply Blk.farp; (first | omega | (simp <;> omega))) | with_reducible apply Blk.allocp | with_reducible apply Blk.drew | with_reducible apply Blk.drewN))) hc10
      have cG10 := hG10.cell; have fG10 := hG10.frozen; have lG10 := hG10.lt; have mG10 := Nat.ne_of_gt lG10; have nG10 := Nat.ne_of_lt lG10
      have hU10 : Blk v10 (v2.heap.size + 1 + 1) 33 #[.int .i64 h.a, .int .i64 h.b, .int .i64 h.c] := Blk.call (by (repeat (first | with_reducible assumption | (with_reducible apply Blk.new_at; (first | rfl | (simp; done))) | with_reducible apply Blk.store3 | with_reducible apply Blk.store4 | (with_reducible apply Blk.farp; (first | omega | (simp <;> omega))) | with_reducible apply Blk.allocp | with_reducible apply Blk.drew | with_reducible apply Blk.drewN))) hc10
      have cU10 := hU10.cell; have fU10 := hU10.frozen; have lU10 := hU10.lt; have mU10 := Nat.ne_of_gt lU10; have nU10 := Nat.ne_of_lt lU10
      have hb10 : Below w.heap.size w v10 := (by repeat (first | with_reducible exact Below.refl _ _ | with_reducible assumption | with_reducible apply Below.drew | with_reducible apply below_drewN | (with_reducible apply below_setp; (first | omega | (simp <;> omega))) | (with_reducible apply below_allocp; (first | omega | (simp <;> omega))) | (with_reducible refine below_viap (by assumption) ?_ ?_; (first | omega | (simp <;> omega)))))
      clear hK9 cK9 fK9 lK9 mK9 nK9 hF9 cF9 fF9 lF9 mF9 nF9 hG9 cG9 fG9 lG9 mG9 nG9 hU9 cU9 fU9 lU9 mU9 nU9 HI2
      cases q2 with
      | false =>
        go_wp2
        go_ret
        exact ⟨rfl, (by repeat (first | with_reducible exact Below.refl _ _ | with_reducible assumption | with_reducible apply Below.drew | with_reducible apply below_drewN | (with_reducible apply below_setp; (first | omega | (simp <;> omega))) | (with_reducible apply below_allocp; (first | omega | (simp <;> omega))) | (with_reducible refine below_viap (by assumption) ?_ ?_; (first | omega | (simp <;> omega)))))⟩
      | true =>
      go_wp2_with fail
      refine (HI3.out _).mono ?_
      rintro e v11 ⟨rfl, hc11⟩
      have hz11 := hc11.size
      (try simp at hz11)
      have hK11 : Blk v11 (v1.heap.size) 45 #[.int .i64 k.a, .int .i64 k.b, .int .i64 k.c, .int .i64 k.d, .int .i64 k.e, .int .i64 k.f, .int .i64 k.g, .int .i64 k.h] := Blk.call (by (repeat (first | with_reducible assumption | (with_reducible apply Blk.new_at; (first | rfl | (simp; done))) | with_reducible apply Blk.store3 | with_reducible apply Blk.store4 | (with_reducible apply Blk.farp; (first | omega | (simp <;> omega))) | with_reducible apply Blk.allocp | with_reducible apply Blk.drew | with_reducible apply Blk.drewN))) hc11
      have cK11 := hK11.cell; have fK11 := hK11.frozen; have lK11 := hK11.lt; have mK11 := Nat.ne_of_gt lK11; have nK11 := Nat.ne_of_lt lK11
      have hF11 : Blk v11 (v2.heap.size) 33 #[.int .i64 f.a, .int .i64 f.b, .int .i64 f.c] := Blk.call (by (repeat (first | with_reducible assumption | (with_reducible apply Blk.new_at; (first | rfl | (simp; done))) | with_reducible apply Blk.store3 | with_reducible apply Blk.store4 | (with_reducible apply Blk.farp; (first | omega | (simp <;> omega))) | with_reducible apply Blk.allocp | with_reducible apply Blk.drew | with_reducible apply Blk.drewN))) hc11
      have cF11 := hF11.cell; have fF11 := hF11.frozen; have lF11 := hF11.lt; have mF11 := Nat.ne_of_gt lF11; have nF11 := Nat.ne_of_lt lF11
      have hG11 : Blk v11 (v2.heap.size + 1) 33 #[.int .i64 g.a, .int .i64 g.b, .int .i64 g.c] := Blk.call (by (repeat (first | with_reducible assumption | (with_reducible apply Blk.new_at; (first | rfl | (simp; done))) | with_reducible apply Blk.store3 | with_reducible apply Blk.store4 | (with_reducible apply Blk.farp; (first | omega | (simp <;> omega))) | with_reducible apply Blk.allocp | with_reducible apply Blk.drew | with_reducible apply Blk.drewN))) hc11
      have cG11 := hG11.cell; have fG11 := hG11.frozen; have lG11 := hG11.lt; have mG11 := Nat.ne_of_gt lG11; have nG11 := Nat.ne_of_lt lG11
      have hU11 : Blk v11 (v2.heap.size + 1 + 1) 33 #[.int .i64 h.a, .int .i64 h.b, .int .i64 h.c] := Blk.call (by (repeat (first | with_reducible assumption | (with_reducible apply Blk.new_at; (first | rfl | (simp; done))) | with_reducible apply Blk.store3 | with_reducible apply Blk.store4 | (with_reducible apply Blk.farp; (first | omega | (simp <;> omega))) | with_reducible apply Blk.allocp | with_reducible apply Blk.drew | with_reducible apply Blk.drewN))) hc11
      have cU11 := hU11.cell; have fU11 := hU11.frozen; have lU11 := hU11.lt; have mU11 := Nat.ne_of_gt lU11; have nU11 := Nat.ne_of_lt lU11
      have hb11 : Below w.heap.size w v11 := (by repeat (first | with_reducible exact Below.refl _ _ | with_reducible assumption | with_reducible apply Below.drew | with_reducible apply below_drewN | (with_reducible apply below_setp; (first | omega | (simp <;> omega))) | (with_reducible apply below_allocp; (first | omega | (simp <;> omega))) | (with_reducible refine below_viap (by assumption) ?_ ?_; (first | omega | (simp <;> omega)))))
      clear hK10 cK10 fK10 lK10 mK10 nK10 hF10 cF10 fF10 lF10 mF10 nF10 hG10 cG10 fG10 lG10 mG10 nG10 hU10 cU10 fU10 lU10 mU10 nU10 HI3
      cases q3 with
      | false =>
        go_wp2
        go_ret
        exact ⟨rfl, (by repeat (first | with_reducible exact Below.refl _ _ | with_reducible assumption | with_reducible apply Below.drew | with_reducible apply below_drewN | (with_reducible apply below_setp; (first | omega | (simp <;> omega))) | (with_reducible apply below_allocp; (first | omega | (simp <;> omega))) | (with_reducible refine below_viap (by assumption) ?_ ?_; (first | omega | (simp <;> omega)))))⟩
      | true =>
      obtain ⟨R, O, d, k1, k2, k3, k4, k5, k6, k7⟩ := HL.out (by trivial) (by trivial) (by trivial) (by trivial)
      have HM := Lib.hid (fun w => implComp_c f g w k1)
      rw [k2] at HM
      have HQ := Lib.hid (fun w => implComp_c R h w k3)
      rw [k4] at HQ
      have HO := Lib.hid (fun w => implIsId_c O.a O.b O.c O d w k5 k6)
      rw [k7] at HO
      clear HL k1 k2 k3 k4 k5 k6 k7
      go_wp2_with fail
      refine (HM.out _).mono ?_
      rintro e v12 ⟨rfl, hc12⟩
      have hz12 := hc12.size
      (try simp at hz12)
      have hK12 : Blk v12 (v1.heap.size) 45 #[.int .i64 k.a, .int .i64 k.b, .int .i64 k.c, .int .i64 k.d, .int .i64 k.e, .int .i64 k.f, .int .i64 k.g, .int .i64 k.h] := Blk.call (by (repeat (first | with_reducible assumption | (with_reducible apply Blk.new_at; (first | rfl | (simp; done))) | with_reducible apply Blk.store3 | with_reducible apply Blk.store4 | (with_reducible apply Blk.farp; (first | omega | (simp <;> omega))) | with_reducible apply Blk.allocp | with_reducible apply Blk.drew | with_reducible apply Blk.drewN))) hc12
      have cK12 := hK12.cell; have fK12 := hK12.frozen; have lK12 := hK12.lt; have mK12 := Nat.ne_of_gt lK12; have nK12 := Nat.ne_of_lt lK12
      have hF12 : Blk v12 (v2.heap.size) 33 #[.int .i64 f.a, .int .i64 f.b, .int .i64 f.c] := Blk.call (by (repeat (first | with_reducible assumption | (with_reducible apply Blk.new_at; (first | rfl | (simp; done))) | with_reducible apply Blk.store3 | with_reducible apply Blk.store4 | (with_reducible apply Blk.farp; (first | omega | (simp <;> omega))) | with_reducible apply Blk.allocp | with_reducible apply Blk.drew | with_reducible apply Blk.drewN))) hc12
      have cF12 := hF12.cell; have fF12 := hF12.frozen; have lF12 := hF12.lt; have mF12 := Nat.ne_of_gt lF12; have nF12 := Nat.ne_of_lt lF12
      have hG12 : Blk v12 (v2.heap.size + 1) 33 #[.int .i64 g.a, .int .i64 g.b, .int .i64 g.c] := Blk.call (by (repeat (first | with_reducible assumption | (with_reducible apply Blk.new_at; (first | rfl | (simp; done))) | with_reducible apply Blk.store3 | with_reducible apply Blk.store4 | (with_reducible apply Blk.farp; (first | omega | (simp <;> omega))) | with_reducible apply Blk.allocp | with_reducible apply Blk.drew | with_reducible apply Blk.drewN))) hc12
      have cG12 := hG12.cell; have fG12 := hG12.frozen; have lG12 := hG12.lt; have mG12 := Nat.ne_of_gt lG12; have nG12 := Nat.ne_of_lt lG12
      have hU12 : Blk v12 (v2.heap.size + 1 + 1) 33 #[.int .i64 h.a, .int .i64 h.b, .int .i64 h.c] := Blk.call (by (repeat (first | with_reducible assumption | (with_reducible apply Blk.new_at; (first | rfl | (simp; done))) | with_reducible apply Blk.store3 | with_reducible apply Blk.store4 | (with_reducible apply Blk.farp; (first | omega | (simp <;> omega))) | with_reducible apply Blk.allocp | with_reducible apply Blk.drew | with_reducible apply Blk.drewN))) hc12
      have cU12 := hU12.cell; have fU12 := hU12.frozen; have lU12 := hU12.lt; have mU12 := Nat.ne_of_gt lU12; have nU12 := Nat.ne_of_lt lU12
      have hb12 : Below w.heap.size w v12 := (by repeat (first | with_reducible exact Below.refl _ _ | with_reducible assumption | with_reducible apply Below.drew | with_reducible apply below_drewN | (with_reducible apply below_setp; (first | omega | (simp <;> omega))) | (with_reducible apply below_allocp; (first | omega | (simp <;> omega))) | (with_reducible refine below_viap (by assumption) ?_ ?_; (first | omega | (simp <;> omega)))))
      clear hK11 cK11 fK11 lK11 mK11 nK11 hF11 cF11 fF11 lF11 mF11 nF11 hG11 cG11 fG11 lG11 mG11 nG11 hU11 cU11 fU11 lU11 mU11 nU11
      go_wp2_with fail
      refine (HQ.out _).mono ?_
      rintro e v13 ⟨rfl, hc13⟩
      have hz13 := hc13.size
      (try simp at hz13)
      have hK13 : Blk v13 (v1.heap.size) 45 #[.int .i64 k.a, .int .i64 k.b, .int .i64 k.c, .int .i64 k.d, .int .i64 k.e, .int .i64 k.f, .int .i64 k.g, .int .i64 k.h] := Blk.call (by (repeat (first | with_reducible assumption | (with_reducible apply Blk.new_at; (first | rfl | (simp; done))) | with_reducible apply Blk.store3 | with_reducible apply Blk.store4 | (with_reducible apply Blk.farp; (first | omega | (simp <;> omega))) | with_reducible apply Blk.allocp | with_reducible apply Blk.drew | with_reducible apply Blk.drewN))) hc13
      have cK13 := hK13.cell; have fK13 := hK13.frozen; have lK13 := hK13.lt; have mK13 := Nat.ne_of_gt lK13; have nK13 := Nat.ne_of_lt lK13
      have hF13 : Blk v13 (v2.heap.size) 33 #[.int .i64 f.a, .int .i64 f.b, .int .i64 f.c] := Blk.call (by (repeat (first | with_reducible assumption | (with_reducible apply Blk.new_at; (first | rfl | (simp; done))) | with_reducible apply Blk.store3 | with_reducible apply Blk.store4 | (with_reducible apply Blk.farp; (first | omega | (simp <;> omega))) | with_reducible apply Blk.allocp | with_reducible apply Blk.drew | with_reducible apply Blk.drewN))) hc13
      have cF13 := hF13.cell; have fF13 := hF13.frozen; have lF13 := hF13.lt; have mF13 := Nat.ne_of_gt lF13; have nF13 := Nat.ne_of_lt lF13
      have hG13 : Blk v13 (v2.heap.size + 1) 33 #[.int .i64 g.a, .int .i64 g.b, .int .i64 g.c] := Blk.call (by (repeat (first | with_reducible assumption | (with_reducible apply Blk.new_at; (first | rfl | (simp; done))) | with_reducible apply Blk.store3 | with_reducible apply Blk.store4 | (with_reducible apply Blk.farp; (first | omega | (simp <;> omega))) | with_reducible apply Blk.allocp | with_reducible apply Blk.drew | with_reducible apply Blk.drewN))) hc13
      have cG13 := hG13.cell; have fG13 := hG13.frozen; have lG13 := hG13.lt; have mG13 := Nat.ne_of_gt lG13; have nG13 := Nat.ne_of_lt lG13
      have hU13 : Blk v13 (v2.heap.size + 1 + 1) 33 #[.int .i64 h.a, .int .i64 h.b, .int .i64 h.c] := Blk.call (by (repeat (first | with_reducible assumption | (with_reducible apply Blk.new_at; (first | rfl | (simp; done))) | with_reducible apply Blk.store3 | with_reducible apply Blk.store4 | (with_reducible apply Blk.farp; (first | omega | (simp <;> omega))) | with_reducible apply Blk.allocp | with_reducible apply Blk.drew | with_reducible apply Blk.drewN))) hc13
      have cU13 := hU13.cell; have fU13 := hU13.frozen; have lU13 := hU13.lt; have mU13 := Nat.ne_of_gt lU13; have nU13 := Nat.ne_of_lt lU13
      have hR13 : Blk v13 (v12.heap.size) 33 #[.int .i64 R.a, .int .i64 R.b, .int .i64 R.c] := Blk.call (by (repeat (first | with_reducible assumption | (with_reducible apply Blk.new_at; (first | rfl | (simp; done))) | with_reducible apply Blk.store3 | with_reducible apply Blk.store4 | (with_reducible apply Blk.farp; (first | omega | (simp <;> omega))) | with_reducible apply Blk.allocp | with_reducible apply Blk.drew | with_reducible apply Blk.drewN))) hc13
      have cR13 := hR13.cell; have fR13 := hR13.frozen; have lR13 := hR13.lt; have mR13 := Nat.ne_of_gt lR13; have nR13 := Nat.ne_of_lt lR13
      have hb13 : Below w.heap.size w v13 := (by repeat (first | with_reducible exact Below.refl _ _ | with_reducible assumption | with_reducible apply Below.drew | with_reducible apply below_drewN | (with_reducible apply below_setp; (first | omega | (simp <;> omega))) | (with_reducible apply below_allocp; (first | omega | (simp <;> omega))) | (with_reducible refine below_viap (by assumption) ?_ ?_; (first | omega | (simp <;> omega)))))
      clear hK12 cK12 fK12 lK12 mK12 nK12 hF12 cF12 fF12 lF12 mF12 nF12 hG12 cG12 fG12 lG12 mG12 nG12 hU12 cU12 fU12 lU12 mU12 nU12
      go_wp2_with fail
      refine (HO.out _).mono ?_
      rintro e v14 ⟨rfl, hc14⟩
      have hz14 := hc14.size
      (try simp at hz14)
      have hK14 : Blk v14 (v1.heap.size) 45 #[.int .i64 k.a, .int .i64 k.b, .int .i64 k.c, .int .i64 k.d, .int .i64 k.e, .int .i64 k.f, .int .i64 k.g, .int .i64 k.h] := Blk.call (by (repeat (first | with_reducible assumption | (with_reducible apply Blk.new_at; (first | rfl | (simp; done))) | with_reducible apply Blk.store3 | with_reducible apply Blk.store4 | (with_reducible apply Blk.farp; (first | omega | (simp <;> omega))) | with_reducible apply Blk.allocp | with_reducible apply Blk.drew | with_reducible apply Blk.drewN))) hc14
      have cK14 := hK14.cell; have fK14 := hK14.frozen; have lK14 := hK14.lt; have mK14 := Nat.ne_of_gt lK14; have nK14 := Nat.ne_of_lt lK14
      have hF14 : Blk v14 (v2.heap.size) 33 #[.int .i64 f.a, .int .i64 f.b, .int .i64 f.c] := Blk.call (by (repeat (first | with_reducible assumption | (with_reducible apply Blk.new_at; (first | rfl | (simp; done))) | with_reducible apply Blk.store3 | with_reducible apply Blk.store4 | (with_reducible apply Blk.farp; (first | omega | (simp <;> omega))) | with_reducible apply Blk.allocp | with_reducible apply Blk.drew | with_reducible apply Blk.drewN))) hc14
      have cF14 := hF14.cell; have fF14 := hF14.frozen; have lF14 := hF14.lt; have mF14 := Nat.ne_of_gt lF14; have nF14 := Nat.ne_of_lt lF14
      have hG14 : Blk v14 (v2.heap.size + 1) 33 #[.int .i64 g.a, .int .i64 g.b, .int .i64 g.c] := Blk.call (by (repeat (first | with_reducible assumption | (with_reducible apply Blk.new_at; (first | rfl | (simp; done))) | with_reducible apply Blk.store3 | with_reducible apply Blk.store4 | (with_reducible apply Blk.farp; (first | omega | (simp <;> omega))) | with_reducible apply Blk.allocp | with_reducible apply Blk.drew | with_reducible apply Blk.drewN))) hc14
      have cG14 := hG14.cell; have fG14 := hG14.frozen; have lG14 := hG14.lt; have mG14 := Nat.ne_of_gt lG14; have nG14 := Nat.ne_of_lt lG14
      have hU14 : Blk v14 (v2.heap.size + 1 + 1) 33 #[.int .i64 h.a, .int .i64 h.b, .int .i64 h.c] := Blk.call (by (repeat (first | with_reducible assumption | (with_reducible apply Blk.new_at; (first | rfl | (simp; done))) | with_reducible apply Blk.store3 | with_reducible apply Blk.store4 | (with_reducible apply Blk.farp; (first | omega | (simp <;> omega))) | with_reducible apply Blk.allocp | with_reducible apply Blk.drew | with_reducible apply Blk.drewN))) hc14
      have cU14 := hU14.cell; have fU14 := hU14.frozen; have lU14 := hU14.lt; have mU14 := Nat.ne_of_gt lU14; have nU14 := Nat.ne_of_lt lU14
      have hR14 : Blk v14 (v12.heap.size) 33 #[.int .i64 R.a, .int .i64 R.b, .int .i64 R.c] := Blk.call (by (repeat (first | with_reducible assumption | (with_reducible apply Blk.new_at; (first | rfl | (simp; done))) | with_reducible apply Blk.store3 | with_reducible apply Blk.store4 | (with_reducible apply Blk.farp; (first | omega | (simp <;> omega))) | with_reducible apply Blk.allocp | with_reducible apply Blk.drew | with_reducible apply Blk.drewN))) hc14
      have cR14 := hR14.cell; have fR14 := hR14.frozen; have lR14 := hR14.lt; have mR14 := Nat.ne_of_gt lR14; have nR14 := Nat.ne_of_lt lR14
      have hO14 : Blk v14 (v13.heap.size) 33 #[.int .i64 O.a, .int .i64 O.b, .int .i64 O.c] := Blk.call (by (repeat (first | with_reducible assumption | (with_reducible apply Blk.new_at; (first | rfl | (simp; done))) | with_reducible apply Blk.store3 | with_reducible apply Blk.store4 | (with_reducible apply Blk.farp; (first | omega | (simp <;> omega))) | with_reducible apply Blk.allocp | with_reducible apply Blk.drew | with_reducible apply Blk.drewN))) hc14
      have cO14 := hO14.cell; have fO14 := hO14.frozen; have lO14 := hO14.lt; have mO14 := Nat.ne_of_gt lO14; have nO14 := Nat.ne_of_lt lO14
      have hb14 : Below w.heap.size w v14 := (by repeat (first | with_reducible exact Below.refl _ _ | with_reducible assumption | with_reducible apply Below.drew | with_reducible apply below_drewN | (with_reducible apply below_setp; (first | omega | (simp <;> omega))) | (with_reducible apply below_allocp; (first | omega | (simp <;> omega))) | (with_reducible refine below_viap (by assumption) ?_ ?_; (first | omega | (simp <;> omega)))))
      clear hK13 cK13 fK13 lK13 mK13 nK13 hF13 cF13 fF13 lF13 mF13 nF13 hG13 cG13 fG13 lG13 mG13 nG13 hU13 cU13 fU13 lU13 mU13 nU13 hR13 cR13 fR13 lR13 mR13 nR13
      go_wp2
      go_ret
      exact ⟨rfl, (by repeat (first | with_reducible exact Below.refl _ _ | with_reducible assumption | with_reducible apply Below.drew | with_reducible apply below_drewN | (with_reducible apply below_setp; (first | omega | (simp <;> omega))) | (with_reducible apply below_allocp; (first | omega | (simp <;> omega))) | (with_reducible refine below_viap (by assumption) ?_ ?_; (first | omega | (simp <;> omega)))))⟩
  · have Hb := Lib.hid (fun w => big_yes A A2 zs.length es.length c1' c2' w hbig)
    clear HZ hbig
    go_enter Try.func4, Try.ntmps4
    go_wp2_with (go_at_call 6; (with_reducible refine (Hb.out _).mono ?_); rintro e v ⟨rfl, rfl⟩)
    go_ret
    exact ⟨rfl, (by repeat (first | with_reducible exact Below.refl _ _ | with_reducible assumption | with_reducible apply Below.drew | with_reducible apply below_drewN | (with_reducible apply below_setp; (first | omega | (simp <;> omega))) | (with_reducible apply below_allocp; (first | omega | (simp <;> omega))) | (with_reducible refine below_viap (by assumption) ?_ ?_; (first | omega | (simp <;> omega)))))⟩
theorem own_FnCubes : ownKnob Try.prog.godebug = none := by kernel_rfl

set_option maxRecDepth 100000 in
theorem lifted_FnCubes (os : Os) (started : os.Started) (H : Type) (enc : TypeId × Value → H) :
    ReturnsInHanded {} Try.checked os 4 .any (Rows.fnCubesSpec.pre6 enc Try.prog Try.f4 Rows.fnCubesRow.domain false) (Rows.fnCubesSpec.post enc Try.prog Try.f4 false true false false) := by
  refine returnsInHanded_of_change (C := Try.checked) own_FnCubes started (by kernel_rfl) Try.func4
    (ChangeSpec.witness6 (enc := enc) (C := Try.checked) false ⟨#[], #[.slice none 0 0, .slice none 0 0], []⟩ 8 (by kernel_rfl) (by kernel_rfl) (by kernel_rfl) (by kernel_rfl)) ?_
  intro W base args ds gs before hval0 hW hcnd _
  have hval : ∀ (j : Nat) t v, Try.f4.params[j]? = some t → args[j]? = some v → Value.okWide Try.prog W .any base t v := hval0
  have hW' := hW
  obtain ⟨p, q, hA0, hV, rfl, hfz, hnd⟩ := hW
  have hA : DataW.TrodAll enc Try.prog W 0 (fun _ => true) true Try.f4.params.toList args.toList ds p := hA0
  rw [Try.params4] at hA hval
  obtain ⟨v1, vs1, d1, ds1, p1, q1, hargs, rfl, rfl, h1, r1⟩ := trodAll_cons hA
  obtain ⟨v2, vs2, d2, ds2, p2, q2, rfl, rfl, rfl, h2, r2⟩ := trodAll_cons r1
  obtain ⟨rfl, rfl, rfl⟩ := trodAll_nil r2
  obtain rfl : args = #[v1, v2] := by cases args; simp_all
  obtain ⟨rfl, rfl⟩ := trodVars_none hV
  obtain ⟨zs, hrd⟩ := open_reB (hval 0 22 v1 rfl rfl) h1
  obtain ⟨es, hre⟩ := open_reB (hval 1 22 v2 rfl rfl) h2
  have hlt1 : ∀ x ∈ p1, x.block < W.heap.size := fun x hx => hW'.lt x (by simp [hx])
  have hlt2 : ∀ x ∈ p2, x.block < W.heap.size := fun x hx => hW'.lt x (by simp [hx])
  clear hA0 hval0
  refine (walk_FnCubes zs es v1 v2 W hrd hre).mono fun e W' ⟨he, hg⟩ => ?_
  subst he
  exact ⟨_, rfl, post_of_below (pa := p1 ++ (p2 ++ [])) (pv := []) hW' (fun _ _ _ => (trodAll_cons_mk (shut_bool Try.underlying4 _) trodAll_mk0)) (fun sp hsp => (trodAll_cons_mk (WideElems.Trod_stays laid_D3 (by kernel_rfl) (of_decide_eq_true (by kernel_rfl)) h1 (fun x hx => hg.same (hlt1 x hx)) (fun x hx => hsp x (by simp [hx]))) (trodAll_cons_mk (WideElems.Trod_stays laid_D3 (by kernel_rfl) (of_decide_eq_true (by kernel_rfl)) h2 (fun x hx => hg.same (hlt2 x hx)) (fun x hx => hsp x (by simp [hx]))) trodAll_mk0))) (fun _ _ => rfl) rfl
    hg (ok_one (by kernel_rfl) rfl (okWide_bool_mk Try.underlying4 _))⟩

theorem and2_FnCubes {a b : Bool} (h : a = true) (k : b = true) : (a && b) = true := by rw [h, k]; rfl
set_option maxRecDepth 100000 in
theorem cl0_FnCubes : (Rows.fnCubesRow.wf (OpenSpec.ofChange Rows.fnCubesSpec)) = true := by kernel_rfl
set_option maxRecDepth 100000 in
theorem cl1_FnCubes : (laidOutB Try.pinned.checked.prog) = true := by kernel_rfl
set_option maxRecDepth 100000 in
theorem cl2_FnCubes : (mapsRowed Try.pinned.checked.prog) = true := by kernel_rfl
set_option maxRecDepth 100000 in
theorem cl3_FnCubes : (Try.f4.params.all (Try.pinned.checked.prog.readableRec ·)) = true := by kernel_rfl
set_option maxRecDepth 100000 in
theorem cl4_FnCubes : (namedTie Try.pinned.checked.prog Rows.fnCubesRow.named Rows.fnCubesSpec.vars) = true := by kernel_rfl
set_option maxRecDepth 100000 in
theorem cl5_FnCubes : (Rows.fnCubesRow.stops == []) = true := by kernel_rfl
set_option maxRecDepth 100000 in
theorem cl6_FnCubes : (Try.pinned.checked.prog.stops == []) = true := by kernel_rfl
set_option maxRecDepth 100000 in
theorem cl7_FnCubes : (Rows.fnCubesRow.knobs == []) = true := by kernel_rfl
set_option maxRecDepth 100000 in
theorem cl8_FnCubes : (Try.pinned.checked.prog.stopKnobs == []) = true := by kernel_rfl
set_option maxRecDepth 100000 in
theorem cl9_FnCubes : (Rows.fnCubesRow.inPlace == Try.pinned.checked.prog.inPlace 4) = true := by kernel_rfl
set_option maxRecDepth 100000 in
theorem cl10_FnCubes : (Rows.fnCubesRow.unfollowed == Try.pinned.checked.prog.unfollowed 4) = true := by kernel_rfl
set_option maxRecDepth 100000 in
theorem cl11_FnCubes : (Rows.fnCubesRow.recurses == Try.pinned.checked.prog.recurses 4) = true := by kernel_rfl
set_option maxRecDepth 100000 in
theorem cl12_FnCubes : (Rows.fnCubesRow.named == Try.pinned.checked.prog.varsNamed 4) = true := by kernel_rfl
set_option maxRecDepth 100000 in
theorem cl13_FnCubes : (Rows.fnCubesRow.maps == (Try.f4.params.toList ++ Rows.fnCubesSpec.plain.varTypes Try.pinned.checked.prog).any (Try.pinned.checked.prog.mapsRec ·)) = true := by kernel_rfl
set_option maxRecDepth 100000 in
theorem cl14_FnCubes : (Rows.fnCubesRow.ifaces == (Try.f4.params.toList ++ Rows.fnCubesSpec.plain.varTypes Try.pinned.checked.prog).any (Try.pinned.checked.prog.ifacesRec ·)) = true := by kernel_rfl
set_option maxRecDepth 100000 in
theorem cl15_FnCubes : (Rows.fnCubesRow.mapsOut == Try.pinned.checked.prog.mapsAmong Try.f4.resultTypes.toList) = true := by kernel_rfl
set_option maxRecDepth 100000 in
theorem cl16_FnCubes : (Rows.fnCubesRow.loops == (Try.f4.params.toList ++ Rows.fnCubesSpec.plain.varTypes Try.pinned.checked.prog).any (Try.pinned.checked.prog.loopsFrom ·)) = true := by kernel_rfl
set_option maxRecDepth 100000 in
theorem cl17_FnCubes : (Rows.fnCubesRow.wideKeys == (Try.f4.params.toList ++ Rows.fnCubesSpec.plain.varTypes Try.pinned.checked.prog ++ Try.f4.resultTypes.toList).any (Try.pinned.checked.prog.wideKeysFrom ·)) = true := by kernel_rfl
set_option maxRecDepth 100000 in
theorem cl18_FnCubes : (Rows.fnCubesSpec.vars.all (Try.pinned.checked.prog.varReadable ·)) = true := by kernel_rfl
set_option maxRecDepth 100000 in
theorem cl19_FnCubes : (Try.f4.resultTypes.all (fun t => Try.pinned.checked.prog.readableRec t && decide (t < Try.pinned.checked.prog.types.size))) = true := by kernel_rfl
set_option maxRecDepth 100000 in
theorem cl20_FnCubes : (Rows.fnCubesRow.ifacesOut == Try.f4.resultTypes.toList.any (Try.pinned.checked.prog.ifacesRec ·)) = true := by kernel_rfl
set_option maxRecDepth 100000 in
theorem cl21_FnCubes : (Rows.fnCubesRow.loopsOut == Try.f4.resultTypes.toList.any (Try.pinned.checked.prog.loopsFrom ·)) = true := by kernel_rfl
set_option maxRecDepth 100000 in
theorem cl22_FnCubes : (Rows.fnCubesRow.plainKeys == Try.pinned.checked.prog.plainKeys) = true := by kernel_rfl
set_option maxRecDepth 100000 in
theorem cl23_FnCubes : (Rows.fnCubesRow.shortTexts.isNone) = true := by kernel_rfl
set_option maxRecDepth 100000 in
theorem cl24_FnCubes : (Try.pinned.checked.prog.stopsHeard) = true := by kernel_rfl
set_option maxRecDepth 100000 in
theorem cl25_FnCubes : (Try.pinned.checked.prog.mayEnter) = true := by kernel_rfl
set_option maxRecDepth 100000 in
theorem cl26_FnCubes : (Rows.fnCubesRow.lifted == Try.pinned.checked.prog.liftsFinal) = true := by kernel_rfl
set_option maxRecDepth 100000 in
theorem cl27_FnCubes : (Try.pinned.checked.prog.make == some Rows.fnCubesRow.make) = true := by kernel_rfl
set_option maxRecDepth 100000 in
theorem cl28_FnCubes : (Rows.fnCubesRow.kinds == (if Rows.fnCubesRow.domain.isEmpty then [] else Try.f4.params.toList.map fun t => match Try.pinned.checked.prog.underlying t with | some (.int k) => some k | _ => none)) = true := by kernel_rfl
set_option maxRecDepth 100000 in
theorem cl29_FnCubes : (Rows.fnCubesRow.pinned == Rows.fnCubesRow.pinnedBy) = true := by kernel_rfl
set_option maxRecDepth 100000 in
theorem cl30_FnCubes : (Rows.fnCubesRow.veiled == (Try.f4.params.toList ++ Rows.fnCubesSpec.plain.varTypes Try.pinned.checked.prog ++ Try.f4.resultTypes.toList).any (Try.pinned.checked.prog.veiledRec ·)) = true := by kernel_rfl
set_option maxRecDepth 100000 in
theorem cl31_FnCubes : (Rows.fnCubesRow.veiledFits Try.pinned.checked.prog Try.f4.params.toList (Try.f4.params.toList ++ Rows.fnCubesSpec.plain.varTypes Try.pinned.checked.prog ++ Try.f4.resultTypes.toList)) = true := by kernel_rfl
set_option maxRecDepth 100000 in
theorem closed_FnCubes : joinedFacts Try.pinned.checked.prog 4 Try.f4 Rows.fnCubesSpec Rows.fnCubesRow = true := (and2_FnCubes (and2_FnCubes (and2_FnCubes (and2_FnCubes (and2_FnCubes (and2_FnCubes (and2_FnCubes (and2_FnCubes (and2_FnCubes (and2_FnCubes (and2_FnCubes (and2_FnCubes (and2_FnCubes (and2_FnCubes (and2_FnCubes (and2_FnCubes (and2_FnCubes (and2_FnCubes (and2_FnCubes (and2_FnCubes (and2_FnCubes (and2_FnCubes (and2_FnCubes (and2_FnCubes (and2_FnCubes (and2_FnCubes (and2_FnCubes (and2_FnCubes (and2_FnCubes (and2_FnCubes (and2_FnCubes cl0_FnCubes cl1_FnCubes) cl2_FnCubes) cl3_FnCubes) cl4_FnCubes) cl5_FnCubes) cl6_FnCubes) cl7_FnCubes) cl8_FnCubes) cl9_FnCubes) cl10_FnCubes) cl11_FnCubes) cl12_FnCubes) cl13_FnCubes) cl14_FnCubes) cl15_FnCubes) cl16_FnCubes) cl17_FnCubes) cl18_FnCubes) cl19_FnCubes) cl20_FnCubes) cl21_FnCubes) cl22_FnCubes) cl23_FnCubes) cl24_FnCubes) cl25_FnCubes) cl26_FnCubes) cl27_FnCubes) cl28_FnCubes) cl29_FnCubes) cl30_FnCubes) cl31_FnCubes)


/-- The statement. -/
theorem holds_FnCubes : Rows.FnCubesSaid :=
  OpenClaim.holds_of_wide 4 Try.f4 rfl rfl rfl rfl rfl rfl rfl ⟨rfl, rfl, rfl, rfl, rfl⟩ rfl rfl rfl rfl rfl (by kernel_rfl) Try.func4 closed_FnCubes
    (of_decide_eq_true (by kernel_rfl)) (by unfold Func.isWrapper; first | (rw [if_pos (by decide +kernel)]; kernel_rfl) | (rw [if_neg (by decide +kernel)]; exact ⟨rfl, rfl⟩))
    (fun os started H enc _ => lifted_FnCubes os started H enc)
#print axioms holds_FnCubes
end Go.Proofs.Ytjjkndgokdofdaa
