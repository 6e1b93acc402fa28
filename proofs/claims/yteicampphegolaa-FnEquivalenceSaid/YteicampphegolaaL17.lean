/- FnEquivalence returns true: for all drawn definite forms, equivalent ones are exactly those with a matrix that makes one of the other, automorphs make the form of itself, and a primitive form has as many as its discriminant tells. Conditions: none. -/
import Derived.Test.YteicampphegolaaVH
import Derived.Test.YteicampphegolaaVI
import Derived.Test.YteicampphegolaaW2
namespace Go.Proofs.Yteicampphegolaa
open Go.RowKit Go.ChangeShapes Go.WideShapes Go.ChangeAt Go.Joins

theorem em_facts {f g : Fm} {m : M4} (h : EmR f g m true) : isDefB f.a f.b f.c = true ∧ isDefB g.a g.b g.c = true ∧ numM m = true ∧ actM f m = g ∧ m.det = 1 ∧ red f = red g := by
  rcases h with ⟨_, _, h⟩ | ⟨_, _, _, h⟩ | ⟨_, _, _, _, h⟩ | ⟨h1, h2, h3, h4, h5⟩
  · cases h
  · cases h
  · cases h
  · rw [if_pos rfl] at h5
    obtain ⟨k1, k2⟩ := redM_act (def_mono (defB_def h1) (by decide))
    obtain ⟨k3, k4⟩ := redM_act (def_mono (defB_def h2) (by decide))
    refine ⟨h1, h2, by rw [h5]; exact h4.symm, ?_, by rw [h5, det_mul, k2, det_inv4 k4]; rfl, h3⟩
    have e1 : actM ⟨f.a, f.b, f.c⟩ (redM ⟨f.a, f.b, f.c⟩ M4.one) = red f := k1
    have e2 : actM ⟨g.a, g.b, g.c⟩ (redM ⟨g.a, g.b, g.c⟩ M4.one) = red g := k3
    rw [h5, ← act_mul]
    have : actM (actM f (redM f M4.one)) (redM g M4.one).inv = actM (actM g (redM g M4.one)) (redM g M4.one).inv := by
      show actM (actM ⟨f.a, f.b, f.c⟩ (redM ⟨f.a, f.b, f.c⟩ M4.one)) _ = actM (actM ⟨g.a, g.b, g.c⟩ (redM ⟨g.a, g.b, g.c⟩ M4.one)) _
      rw [e1, e2, h3]
    rw [this, act_mul, mul_inv4 k4, act_one]
theorem ae_facts {f g : Fm} {x ok : Bool} (h : AeR f g x ok) (h1 : isDefB f.a f.b f.c = true) (h2 : isDefB g.a g.b g.c = true) (h3 : red f = red g) : x = true ∧ ok = true := by
  rcases h with ⟨k, _⟩ | ⟨_, k, _⟩ | ⟨_, _, e1, e2⟩
  · rw [h1] at k; cases k
  · rw [h2] at k; cases k
  · exact ⟨by rw [e1, fmEq_iff]; exact h3, e2⟩
theorem atR_ex (f : Fm) : ∃ L ok, AtR f L ok := by
  cases h : isDefB f.a f.b f.c with
  | false => exact ⟨_, _, .inl ⟨h, rfl, rfl⟩⟩
  | true => exact ⟨_, _, .inr ⟨h, rfl, rfl⟩⟩
theorem acR_ex (d : Int) : ∃ n ok, AcR d n ok := by
  cases h : isDisc d with
  | false => exact ⟨_, _, .inl ⟨h, rfl, rfl⟩⟩
  | true => exact ⟨_, _, .inr ⟨h, rfl, rfl⟩⟩
/-- The facts of a list of automorphs. -/
theorem at_facts {a : Fm} {L : List M4} {ok : Bool} (h : AtR a L ok) : L.length ≤ 6 ∧ (∀ u ∈ L, isDefB a.a a.b a.c = true ∧ numM u = true ∧ actM a u = a) ∧ (ok = true → isDefB a.a a.b a.c = true) ∧
    (ok = true → prB a = true → isDisc (disc a) = true → (L.length : Int) = acN (disc a)) := by
  rcases h with ⟨_, rfl, rfl⟩ | ⟨h1, rfl, rfl⟩
  · exact ⟨by simp, by simp, by simp, by simp⟩
  · have hd := defB_def h1
    have AD := autD_of hd
    have hperm := AD.perm
    have e0 : (⟨a.a, a.b, a.c⟩ : Fm) = a := rfl
    rw [e0] at hperm
    have hlen : (srtM (autI (red a) (redM a M4.one))).length = (autS ⟨a.a / (Int.gcd a.a (Int.gcd a.b a.c) : Nat), a.b / (Int.gcd a.a (Int.gcd a.b a.c) : Nat), a.c / (Int.gcd a.a (Int.gcd a.b a.c) : Nat)⟩).length := by rw [srt_len]; exact hperm.length_eq
    refine ⟨?_, ?_, fun _ => h1, ?_⟩
    · rw [hlen, autS_len AD.d3]; split <;> (try split) <;> omega
    · intro u hu
      have hm := hperm.mem_iff.1 (srt_mem.1 hu)
      exact ⟨h1, aut_num hd (isFm_bd (idef_form h1)).2.1 AD u hm, AD.act u hm⟩
    · intro _ hp _
      unfold prB at hp
      rw [beq_iff_eq] at hp
      have hfe : (⟨a.a / (Int.gcd a.a (Int.gcd a.b a.c) : Nat), a.b / (Int.gcd a.a (Int.gcd a.b a.c) : Nat), a.c / (Int.gcd a.a (Int.gcd a.b a.c) : Nat)⟩ : Fm) = a := by
        have hp' : ((Int.gcd a.a (Int.gcd a.b a.c) : Nat) : Int) = 1 := hp
        rw [hp', Int.ediv_one, Int.ediv_one, Int.ediv_one]
      have h3 := AD.d3
      simp only at h3 hlen
      rw [hfe] at hlen h3
      rw [hlen, autS_len h3]
      unfold acN
      split
      · rfl
      · split <;> rfl

set_option maxRecDepth 100000 in
set_option maxHeartbeats 25600000 in
theorem walk_FnEquivalence (zs es : List Int) (v u : Value) (w : World) (hz : ReB zs v w) (he : ReB es u w) :
    Calls Try.prog 5 #[v, u] w fun e w' => e = .returned (.bool true) ∧ Below w.heap.size w w' := by
  have HZ := Lib.hid hz
  have HY := Lib.hid he
  obtain ⟨A, c1, rfl⟩ := hz.shape
  obtain ⟨A2, c2, rfl⟩ := he.shape
  clear hz he
  by_cases hbig : zs.length ≤ 1048576 ∧ es.length ≤ 1048576 - zs.length
  · have Hb := Lib.hid (fun w => big_no A A2 zs.length es.length c1 c2 w hbig.1 hbig.2)
    have HR := Lib.hid (HZ.out.rd hbig.1)
    have HE := Lib.hid (fun w' (hb : Below w.heap.size w w') => (HY.out.rd (by omega)).below hb (Nat.le_refl _))
    clear HZ HY hbig
    go_enter Try.func5, Try.ntmps5
    go_wp2_with (go_at_call 11; (with_reducible refine (Hb.out _).mono ?_); rintro e v ⟨rfl, rfl⟩)
    refine (drawAE_any zs _ _ _ HR.out (Nat.le_refl _)).mono ?_
    rintro e v1 ⟨f, g, rfl, hb1⟩
    have hz1 := hb1.size
    obtain ⟨x, ok, hAe⟩ := aeR_ex f g
    obtain ⟨m, one, hEm⟩ := emR_ex f g
    have HI := Lib.hid (fun w => implAE_any f g x ok w hAe)
    have HS := Lib.hid (fun w => specAE_any f g x ok w hAe)
    have HM := Lib.hid (fun w => implEM_any f g m one w hEm)
    cases one with
    | false =>
      clear hAe hEm
      go_wp2_with fail
      refine (HI.out _).mono ?_
      rintro e v2 ⟨rfl, hc2⟩
      have hz2 := hc2.size
      (try simp at hz2)
      have hF2 : Blk v2 (v1.heap.size) 35 #[.int .i64 f.a, .int .i64 f.b, .int .i64 f.c] := Blk.call (by (repeat (first | with_reducible assumption | (with_reducible apply Blk.new_at; (first | rfl | (simp; done))) | with_reducible apply Blk.store3 | with_reducible apply Blk.store4 | (with_reducible apply Blk.farp; (first | omega | (simp <;> omega))) | with_reducible apply Blk.allocp | with_reducible apply Blk.drew | with_reducible apply Blk.drewN))) hc2
      have cF2 := hF2.cell; have fF2 := hF2.frozen; have lF2 := hF2.lt; have mF2 := Nat.ne_of_gt lF2; have nF2 := Nat.ne_of_lt lF2
      have hG2 : Blk v2 (v1.heap.size + 1) 35 #[.int .i64 g.a, .int .i64 g.b, .int .i64 g.c] := Blk.call (by (repeat (first | with_reducible assumption | (with_reducible apply Blk.new_at; (first | rfl | (simp; done))) | with_reducible apply Blk.store3 | with_reducible apply Blk.store4 | (with_reducible apply Blk.farp; (first | omega | (simp <;> omega))) | with_reducible apply Blk.allocp | with_reducible apply Blk.drew | with_reducible apply Blk.drewN))) hc2
      have cG2 := hG2.cell; have fG2 := hG2.frozen; have lG2 := hG2.lt; have mG2 := Nat.ne_of_gt lG2; have nG2 := Nat.ne_of_lt lG2
      have hb2 : Below w.heap.size w v2 := (by repeat (first | with_reducible exact Below.refl _ _ | with_reducible assumption | with_reducible apply Below.drew | with_reducible apply below_drewN | (with_reducible apply below_setp; (first | omega | (simp <;> omega))) | (with_reducible apply below_allocp; (first | omega | (simp <;> omega))) | (with_reducible refine below_viap (by assumption) ?_ ?_; (first | omega | (simp <;> omega)))))
      go_wp2_with fail
      refine (HS.out _).mono ?_
      rintro e v3 ⟨rfl, hc3⟩
      have hz3 := hc3.size
      (try simp at hz3)
      have hF3 : Blk v3 (v1.heap.size) 35 #[.int .i64 f.a, .int .i64 f.b, .int .i64 f.c] := Blk.call (by (repeat (first | with_reducible assumption | (with_reducible apply Blk.new_at; (first | rfl | (simp; done))) | with_reducible apply Blk.store3 | with_reducible apply Blk.store4 | (with_reducible apply Blk.farp; (first | omega | (simp <;> omega))) | with_reducible apply Blk.allocp | with_reducible apply Blk.drew | with_reducible apply Blk.drewN))) hc3
      have cF3 := hF3.cell; have fF3 := hF3.frozen; have lF3 := hF3.lt; have mF3 := Nat.ne_of_gt lF3; have nF3 := Nat.ne_of_lt lF3
      have hG3 : Blk v3 (v1.heap.size + 1) 35 #[.int .i64 g.a, .int .i64 g.b, .int .i64 g.c] := Blk.call (by (repeat (first | with_reducible assumption | (with_reducible apply Blk.new_at; (first | rfl | (simp; done))) | with_reducible apply Blk.store3 | with_reducible apply Blk.store4 | (with_reducible apply Blk.farp; (first | omega | (simp <;> omega))) | with_reducible apply Blk.allocp | with_reducible apply Blk.drew | with_reducible apply Blk.drewN))) hc3
      have cG3 := hG3.cell; have fG3 := hG3.frozen; have lG3 := hG3.lt; have mG3 := Nat.ne_of_gt lG3; have nG3 := Nat.ne_of_lt lG3
      have hb3 : Below w.heap.size w v3 := (by repeat (first | with_reducible exact Below.refl _ _ | with_reducible assumption | with_reducible apply Below.drew | with_reducible apply below_drewN | (with_reducible apply below_setp; (first | omega | (simp <;> omega))) | (with_reducible apply below_allocp; (first | omega | (simp <;> omega))) | (with_reducible refine below_viap (by assumption) ?_ ?_; (first | omega | (simp <;> omega)))))
      clear hF2 cF2 fF2 lF2 mF2 nF2 hG2 cG2 fG2 lG2 mG2 nG2
      go_wp2_with fail
      refine (HM.out _).mono ?_
      rintro e v4 ⟨rfl, hc4⟩
      have hz4 := hc4.size
      (try simp at hz4)
      have hF4 : Blk v4 (v1.heap.size) 35 #[.int .i64 f.a, .int .i64 f.b, .int .i64 f.c] := Blk.call (by (repeat (first | with_reducible assumption | (with_reducible apply Blk.new_at; (first | rfl | (simp; done))) | with_reducible apply Blk.store3 | with_reducible apply Blk.store4 | (with_reducible apply Blk.farp; (first | omega | (simp <;> omega))) | with_reducible apply Blk.allocp | with_reducible apply Blk.drew | with_reducible apply Blk.drewN))) hc4
      have cF4 := hF4.cell; have fF4 := hF4.frozen; have lF4 := hF4.lt; have mF4 := Nat.ne_of_gt lF4; have nF4 := Nat.ne_of_lt lF4
      have hG4 : Blk v4 (v1.heap.size + 1) 35 #[.int .i64 g.a, .int .i64 g.b, .int .i64 g.c] := Blk.call (by (repeat (first | with_reducible assumption | (with_reducible apply Blk.new_at; (first | rfl | (simp; done))) | with_reducible apply Blk.store3 | with_reducible apply Blk.store4 | (with_reducible apply Blk.farp; (first | omega | (simp <;> omega))) | with_reducible apply Blk.allocp | with_reducible apply Blk.drew | with_reducible apply Blk.drewN))) hc4
      have cG4 := hG4.cell; have fG4 := hG4.frozen; have lG4 := hG4.lt; have mG4 := Nat.ne_of_gt lG4; have nG4 := Nat.ne_of_lt lG4
      have hb4 : Below w.heap.size w v4 := (by repeat (first | with_reducible exact Below.refl _ _ | with_reducible assumption | with_reducible apply Below.drew | with_reducible apply below_drewN | (with_reducible apply below_setp; (first | omega | (simp <;> omega))) | (with_reducible apply below_allocp; (first | omega | (simp <;> omega))) | (with_reducible refine below_viap (by assumption) ?_ ?_; (first | omega | (simp <;> omega)))))
      clear hF3 cF3 fF3 lF3 mF3 nF3 hG3 cG3 fG3 lG3 mG3 nG3
      go_wp2_with fail
      refine (drawAut_any es _ w.heap.size _ (HE.out _ (by repeat (first | with_reducible exact Below.refl _ _ | with_reducible assumption | with_reducible apply Below.drew | with_reducible apply below_drewN | (with_reducible apply below_setp; (first | omega | (simp <;> omega))) | (with_reducible apply below_allocp; (first | omega | (simp <;> omega))) | (with_reducible refine below_viap (by assumption) ?_ ?_; (first | omega | (simp <;> omega)))))) (by first | omega | (simp <;> omega))).mono ?_
      rintro e v5 ⟨a, rfl, hc5⟩
      have hz5 := hc5.size
      (try simp at hz5)
      have hb5 : Below w.heap.size w v5 := (by repeat (first | with_reducible exact Below.refl _ _ | with_reducible assumption | with_reducible apply Below.drew | with_reducible apply below_drewN | (with_reducible apply below_setp; (first | omega | (simp <;> omega))) | (with_reducible apply below_allocp; (first | omega | (simp <;> omega))) | (with_reducible refine below_viap (by assumption) ?_ ?_; (first | omega | (simp <;> omega)))))
      obtain ⟨L, ok2, hAt⟩ := atR_ex a
      have HA := Lib.hid (fun w => implAut_any a L ok2 w hAt)
      have HB := Lib.hid (fun w => specAut_any a L ok2 w hAt)
      obtain ⟨hL6, hU, hdef, hcnt⟩ := at_facts hAt
      have HU := Lib.hid hU
      have HDf := Lib.hid hdef
      have HC := Lib.hid hcnt
      clear hAt hU hdef hcnt HE
      go_wp2_with fail
      refine (HA.out _).mono ?_
      rintro e v6 ⟨vl, rfl, hl6, hc6⟩
      have hz6 := hc6.size
      (try simp at hz6)
      have hQ6 : Blk v6 (v5.heap.size) 35 #[.int .i64 a.a, .int .i64 a.b, .int .i64 a.c] := Blk.call (by (repeat (first | with_reducible assumption | (with_reducible apply Blk.new_at; (first | rfl | (simp; done))) | with_reducible apply Blk.store3 | with_reducible apply Blk.store4 | (with_reducible apply Blk.farp; (first | omega | (simp <;> omega))) | with_reducible apply Blk.allocp | with_reducible apply Blk.drew | with_reducible apply Blk.drewN))) hc6
      have cQ6 := hQ6.cell; have fQ6 := hQ6.frozen; have lQ6 := hQ6.lt; have mQ6 := Nat.ne_of_gt lQ6; have nQ6 := Nat.ne_of_lt lQ6
      have hb6 : Below w.heap.size w v6 := (by repeat (first | with_reducible exact Below.refl _ _ | with_reducible assumption | with_reducible apply Below.drew | with_reducible apply below_drewN | (with_reducible apply below_setp; (first | omega | (simp <;> omega))) | (with_reducible apply below_allocp; (first | omega | (simp <;> omega))) | (with_reducible refine below_viap (by assumption) ?_ ?_; (first | omega | (simp <;> omega)))))
      obtain ⟨bl, cl, rfl⟩ := own_shape hl6
      go_wp2_with fail
      refine (HB.out _).mono ?_
      rintro e v7 ⟨vm, rfl, hm7, hc7⟩
      have hz7 := hc7.size
      (try simp at hz7)
      have hQ7 : Blk v7 (v5.heap.size) 35 #[.int .i64 a.a, .int .i64 a.b, .int .i64 a.c] := Blk.call (by (repeat (first | with_reducible assumption | (with_reducible apply Blk.new_at; (first | rfl | (simp; done))) | with_reducible apply Blk.store3 | with_reducible apply Blk.store4 | (with_reducible apply Blk.farp; (first | omega | (simp <;> omega))) | with_reducible apply Blk.allocp | with_reducible apply Blk.drew | with_reducible apply Blk.drewN))) hc7
      have cQ7 := hQ7.cell; have fQ7 := hQ7.frozen; have lQ7 := hQ7.lt; have mQ7 := Nat.ne_of_gt lQ7; have nQ7 := Nat.ne_of_lt lQ7
      have hl7 := own_call hc7 hl6
      have hb7 : Below w.heap.size w v7 := (by repeat (first | with_reducible exact Below.refl _ _ | with_reducible assumption | with_reducible apply Below.drew | with_reducible apply below_drewN | (with_reducible apply below_setp; (first | omega | (simp <;> omega))) | (with_reducible apply below_allocp; (first | omega | (simp <;> omega))) | (with_reducible refine below_viap (by assumption) ?_ ?_; (first | omega | (simp <;> omega)))))
      clear hQ6 cQ6 fQ6 lQ6 mQ6 nQ6 hl6
      obtain ⟨bm, cm, rfl⟩ := own_shape hm7
      have Hl := Lib.hid hl7
      have Hm := Lib.hid hm7
      obtain ⟨N, hN⟩ : ∃ N, L.length = N := ⟨_, rfl⟩
      have HN := Lib.hid hN
      rw [hN] at hL6 HC ⊢
      clear hl7 hm7 hN HA HB
      go_wp2
      go_loopw [124] (fun vi wr => ∃ k : Nat, vi = .int .i64 k ∧ k ≤ N ∧ Below v7.heap.size v7 wr) (fun vi _ => N - (intOf vi).toNat)
      case atStart => exact ⟨0, rfl, Nat.zero_le _, Below.refl _ _⟩
      case round =>
        obtain ⟨k, rfl, hk, hbel⟩ := hrel
        have hzr := hbel.size
        have hQr : Blk wr v5.heap.size 35 #[.int .i64 a.a, .int .i64 a.b, .int .i64 a.c] := hQ7.call hbel
        have cQr := hQr.cell; have fQr := hQr.frozen; have lQr := hQr.lt; have mQr := Nat.ne_of_gt lQr; have nQr := Nat.ne_of_lt lQr
        clear hQ7 cQ7 fQ7 lQ7 mQ7 nQ7
        by_cases hlt : k < N
        · have hkL : k < L.length := by rw [HN.out]; exact hlt
          obtain ⟨g1, rfl, l1, d1, d2, d3, d4⟩ := own_elemM (own_call hbel Hl.out) hkL
          obtain ⟨g2, rfl, l2, e1, e2, e3, e4⟩ := own_elemM (own_call hbel Hm.out) hkL
          obtain ⟨u1, u2, u3⟩ := HU.out _ (List.getElem_mem hkL)
          have hSu := Lib.hid (fun w => implSub_m a a L[k] w u1 u1 u2 u3)
          clear u1 u2 u3
          generalize L[k] = y at *
          have l3 := Nat.ne_of_lt l1; have l4 := Nat.ne_of_lt l2
          go_wp2_with (go_at_call 29; (with_reducible refine (hSu.out _).mono ?_); rintro e v90 ⟨rfl, hB90⟩; have hZ90 := hB90.size; (try simp at hZ90); (try have zl90 : w.heap.size < v90.heap.size := by omega); (try have ze90 : w.heap.size ≤ v90.heap.size := by omega); (try have zn90 : ¬ w.heap.size = v90.heap.size := by omega); (try have zm90 : ¬ v90.heap.size = w.heap.size := by omega); have hQ90 : Blk v90 (v5.heap.size) 35 #[.int .i64 a.a, .int .i64 a.b, .int .i64 a.c] := Blk.call (by (repeat (first | with_reducible assumption | (with_reducible apply Blk.new_at; (first | rfl | (simp; done))) | with_reducible apply Blk.store3 | with_reducible apply Blk.store4 | (with_reducible apply Blk.farp; (first | omega | (simp <;> omega))) | with_reducible apply Blk.allocp | with_reducible apply Blk.drew | with_reducible apply Blk.drewN))) hB90; have cQ90 := hQ90.cell; have fQ90 := hQ90.frozen; have lQ90 := hQ90.lt; have mQ90 := Nat.ne_of_gt lQ90; have nQ90 := Nat.ne_of_lt lQ90; have hU90 : Blk v90 (wr.heap.size) 49 #[.int .i64 y.p, .int .i64 y.q, .int .i64 y.r, .int .i64 y.s] := Blk.call (by (repeat (first | with_reducible assumption | (with_reducible apply Blk.new_at; (first | rfl | (simp; done))) | with_reducible apply Blk.store3 | with_reducible apply Blk.store4 | (with_reducible apply Blk.farp; (first | omega | (simp <;> omega))) | with_reducible apply Blk.allocp | with_reducible apply Blk.drew | with_reducible apply Blk.drewN))) hB90; have cU90 := hU90.cell; have fU90 := hU90.frozen; have lU90 := hU90.lt; have mU90 := Nat.ne_of_gt lU90; have nU90 := Nat.ne_of_lt lU90)
          have h90 : Below wr.heap.size wr v90 := (by repeat (first | with_reducible exact Below.refl _ _ | with_reducible assumption | with_reducible apply Below.drew | with_reducible apply below_drewN | (with_reducible apply below_setp; (first | omega | (simp <;> omega))) | (with_reducible apply below_allocp; (first | omega | (simp <;> omega))) | (with_reducible refine below_viap (by assumption) ?_ ?_; (first | omega | (simp <;> omega)))))
          have f1 := ((calm_cells h90).1 g2 (k * 4) l2).trans e1; have f2 := ((calm_cells h90).1 g2 (k * 4 + 1) l2).trans e2; have f3 := ((calm_cells h90).1 g2 (k * 4 + 2) l2).trans e3; have f4 := ((calm_cells h90).1 g2 (k * 4 + 3) l2).trans e4
          have s1 := h90.size
          have s2 : g2 < v90.heap.size := by omega
          have s3 : ¬ g2 = v90.heap.size := by omega
          have s4 : g2 < v90.heap.size + 1 := by omega
          have s5 : v5.heap.size < v90.heap.size + 1 := by omega
          have s6 : wr.heap.size < v90.heap.size + 1 := by omega
          have kI : (k : Int) < (N : Int) := by omega
          clear d1 d2 d3 d4 e1 e2 e3 e4 hSu
          refine wp_region_calm 15 (Below (v90.heap.size + 1) _) (by kernel_rfl) (by kernel_rfl) ((Below.refl _ _).drew) ?_
          simp only [List.take_succ_cons, List.take_zero, List.drop_succ_cons, List.drop_zero]
          repeat (first | (apply wpCalm_go; go_simp; (intro w' hw' hcc hff; go_simp; first | exact rfl | fail); (intro K hK; go_simp; refine hK _ ?_; clear hK K)) | (apply wpCalm_skip; go_simp; (try (focus (simp [undef]; done))); (intro K hK; go_simp; refine hK _ ?_; clear hK K)))
          refine wpCalm_nil ?_
          intro w1 hw1
          have hcc := (calm_cells hw1).1
          have hff := (calm_cells hw1).2
          have hss := calm_size hw1
          have hsz := hw1.size
          (try simp at hsz)
          go_wp2
          go_roundw
          case rel => exact ⟨k + 1, by go_num, hlt, (by repeat (first | with_reducible exact Below.refl _ _ | with_reducible assumption | with_reducible apply Below.drew | with_reducible apply below_drewN | (with_reducible apply below_setp; (first | omega | (simp <;> omega))) | (with_reducible apply below_allocp; (first | omega | (simp <;> omega))) | (with_reducible refine below_viap (by assumption) ?_ ?_; (first | omega | (simp <;> omega)))))⟩
          case measure => simp [intOf]; omega
        · obtain rfl : k = N := by omega
          cases ok2 with
          | false =>
            go_wp2
            go_ret
            exact ⟨rfl, (by repeat (first | with_reducible exact Below.refl _ _ | with_reducible assumption | with_reducible apply Below.drew | with_reducible apply below_drewN | (with_reducible apply below_setp; (first | omega | (simp <;> omega))) | (with_reducible apply below_allocp; (first | omega | (simp <;> omega))) | (with_reducible refine below_viap (by assumption) ?_ ?_; (first | omega | (simp <;> omega)))))⟩
          | true =>
            have hdf := HDf.out rfl
            have hX1 := Lib.hid (fun w => implDisc_f a w hdf)
            have hX2 := Lib.hid (fun w => implPrim_f a w hdf)
            obtain ⟨n3, ok3, hAc⟩ := acR_ex (disc a)
            have hX3 := Lib.hid (fun w => implAC2_any (disc a) n3 ok3 w hAc)
            have hfin : Hid (ok3 = true → prB a = true → n3 = (k : Int)) := Lib.hid (fun h1 h2 => hAc.elim (fun h => absurd (h1.symm.trans h.2.2) (by simp)) (fun h => by rw [h.2.1]; exact (HC.out rfl h2 h.1).symm))
            clear hdf hAc HC HDf HU Hl Hm
            generalize disc a = D at *
            have hkn : ¬ (k : Int) < (k : Int) := by omega
            cases ok3 with
            | false =>
              clear hfin
              go_wp2_with (first | (go_at_call 34; (with_reducible refine (hX1.out _).mono ?_); rintro e v91 ⟨rfl, hB91⟩; have hZ91 := hB91.size; (try simp at hZ91); (try have zl91 : w.heap.size < v91.heap.size := by omega); (try have ze91 : w.heap.size ≤ v91.heap.size := by omega); (try have zn91 : ¬ w.heap.size = v91.heap.size := by omega); (try have zm91 : ¬ v91.heap.size = w.heap.size := by omega); have hQ91 : Blk v91 (v5.heap.size) 35 #[.int .i64 a.a, .int .i64 a.b, .int .i64 a.c] := Blk.call (by (repeat (first | with_reducible assumption | (with_reducible apply Blk.new_at; (first | rfl | (simp; done))) | with_reducible apply Blk.store3 | with_reducible apply Blk.store4 | (with_reducible apply Blk.farp; (first | omega | (simp <;> omega))) | with_reducible apply Blk.allocp | with_reducible apply Blk.drew | with_reducible apply Blk.drewN))) hB91; have cQ91 := hQ91.cell; have fQ91 := hQ91.frozen; have lQ91 := hQ91.lt; have mQ91 := Nat.ne_of_gt lQ91; have nQ91 := Nat.ne_of_lt lQ91) | (go_at_call 35; (with_reducible refine (hX2.out _).mono ?_); rintro e v92 ⟨rfl, hB92⟩; have hZ92 := hB92.size; (try simp at hZ92); (try have zl92 : w.heap.size < v92.heap.size := by omega); (try have ze92 : w.heap.size ≤ v92.heap.size := by omega); (try have zn92 : ¬ w.heap.size = v92.heap.size := by omega); (try have zm92 : ¬ v92.heap.size = w.heap.size := by omega); have hQ92 : Blk v92 (v5.heap.size) 35 #[.int .i64 a.a, .int .i64 a.b, .int .i64 a.c] := Blk.call (by (repeat (first | with_reducible assumption | (with_reducible apply Blk.new_at; (first | rfl | (simp; done))) | with_reducible apply Blk.store3 | with_reducible apply Blk.store4 | (with_reducible apply Blk.farp; (first | omega | (simp <;> omega))) | with_reducible apply Blk.allocp | with_reducible apply Blk.drew | with_reducible apply Blk.drewN))) hB92; have cQ92 := hQ92.cell; have fQ92 := hQ92.frozen; have lQ92 := hQ92.lt; have mQ92 := Nat.ne_of_gt lQ92; have nQ92 := Nat.ne_of_lt lQ92) | (go_at_call 16; (with_reducible refine (hX3.out _).mono ?_); rintro e v ⟨rfl, rfl⟩))
              go_ret
              exact ⟨rfl, (by repeat (first | with_reducible exact Below.refl _ _ | with_reducible assumption | with_reducible apply Below.drew | with_reducible apply below_drewN | (with_reducible apply below_setp; (first | omega | (simp <;> omega))) | (with_reducible apply below_allocp; (first | omega | (simp <;> omega))) | (with_reducible refine below_viap (by assumption) ?_ ?_; (first | omega | (simp <;> omega)))))⟩
            | true =>
              cases hp : prB a with
              | false =>
                rw [hp] at hX2
                clear hfin hp
                go_wp2_with (first | (go_at_call 34; (with_reducible refine (hX1.out _).mono ?_); rintro e v91 ⟨rfl, hB91⟩; have hZ91 := hB91.size; (try simp at hZ91); (try have zl91 : w.heap.size < v91.heap.size := by omega); (try have ze91 : w.heap.size ≤ v91.heap.size := by omega); (try have zn91 : ¬ w.heap.size = v91.heap.size := by omega); (try have zm91 : ¬ v91.heap.size = w.heap.size := by omega); have hQ91 : Blk v91 (v5.heap.size) 35 #[.int .i64 a.a, .int .i64 a.b, .int .i64 a.c] := Blk.call (by (repeat (first | with_reducible assumption | (with_reducible apply Blk.new_at; (first | rfl | (simp; done))) | with_reducible apply Blk.store3 | with_reducible apply Blk.store4 | (with_reducible apply Blk.farp; (first | omega | (simp <;> omega))) | with_reducible apply Blk.allocp | with_reducible apply Blk.drew | with_reducible apply Blk.drewN))) hB91; have cQ91 := hQ91.cell; have fQ91 := hQ91.frozen; have lQ91 := hQ91.lt; have mQ91 := Nat.ne_of_gt lQ91; have nQ91 := Nat.ne_of_lt lQ91) | (go_at_call 35; (with_reducible refine (hX2.out _).mono ?_); rintro e v92 ⟨rfl, hB92⟩; have hZ92 := hB92.size; (try simp at hZ92); (try have zl92 : w.heap.size < v92.heap.size := by omega); (try have ze92 : w.heap.size ≤ v92.heap.size := by omega); (try have zn92 : ¬ w.heap.size = v92.heap.size := by omega); (try have zm92 : ¬ v92.heap.size = w.heap.size := by omega); have hQ92 : Blk v92 (v5.heap.size) 35 #[.int .i64 a.a, .int .i64 a.b, .int .i64 a.c] := Blk.call (by (repeat (first | with_reducible assumption | (with_reducible apply Blk.new_at; (first | rfl | (simp; done))) | with_reducible apply Blk.store3 | with_reducible apply Blk.store4 | (with_reducible apply Blk.farp; (first | omega | (simp <;> omega))) | with_reducible apply Blk.allocp | with_reducible apply Blk.drew | with_reducible apply Blk.drewN))) hB92; have cQ92 := hQ92.cell; have fQ92 := hQ92.frozen; have lQ92 := hQ92.lt; have mQ92 := Nat.ne_of_gt lQ92; have nQ92 := Nat.ne_of_lt lQ92) | (go_at_call 16; (with_reducible refine (hX3.out _).mono ?_); rintro e v ⟨rfl, rfl⟩))
                go_ret
                exact ⟨rfl, (by repeat (first | with_reducible exact Below.refl _ _ | with_reducible assumption | with_reducible apply Below.drew | with_reducible apply below_drewN | (with_reducible apply below_setp; (first | omega | (simp <;> omega))) | (with_reducible apply below_allocp; (first | omega | (simp <;> omega))) | (with_reducible refine below_viap (by assumption) ?_ ?_; (first | omega | (simp <;> omega)))))⟩
              | true =>
                rw [hp] at hX2
                obtain rfl := hfin.out rfl hp
                clear hfin hp
                go_wp2_with (first | (go_at_call 34; (with_reducible refine (hX1.out _).mono ?_); rintro e v91 ⟨rfl, hB91⟩; have hZ91 := hB91.size; (try simp at hZ91); (try have zl91 : w.heap.size < v91.heap.size := by omega); (try have ze91 : w.heap.size ≤ v91.heap.size := by omega); (try have zn91 : ¬ w.heap.size = v91.heap.size := by omega); (try have zm91 : ¬ v91.heap.size = w.heap.size := by omega); have hQ91 : Blk v91 (v5.heap.size) 35 #[.int .i64 a.a, .int .i64 a.b, .int .i64 a.c] := Blk.call (by (repeat (first | with_reducible assumption | (with_reducible apply Blk.new_at; (first | rfl | (simp; done))) | with_reducible apply Blk.store3 | with_reducible apply Blk.store4 | (with_reducible apply Blk.farp; (first | omega | (simp <;> omega))) | with_reducible apply Blk.allocp | with_reducible apply Blk.drew | with_reducible apply Blk.drewN))) hB91; have cQ91 := hQ91.cell; have fQ91 := hQ91.frozen; have lQ91 := hQ91.lt; have mQ91 := Nat.ne_of_gt lQ91; have nQ91 := Nat.ne_of_lt lQ91) | (go_at_call 35; (with_reducible refine (hX2.out _).mono ?_); rintro e v92 ⟨rfl, hB92⟩; have hZ92 := hB92.size; (try simp at hZ92); (try have zl92 : w.heap.size < v92.heap.size := by omega); (try have ze92 : w.heap.size ≤ v92.heap.size := by omega); (try have zn92 : ¬ w.heap.size = v92.heap.size := by omega); (try have zm92 : ¬ v92.heap.size = w.heap.size := by omega); have hQ92 : Blk v92 (v5.heap.size) 35 #[.int .i64 a.a, .int .i64 a.b, .int .i64 a.c] := Blk.call (by (repeat (first | with_reducible assumption | (with_reducible apply Blk.new_at; (first | rfl | (simp; done))) | with_reducible apply Blk.store3 | with_reducible apply Blk.store4 | (with_reducible apply Blk.farp; (first | omega | (simp <;> omega))) | with_reducible apply Blk.allocp | with_reducible apply Blk.drew | with_reducible apply Blk.drewN))) hB92; have cQ92 := hQ92.cell; have fQ92 := hQ92.frozen; have lQ92 := hQ92.lt; have mQ92 := Nat.ne_of_gt lQ92; have nQ92 := Nat.ne_of_lt lQ92) | (go_at_call 16; (with_reducible refine (hX3.out _).mono ?_); rintro e v ⟨rfl, rfl⟩))
                go_ret
                exact ⟨rfl, (by repeat (first | with_reducible exact Below.refl _ _ | with_reducible assumption | with_reducible apply Below.drew | with_reducible apply below_drewN | (with_reducible apply below_setp; (first | omega | (simp <;> omega))) | (with_reducible apply below_allocp; (first | omega | (simp <;> omega))) | (with_reducible refine below_viap (by assumption) ?_ ?_; (first | omega | (simp <;> omega)))))⟩
    | true =>
      obtain ⟨k1, k2, k3, k4, k5, k6⟩ := em_facts hEm
      obtain ⟨rfl, rfl⟩ := ae_facts hAe k1 k2 k6
      have HT := Lib.hid (fun w => implSub_m f g m w k1 k2 k3 k4)
      have HD := Lib.hid (fun w => implDet_m m w k3 k5)
      clear hAe hEm k1 k2 k3 k4 k5 k6
      go_wp2_with fail
      refine (HI.out _).mono ?_
      rintro e v2 ⟨rfl, hc2⟩
      have hz2 := hc2.size
      (try simp at hz2)
      have hF2 : Blk v2 (v1.heap.size) 35 #[.int .i64 f.a, .int .i64 f.b, .int .i64 f.c] := Blk.call (by (repeat (first | with_reducible assumption | (with_reducible apply Blk.new_at; (first | rfl | (simp; done))) | with_reducible apply Blk.store3 | with_reducible apply Blk.store4 | (with_reducible apply Blk.farp; (first | omega | (simp <;> omega))) | with_reducible apply Blk.allocp | with_reducible apply Blk.drew | with_reducible apply Blk.drewN))) hc2
      have cF2 := hF2.cell; have fF2 := hF2.frozen; have lF2 := hF2.lt; have mF2 := Nat.ne_of_gt lF2; have nF2 := Nat.ne_of_lt lF2
      have hG2 : Blk v2 (v1.heap.size + 1) 35 #[.int .i64 g.a, .int .i64 g.b, .int .i64 g.c] := Blk.call (by (repeat (first | with_reducible assumption | (with_reducible apply Blk.new_at; (first | rfl | (simp; done))) | with_reducible apply Blk.store3 | with_reducible apply Blk.store4 | (with_reducible apply Blk.farp; (first | omega | (simp <;> omega))) | with_reducible apply Blk.allocp | with_reducible apply Blk.drew | with_reducible apply Blk.drewN))) hc2
      have cG2 := hG2.cell; have fG2 := hG2.frozen; have lG2 := hG2.lt; have mG2 := Nat.ne_of_gt lG2; have nG2 := Nat.ne_of_lt lG2
      have hb2 : Below w.heap.size w v2 := (by repeat (first | with_reducible exact Below.refl _ _ | with_reducible assumption | with_reducible apply Below.drew | with_reducible apply below_drewN | (with_reducible apply below_setp; (first | omega | (simp <;> omega))) | (with_reducible apply below_allocp; (first | omega | (simp <;> omega))) | (with_reducible refine below_viap (by assumption) ?_ ?_; (first | omega | (simp <;> omega)))))
      go_wp2_with fail
      refine (HS.out _).mono ?_
      rintro e v3 ⟨rfl, hc3⟩
      have hz3 := hc3.size
      (try simp at hz3)
      have hF3 : Blk v3 (v1.heap.size) 35 #[.int .i64 f.a, .int .i64 f.b, .int .i64 f.c] := Blk.call (by (repeat (first | with_reducible assumption | (with_reducible apply Blk.new_at; (first | rfl | (simp; done))) | with_reducible apply Blk.store3 | with_reducible apply Blk.store4 | (with_reducible apply Blk.farp; (first | omega | (simp <;> omega))) | with_reducible apply Blk.allocp | with_reducible apply Blk.drew | with_reducible apply Blk.drewN))) hc3
      have cF3 := hF3.cell; have fF3 := hF3.frozen; have lF3 := hF3.lt; have mF3 := Nat.ne_of_gt lF3; have nF3 := Nat.ne_of_lt lF3
      have hG3 : Blk v3 (v1.heap.size + 1) 35 #[.int .i64 g.a, .int .i64 g.b, .int .i64 g.c] := Blk.call (by (repeat (first | with_reducible assumption | (with_reducible apply Blk.new_at; (first | rfl | (simp; done))) | with_reducible apply Blk.store3 | with_reducible apply Blk.store4 | (with_reducible apply Blk.farp; (first | omega | (simp <;> omega))) | with_reducible apply Blk.allocp | with_reducible apply Blk.drew | with_reducible apply Blk.drewN))) hc3
      have cG3 := hG3.cell; have fG3 := hG3.frozen; have lG3 := hG3.lt; have mG3 := Nat.ne_of_gt lG3; have nG3 := Nat.ne_of_lt lG3
      have hb3 : Below w.heap.size w v3 := (by repeat (first | with_reducible exact Below.refl _ _ | with_reducible assumption | with_reducible apply Below.drew | with_reducible apply below_drewN | (with_reducible apply below_setp; (first | omega | (simp <;> omega))) | (with_reducible apply below_allocp; (first | omega | (simp <;> omega))) | (with_reducible refine below_viap (by assumption) ?_ ?_; (first | omega | (simp <;> omega)))))
      clear hF2 cF2 fF2 lF2 mF2 nF2 hG2 cG2 fG2 lG2 mG2 nG2
      go_wp2_with fail
      refine (HM.out _).mono ?_
      rintro e v4 ⟨rfl, hc4⟩
      have hz4 := hc4.size
      (try simp at hz4)
      have hF4 : Blk v4 (v1.heap.size) 35 #[.int .i64 f.a, .int .i64 f.b, .int .i64 f.c] := Blk.call (by (repeat (first | with_reducible assumption | (with_reducible apply Blk.new_at; (first | rfl | (simp; done))) | with_reducible apply Blk.store3 | with_reducible apply Blk.store4 | (with_reducible apply Blk.farp; (first | omega | (simp <;> omega))) | with_reducible apply Blk.allocp | with_reducible apply Blk.drew | with_reducible apply Blk.drewN))) hc4
      have cF4 := hF4.cell; have fF4 := hF4.frozen; have lF4 := hF4.lt; have mF4 := Nat.ne_of_gt lF4; have nF4 := Nat.ne_of_lt lF4
      have hG4 : Blk v4 (v1.heap.size + 1) 35 #[.int .i64 g.a, .int .i64 g.b, .int .i64 g.c] := Blk.call (by (repeat (first | with_reducible assumption | (with_reducible apply Blk.new_at; (first | rfl | (simp; done))) | with_reducible apply Blk.store3 | with_reducible apply Blk.store4 | (with_reducible apply Blk.farp; (first | omega | (simp <;> omega))) | with_reducible apply Blk.allocp | with_reducible apply Blk.drew | with_reducible apply Blk.drewN))) hc4
      have cG4 := hG4.cell; have fG4 := hG4.frozen; have lG4 := hG4.lt; have mG4 := Nat.ne_of_gt lG4; have nG4 := Nat.ne_of_lt lG4
      have hb4 : Below w.heap.size w v4 := (by repeat (first | with_reducible exact Below.refl _ _ | with_reducible assumption | with_reducible apply Below.drew | with_reducible apply below_drewN | (with_reducible apply below_setp; (first | omega | (simp <;> omega))) | (with_reducible apply below_allocp; (first | omega | (simp <;> omega))) | (with_reducible refine below_viap (by assumption) ?_ ?_; (first | omega | (simp <;> omega)))))
      clear hF3 cF3 fF3 lF3 mF3 nF3 hG3 cG3 fG3 lG3 mG3 nG3
      go_wp2_with fail
      refine (HT.out _).mono ?_
      rintro e v5 ⟨rfl, hc5⟩
      have hz5 := hc5.size
      (try simp at hz5)
      have hF5 : Blk v5 (v1.heap.size) 35 #[.int .i64 f.a, .int .i64 f.b, .int .i64 f.c] := Blk.call (by (repeat (first | with_reducible assumption | (with_reducible apply Blk.new_at; (first | rfl | (simp; done))) | with_reducible apply Blk.store3 | with_reducible apply Blk.store4 | (with_reducible apply Blk.farp; (first | omega | (simp <;> omega))) | with_reducible apply Blk.allocp | with_reducible apply Blk.drew | with_reducible apply Blk.drewN))) hc5
      have cF5 := hF5.cell; have fF5 := hF5.frozen; have lF5 := hF5.lt; have mF5 := Nat.ne_of_gt lF5; have nF5 := Nat.ne_of_lt lF5
      have hG5 : Blk v5 (v1.heap.size + 1) 35 #[.int .i64 g.a, .int .i64 g.b, .int .i64 g.c] := Blk.call (by (repeat (first | with_reducible assumption | (with_reducible apply Blk.new_at; (first | rfl | (simp; done))) | with_reducible apply Blk.store3 | with_reducible apply Blk.store4 | (with_reducible apply Blk.farp; (first | omega | (simp <;> omega))) | with_reducible apply Blk.allocp | with_reducible apply Blk.drew | with_reducible apply Blk.drewN))) hc5
      have cG5 := hG5.cell; have fG5 := hG5.frozen; have lG5 := hG5.lt; have mG5 := Nat.ne_of_gt lG5; have nG5 := Nat.ne_of_lt lG5
      have hM5 : Blk v5 (v4.heap.size) 49 #[.int .i64 m.p, .int .i64 m.q, .int .i64 m.r, .int .i64 m.s] := Blk.call (by (repeat (first | with_reducible assumption | (with_reducible apply Blk.new_at; (first | rfl | (simp; done))) | with_reducible apply Blk.store3 | with_reducible apply Blk.store4 | (with_reducible apply Blk.farp; (first | omega | (simp <;> omega))) | with_reducible apply Blk.allocp | with_reducible apply Blk.drew | with_reducible apply Blk.drewN))) hc5
      have cM5 := hM5.cell; have fM5 := hM5.frozen; have lM5 := hM5.lt; have mM5 := Nat.ne_of_gt lM5; have nM5 := Nat.ne_of_lt lM5
      have hb5 : Below w.heap.size w v5 := (by repeat (first | with_reducible exact Below.refl _ _ | with_reducible assumption | with_reducible apply Below.drew | with_reducible apply below_drewN | (with_reducible apply below_setp; (first | omega | (simp <;> omega))) | (with_reducible apply below_allocp; (first | omega | (simp <;> omega))) | (with_reducible refine below_viap (by assumption) ?_ ?_; (first | omega | (simp <;> omega)))))
      clear hF4 cF4 fF4 lF4 mF4 nF4 hG4 cG4 fG4 lG4 mG4 nG4
      go_wp2_with fail
      refine (HD.out _).mono ?_
      rintro e v6 ⟨rfl, hc6⟩
      have hz6 := hc6.size
      (try simp at hz6)
      have hF6 : Blk v6 (v1.heap.size) 35 #[.int .i64 f.a, .int .i64 f.b, .int .i64 f.c] := Blk.call (by (repeat (first | with_reducible assumption | (with_reducible apply Blk.new_at; (first | rfl | (simp; done))) | with_reducible apply Blk.store3 | with_reducible apply Blk.store4 | (with_reducible apply Blk.farp; (first | omega | (simp <;> omega))) | with_reducible apply Blk.allocp | with_reducible apply Blk.drew | with_reducible apply Blk.drewN))) hc6
      have cF6 := hF6.cell; have fF6 := hF6.frozen; have lF6 := hF6.lt; have mF6 := Nat.ne_of_gt lF6; have nF6 := Nat.ne_of_lt lF6
      have hG6 : Blk v6 (v1.heap.size + 1) 35 #[.int .i64 g.a, .int .i64 g.b, .int .i64 g.c] := Blk.call (by (repeat (first | with_reducible assumption | (with_reducible apply Blk.new_at; (first | rfl | (simp; done))) | with_reducible apply Blk.store3 | with_reducible apply Blk.store4 | (with_reducible apply Blk.farp; (first | omega | (simp <;> omega))) | with_reducible apply Blk.allocp | with_reducible apply Blk.drew | with_reducible apply Blk.drewN))) hc6
      have cG6 := hG6.cell; have fG6 := hG6.frozen; have lG6 := hG6.lt; have mG6 := Nat.ne_of_gt lG6; have nG6 := Nat.ne_of_lt lG6
      have hM6 : Blk v6 (v4.heap.size) 49 #[.int .i64 m.p, .int .i64 m.q, .int .i64 m.r, .int .i64 m.s] := Blk.call (by (repeat (first | with_reducible assumption | (with_reducible apply Blk.new_at; (first | rfl | (simp; done))) | with_reducible apply Blk.store3 | with_reducible apply Blk.store4 | (with_reducible apply Blk.farp; (first | omega | (simp <;> omega))) | with_reducible apply Blk.allocp | with_reducible apply Blk.drew | with_reducible apply Blk.drewN))) hc6
      have cM6 := hM6.cell; have fM6 := hM6.frozen; have lM6 := hM6.lt; have mM6 := Nat.ne_of_gt lM6; have nM6 := Nat.ne_of_lt lM6
      have hH6 : Blk v6 (v5.heap.size) 35 #[.int .i64 g.a, .int .i64 g.b, .int .i64 g.c] := Blk.call (by (repeat (first | with_reducible assumption | (with_reducible apply Blk.new_at; (first | rfl | (simp; done))) | with_reducible apply Blk.store3 | with_reducible apply Blk.store4 | (with_reducible apply Blk.farp; (first | omega | (simp <;> omega))) | with_reducible apply Blk.allocp | with_reducible apply Blk.drew | with_reducible apply Blk.drewN))) hc6
      have cH6 := hH6.cell; have fH6 := hH6.frozen; have lH6 := hH6.lt; have mH6 := Nat.ne_of_gt lH6; have nH6 := Nat.ne_of_lt lH6
      have hb6 : Below w.heap.size w v6 := (by repeat (first | with_reducible exact Below.refl _ _ | with_reducible assumption | with_reducible apply Below.drew | with_reducible apply below_drewN | (with_reducible apply below_setp; (first | omega | (simp <;> omega))) | (with_reducible apply below_allocp; (first | omega | (simp <;> omega))) | (with_reducible refine below_viap (by assumption) ?_ ?_; (first | omega | (simp <;> omega)))))
      clear hF5 cF5 fF5 lF5 mF5 nF5 hG5 cG5 fG5 lG5 mG5 nG5 hM5 cM5 fM5 lM5 mM5 nM5
      go_wp2_with fail
      refine (drawAut_any es _ w.heap.size _ (HE.out _ (by repeat (first | with_reducible exact Below.refl _ _ | with_reducible assumption | with_reducible apply Below.drew | with_reducible apply below_drewN | (with_reducible apply below_setp; (first | omega | (simp <;> omega))) | (with_reducible apply below_allocp; (first | omega | (simp <;> omega))) | (with_reducible refine below_viap (by assumption) ?_ ?_; (first | omega | (simp <;> omega)))))) (by first | omega | (simp <;> omega))).mono ?_
      rintro e v7 ⟨a, rfl, hc7⟩
      have hz7 := hc7.size
      (try simp at hz7)
      have hb7 : Below w.heap.size w v7 := (by repeat (first | with_reducible exact Below.refl _ _ | with_reducible assumption | with_reducible apply Below.drew | with_reducible apply below_drewN | (with_reducible apply below_setp; (first | omega | (simp <;> omega))) | (with_reducible apply below_allocp; (first | omega | (simp <;> omega))) | (with_reducible refine below_viap (by assumption) ?_ ?_; (first | omega | (simp <;> omega)))))
      obtain ⟨L, ok2, hAt⟩ := atR_ex a
      have HA := Lib.hid (fun w => implAut_any a L ok2 w hAt)
      have HB := Lib.hid (fun w => specAut_any a L ok2 w hAt)
      obtain ⟨hL6, hU, hdef, hcnt⟩ := at_facts hAt
      have HU := Lib.hid hU
      have HDf := Lib.hid hdef
      have HC := Lib.hid hcnt
      clear hAt hU hdef hcnt HE
      go_wp2_with fail
      refine (HA.out _).mono ?_
      rintro e v8 ⟨vl, rfl, hl8, hc8⟩
      have hz8 := hc8.size
      (try simp at hz8)
      have hQ8 : Blk v8 (v7.heap.size) 35 #[.int .i64 a.a, .int .i64 a.b, .int .i64 a.c] := Blk.call (by (repeat (first | with_reducible assumption | (with_reducible apply Blk.new_at; (first | rfl | (simp; done))) | with_reducible apply Blk.store3 | with_reducible apply Blk.store4 | (with_reducible apply Blk.farp; (first | omega | (simp <;> omega))) | with_reducible apply Blk.allocp | with_reducible apply Blk.drew | with_reducible apply Blk.drewN))) hc8
      have cQ8 := hQ8.cell; have fQ8 := hQ8.frozen; have lQ8 := hQ8.lt; have mQ8 := Nat.ne_of_gt lQ8; have nQ8 := Nat.ne_of_lt lQ8
      have hb8 : Below w.heap.size w v8 := (by repeat (first | with_reducible exact Below.refl _ _ | with_reducible assumption | with_reducible apply Below.drew | with_reducible apply below_drewN | (with_reducible apply below_setp; (first | omega | (simp <;> omega))) | (with_reducible apply below_allocp; (first | omega | (simp <;> omega))) | (with_reducible refine below_viap (by assumption) ?_ ?_; (first | omega | (simp <;> omega)))))
      obtain ⟨bl, cl, rfl⟩ := own_shape hl8
      go_wp2_with fail
      refine (HB.out _).mono ?_
      rintro e v9 ⟨vm, rfl, hm9, hc9⟩
      have hz9 := hc9.size
      (try simp at hz9)
      have hQ9 : Blk v9 (v7.heap.size) 35 #[.int .i64 a.a, .int .i64 a.b, .int .i64 a.c] := Blk.call (by (repeat (first | with_reducible assumption | (with_reducible apply Blk.new_at; (first | rfl | (simp; done))) | with_reducible apply Blk.store3 | with_reducible apply Blk.store4 | (with_reducible apply Blk.farp; (first | omega | (simp <;> omega))) | with_reducible apply Blk.allocp | with_reducible apply Blk.drew | with_reducible apply Blk.drewN))) hc9
      have cQ9 := hQ9.cell; have fQ9 := hQ9.frozen; have lQ9 := hQ9.lt; have mQ9 := Nat.ne_of_gt lQ9; have nQ9 := Nat.ne_of_lt lQ9
      have hl9 := own_call hc9 hl8
      have hb9 : Below w.heap.size w v9 := (by repeat (first | with_reducible exact Below.refl _ _ | with_reducible assumption | with_reducible apply Below.drew | with_reducible apply below_drewN | (with_reducible apply below_setp; (first | omega | (simp <;> omega))) | (with_reducible apply below_allocp; (first | omega | (simp <;> omega))) | (with_reducible refine below_viap (by assumption) ?_ ?_; (first | omega | (simp <;> omega)))))
      clear hQ8 cQ8 fQ8 lQ8 mQ8 nQ8 hl8
      obtain ⟨bm, cm, rfl⟩ := own_shape hm9
      have Hl := Lib.hid hl9
      have Hm := Lib.hid hm9
      obtain ⟨N, hN⟩ : ∃ N, L.length = N := ⟨_, rfl⟩
      have HN := Lib.hid hN
      rw [hN] at hL6 HC ⊢
      clear hl9 hm9 hN HA HB
      go_wp2
      go_loopw [124] (fun vi wr => ∃ k : Nat, vi = .int .i64 k ∧ k ≤ N ∧ Below v9.heap.size v9 wr) (fun vi _ => N - (intOf vi).toNat)
      case atStart => exact ⟨0, rfl, Nat.zero_le _, Below.refl _ _⟩
      case round =>
        obtain ⟨k, rfl, hk, hbel⟩ := hrel
        have hzr := hbel.size
        have hQr : Blk wr v7.heap.size 35 #[.int .i64 a.a, .int .i64 a.b, .int .i64 a.c] := hQ9.call hbel
        have cQr := hQr.cell; have fQr := hQr.frozen; have lQr := hQr.lt; have mQr := Nat.ne_of_gt lQr; have nQr := Nat.ne_of_lt lQr
        clear hQ9 cQ9 fQ9 lQ9 mQ9 nQ9
        by_cases hlt : k < N
        · have hkL : k < L.length := by rw [HN.out]; exact hlt
          obtain ⟨g1, rfl, l1, d1, d2, d3, d4⟩ := own_elemM (own_call hbel Hl.out) hkL
          obtain ⟨g2, rfl, l2, e1, e2, e3, e4⟩ := own_elemM (own_call hbel Hm.out) hkL
          obtain ⟨u1, u2, u3⟩ := HU.out _ (List.getElem_mem hkL)
          have hSu := Lib.hid (fun w => implSub_m a a L[k] w u1 u1 u2 u3)
          clear u1 u2 u3
          generalize L[k] = y at *
          have l3 := Nat.ne_of_lt l1; have l4 := Nat.ne_of_lt l2
          go_wp2_with (go_at_call 29; (with_reducible refine (hSu.out _).mono ?_); rintro e v90 ⟨rfl, hB90⟩; have hZ90 := hB90.size; (try simp at hZ90); (try have zl90 : w.heap.size < v90.heap.size := by omega); (try have ze90 : w.heap.size ≤ v90.heap.size := by omega); (try have zn90 : ¬ w.heap.size = v90.heap.size := by omega); (try have zm90 : ¬ v90.heap.size = w.heap.size := by omega); have hQ90 : Blk v90 (v7.heap.size) 35 #[.int .i64 a.a, .int .i64 a.b, .int .i64 a.c] := Blk.call (by (repeat (first | with_reducible assumption | (with_reducible apply Blk.new_at; (first | rfl | (simp; done))) | with_reducible apply Blk.store3 | with_reducible apply Blk.store4 | (with_reducible apply Blk.farp; (first | omega | (simp <;> omega))) | with_reducible apply Blk.allocp | with_reducible apply Blk.drew | with_reducible apply Blk.drewN))) hB90; have cQ90 := hQ90.cell; have fQ90 := hQ90.frozen; have lQ90 := hQ90.lt; have mQ90 := Nat.ne_of_gt lQ90; have nQ90 := Nat.ne_of_lt lQ90; have hU90 : Blk v90 (wr.heap.size) 49 #[.int .i64 y.p, .int .i64 y.q, .int .i64 y.r, .int .i64 y.s] := Blk.call (by (repeat (first | with_reducible assumption | (with_reducible apply Blk.new_at; (first | rfl | (simp; done))) | with_reducible apply Blk.store3 | with_reducible apply Blk.store4 | (with_reducible apply Blk.farp; (first | omega | (simp <;> omega))) | with_reducible apply Blk.allocp | with_reducible apply Blk.drew | with_reducible apply Blk.drewN))) hB90; have cU90 := hU90.cell; have fU90 := hU90.frozen; have lU90 := hU90.lt; have mU90 := Nat.ne_of_gt lU90; have nU90 := Nat.ne_of_lt lU90)
          have h90 : Below wr.heap.size wr v90 := (by repeat (first | with_reducible exact Below.refl _ _ | with_reducible assumption | with_reducible apply Below.drew | with_reducible apply below_drewN | (with_reducible apply below_setp; (first | omega | (simp <;> omega))) | (with_reducible apply below_allocp; (first | omega | (simp <;> omega))) | (with_reducible refine below_viap (by assumption) ?_ ?_; (first | omega | (simp <;> omega)))))
          have f1 := ((calm_cells h90).1 g2 (k * 4) l2).trans e1; have f2 := ((calm_cells h90).1 g2 (k * 4 + 1) l2).trans e2; have f3 := ((calm_cells h90).1 g2 (k * 4 + 2) l2).trans e3; have f4 := ((calm_cells h90).1 g2 (k * 4 + 3) l2).trans e4
          have s1 := h90.size
          have s2 : g2 < v90.heap.size := by omega
          have s3 : ¬ g2 = v90.heap.size := by omega
          have s4 : g2 < v90.heap.size + 1 := by omega
          have s5 : v7.heap.size < v90.heap.size + 1 := by omega
          have s6 : wr.heap.size < v90.heap.size + 1 := by omega
          have kI : (k : Int) < (N : Int) := by omega
          clear d1 d2 d3 d4 e1 e2 e3 e4 hSu
          refine wp_region_calm 15 (Below (v90.heap.size + 1) _) (by kernel_rfl) (by kernel_rfl) ((Below.refl _ _).drew) ?_
          simp only [List.take_succ_cons, List.take_zero, List.drop_succ_cons, List.drop_zero]
          repeat (first | (apply wpCalm_go; go_simp; (intro w' hw' hcc hff; go_simp; first | exact rfl | fail); (intro K hK; go_simp; refine hK _ ?_; clear hK K)) | (apply wpCalm_skip; go_simp; (try (focus (simp [undef]; done))); (intro K hK; go_simp; refine hK _ ?_; clear hK K)))
          refine wpCalm_nil ?_
          intro w1 hw1
          have hcc := (calm_cells hw1).1
          have hff := (calm_cells hw1).2
          have hss := calm_size hw1
          have hsz := hw1.size
          (try simp at hsz)
          go_wp2
          go_roundw
          case rel => exact ⟨k + 1, by go_num, hlt, (by repeat (first | with_reducible exact Below.refl _ _ | with_reducible assumption | with_reducible apply Below.drew | with_reducible apply below_drewN | (with_reducible apply below_setp; (first | omega | (simp <;> omega))) | (with_reducible apply below_allocp; (first | omega | (simp <;> omega))) | (with_reducible refine below_viap (by assumption) ?_ ?_; (first | omega | (simp <;> omega)))))⟩
          case measure => simp [intOf]; omega
        · obtain rfl : k = N := by omega
          cases ok2 with
          | false =>
            go_wp2
            go_ret
            exact ⟨rfl, (by repeat (first | with_reducible exact Below.refl _ _ | with_reducible assumption | with_reducible apply Below.drew | with_reducible apply below_drewN | (with_reducible apply below_setp; (first | omega | (simp <;> omega))) | (with_reducible apply below_allocp; (first | omega | (simp <;> omega))) | (with_reducible refine below_viap (by assumption) ?_ ?_; (first | omega | (simp <;> omega)))))⟩
          | true =>
            have hdf := HDf.out rfl
            have hX1 := Lib.hid (fun w => implDisc_f a w hdf)
            have hX2 := Lib.hid (fun w => implPrim_f a w hdf)
            obtain ⟨n3, ok3, hAc⟩ := acR_ex (disc a)
            have hX3 := Lib.hid (fun w => implAC2_any (disc a) n3 ok3 w hAc)
            have hfin : Hid (ok3 = true → prB a = true → n3 = (k : Int)) := Lib.hid (fun h1 h2 => hAc.elim (fun h => absurd (h1.symm.trans h.2.2) (by simp)) (fun h => by rw [h.2.1]; exact (HC.out rfl h2 h.1).symm))
            clear hdf hAc HC HDf HU Hl Hm
            generalize disc a = D at *
            have hkn : ¬ (k : Int) < (k : Int) := by omega
            cases ok3 with
            | false =>
              clear hfin
              go_wp2_with (first | (go_at_call 34; (with_reducible refine (hX1.out _).mono ?_); rintro e v91 ⟨rfl, hB91⟩; have hZ91 := hB91.size; (try simp at hZ91); (try have zl91 : w.heap.size < v91.heap.size := by omega); (try have ze91 : w.heap.size ≤ v91.heap.size := by omega); (try have zn91 : ¬ w.heap.size = v91.heap.size := by omega); (try have zm91 : ¬ v91.heap.size = w.heap.size := by omega); have hQ91 : Blk v91 (v7.heap.size) 35 #[.int .i64 a.a, .int .i64 a.b, .int .i64 a.c] := Blk.call (by (repeat (first | with_reducible assumption | (with_reducible apply Blk.new_at; (first | rfl | (simp; done))) | with_reducible apply Blk.store3 | with_reducible apply Blk.store4 | (with_reducible apply Blk.farp; (first | omega | (simp <;> omega))) | with_reducible apply Blk.allocp | with_reducible apply Blk.drew | with_reducible apply Blk.drewN))) hB91; have cQ91 := hQ91.cell; have fQ91 := hQ91.frozen; have lQ91 := hQ91.lt; have mQ91 := Nat.ne_of_gt lQ91; have nQ91 := Nat.ne_of_lt lQ91) | (go_at_call 35; (with_reducible refine (hX2.out _).mono ?_); rintro e v92 ⟨rfl, hB92⟩; have hZ92 := hB92.size; (try simp at hZ92); (try have zl92 : w.heap.size < v92.heap.size := by omega); (try have ze92 : w.heap.size ≤ v92.heap.size := by omega); (try have zn92 : ¬ w.heap.size = v92.heap.size := by omega); (try have zm92 : ¬ v92.heap.size = w.heap.size := by omega); have hQ92 : Blk v92 (v7.heap.size) 35 #[.int .i64 a.a, .int .i64 a.b, .int .i64 a.c] := Blk.call (by (repeat (first | with_reducible assumption | (with_reducible apply Blk.new_at; (first | rfl | (simp; done))) | with_reducible apply Blk.store3 | with_reducible apply Blk.store4 | (with_reducible apply Blk.farp; (first | omega | (simp <;> omega))) | with_reducible apply Blk.allocp | with_reducible apply Blk.drew | with_reducible apply Blk.drewN))) hB92; have cQ92 := hQ92.cell; have fQ92 := hQ92.frozen; have lQ92 := hQ92.lt; have mQ92 := Nat.ne_of_gt lQ92; have nQ92 := Nat.ne_of_lt lQ92) | (go_at_call 16; (with_reducible refine (hX3.out _).mono ?_); rintro e v ⟨rfl, rfl⟩))
              go_ret
              exact ⟨rfl, (by repeat (first | with_reducible exact Below.refl _ _ | with_reducible assumption | with_reducible apply Below.drew | with_reducible apply below_drewN | (with_reducible apply below_setp; (first | omega | (simp <;> omega))) | (with_reducible apply below_allocp; (first | omega | (simp <;> omega))) | (with_reducible refine below_viap (by assumption) ?_ ?_; (first | omega | (simp <;> omega)))))⟩
            | true =>
              cases hp : prB a with
              | false =>
                rw [hp] at hX2
                clear hfin hp
                go_wp2_with (first | (go_at_call 34; (with_reducible refine (hX1.out _).mono ?_); rintro e v91 ⟨rfl, hB91⟩; have hZ91 := hB91.size; (try simp at hZ91); (try have zl91 : w.heap.size < v91.heap.size := by omega); (try have ze91 : w.heap.size ≤ v91.heap.size := by omega); (try have zn91 : ¬ w.heap.size = v91.heap.size := by omega); (try have zm91 : ¬ v91.heap.size = w.heap.size := by omega); have hQ91 : Blk v91 (v7.heap.size) 35 #[.int .i64 a.a, .int .i64 a.b, .int .i64 a.c] := Blk.call (by (repeat (first | with_reducible assumption | (with_reducible apply Blk.new_at; (first | rfl | (simp; done))) | with_reducible apply Blk.store3 | with_reducible apply Blk.store4 | (with_reducible apply Blk.farp; (first | omega | (simp <;> omega))) | with_reducible apply Blk.allocp | with_reducible apply Blk.drew | with_reducible apply Blk.drewN))) hB91; have cQ91 := hQ91.cell; have fQ91 := hQ91.frozen; have lQ91 := hQ91.lt; have mQ91 := Nat.ne_of_gt lQ91; have nQ91 := Nat.ne_of_lt lQ91) | (go_at_call 35; (with_reducible refine (hX2.out _).mono ?_); rintro e v92 ⟨rfl, hB92⟩; have hZ92 := hB92.size; (try simp at hZ92); (try have zl92 : w.heap.size < v92.heap.size := by omega); (try have ze92 : w.heap.size ≤ v92.heap.size := by omega); (try have zn92 : ¬ w.heap.size = v92.heap.size := by omega); (try have zm92 : ¬ v92.heap.size = w.heap.size := by omega); have hQ92 : Blk v92 (v7.heap.size) 35 #[.int .i64 a.a, .int .i64 a.b, .int .i64 a.c] := Blk.call (by (repeat (first | with_reducible assumption | (with_reducible apply Blk.new_at; (first | rfl | (simp; done))) | with_reducible apply Blk.store3 | with_reducible apply Blk.store4 | (with_reducible apply Blk.farp; (first | omega | (simp <;> omega))) | with_reducible apply Blk.allocp | with_reducible apply Blk.drew | with_reducible apply Blk.drewN))) hB92; have cQ92 := hQ92.cell; have fQ92 := hQ92.frozen; have lQ92 := hQ92.lt; have mQ92 := Nat.ne_of_gt lQ92; have nQ92 := Nat.ne_of_lt lQ92) | (go_at_call 16; (with_reducible refine (hX3.out _).mono ?_); rintro e v ⟨rfl, rfl⟩))
                go_ret
                exact ⟨rfl, (by repeat (first | with_reducible exact Below.refl _ _ | with_reducible assumption | with_reducible apply Below.drew | with_reducible apply below_drewN | (with_reducible apply below_setp; (first | omega | (simp <;> omega))) | (with_reducible apply below_allocp; (first | omega | (simp <;> omega))) | (with_reducible refine below_viap (by assumption) ?_ ?_; (first | omega | (simp <;> omega)))))⟩
              | true =>
                rw [hp] at hX2
                obtain rfl := hfin.out rfl hp
                clear hfin hp
                go_wp2_with (first | (go_at_call 34; (with_reducible refine (hX1.out _).mono ?_); rintro e v91 ⟨rfl, hB91⟩; have hZ91 := hB91.size; (try simp at hZ91); (try have zl91 : w.heap.size < v91.heap.size := by omega); (try have ze91 : w.heap.size ≤ v91.heap.size := by omega); (try have zn91 : ¬ w.heap.size = v91.heap.size := by omega); (try have zm91 : ¬ v91.heap.size = w.heap.size := by omega); have hQ91 : Blk v91 (v7.heap.size) 35 #[.int .i64 a.a, .int .i64 a.b, .int .i64 a.c] := Blk.call (by (repeat (first | with_reducible assumption | (with_reducible apply Blk.new_at; (first | rfl | (simp; done))) | with_reducible apply Blk.store3 | with_reducible apply Blk.store4 | (with_reducible apply Blk.farp; (first | omega | (simp <;> omega))) | with_reducible apply Blk.allocp | with_reducible apply Blk.drew | with_reducible apply Blk.drewN))) hB91; have cQ91 := hQ91.cell; have fQ91 := hQ91.frozen; have lQ91 := hQ91.lt; have mQ91 := Nat.ne_of_gt lQ91; have nQ91 := Nat.ne_of_lt lQ91) | (go_at_call 35; (with_reducible refine (hX2.out _).mono ?_); rintro e v92 ⟨rfl, hB92⟩; have hZ92 := hB92.size; (try simp at hZ92); (try have zl92 : w.heap.size < v92.heap.size := by omega); (try have ze92 : w.heap.size ≤ v92.heap.size := by omega); (try have zn92 : ¬ w.heap.size = v92.heap.size := by omega); (try have zm92 : ¬ v92.heap.size = w.heap.size := by omega); have hQ92 : Blk v92 (v7.heap.size) 35 #[.int .i64 a.a, .int .i64 a.b, .int .i64 a.c] := Blk.call (by (repeat (first | with_reducible assumption | (with_reducible apply Blk.new_at; (first | rfl | (simp; done))) | with_reducible apply Blk.store3 | with_reducible apply Blk.store4 | (with_reducible apply Blk.farp; (first | omega | (simp <;> omega))) | with_reducible apply Blk.allocp | with_reducible apply Blk.drew | with_reducible apply Blk.drewN))) hB92; have cQ92 := hQ92.cell; have fQ92 := hQ92.frozen; have lQ92 := hQ92.lt; have mQ92 := Nat.ne_of_gt lQ92; have nQ92 := Nat.ne_of_lt lQ92) | (go_at_call 16; (with_reducible refine (hX3.out _).mono ?_); rintro e v ⟨rfl, rfl⟩))
                go_ret
                exact ⟨rfl, (by repeat (first | with_reducible exact Below.refl _ _ | with_reducible assumption | with_reducible apply Below.drew | with_reducible apply below_drewN | (with_reducible apply below_setp; (first | omega | (simp <;> omega))) | (with_reducible apply below_allocp; (first | omega | (simp <;> omega))) | (with_reducible refine below_viap (by assumption) ?_ ?_; (first | omega | (simp <;> omega)))))⟩
  · have Hb := Lib.hid (fun w => big_yes A A2 zs.length es.length c1 c2 w hbig)
    clear HZ HY hbig
    go_enter Try.func5, Try.ntmps5
    go_wp2_with (go_at_call 11; (with_reducible refine (Hb.out _).mono ?_); rintro e v ⟨rfl, rfl⟩)
    go_ret
    exact ⟨rfl, (by repeat (first | with_reducible exact Below.refl _ _ | with_reducible assumption | with_reducible apply Below.drew | with_reducible apply below_drewN | (with_reducible apply below_setp; (first | omega | (simp <;> omega))) | (with_reducible apply below_allocp; (first | omega | (simp <;> omega))) | (with_reducible refine below_viap (by assumption) ?_ ?_; (first | omega | (simp <;> omega)))))⟩
theorem own_FnEquivalence : ownKnob Try.prog.godebug = none := by kernel_rfl

set_option maxRecDepth 100000 in
theorem lifted_FnEquivalence (os : Os) (started : os.Started) (H : Type) (enc : TypeId × Value → H) :
    ReturnsInHanded {} Try.checked os 5 .any (Rows.fnEquivalenceSpec.pre6 enc Try.prog Try.f5 Rows.fnEquivalenceRow.domain false) (Rows.fnEquivalenceSpec.post enc Try.prog Try.f5 false true false false) := by
  refine returnsInHanded_of_change (C := Try.checked) own_FnEquivalence started (by kernel_rfl) Try.func5
    (ChangeSpec.witness6 (enc := enc) (C := Try.checked) false ⟨#[], #[.slice none 0 0, .slice none 0 0], []⟩ 8 (by kernel_rfl) (by kernel_rfl) (by kernel_rfl) (by kernel_rfl)) ?_
  intro W base args ds gs before hval0 hW hcnd _
  have hval : ∀ (j : Nat) t v, Try.f5.params[j]? = some t → args[j]? = some v → Value.okWide Try.prog W .any base t v := hval0
  have hW' := hW
  obtain ⟨p, q, hA0, hV, rfl, hfz, hnd⟩ := hW
  have hA : DataW.TrodAll enc Try.prog W 0 (fun _ => true) true Try.f5.params.toList args.toList ds p := hA0
  rw [Try.params5] at hA hval
  obtain ⟨v1, vs1, d1, ds1, p1, q1, hargs, rfl, rfl, h1, r1⟩ := trodAll_cons hA
  obtain ⟨v2, vs2, d2, ds2, p2, q2, rfl, rfl, rfl, h2, r2⟩ := trodAll_cons r1
  obtain ⟨rfl, rfl, rfl⟩ := trodAll_nil r2
  obtain rfl : args = #[v1, v2] := by cases args; simp_all
  obtain ⟨rfl, rfl⟩ := trodVars_none hV
  obtain ⟨zs, hrd⟩ := open_reB (hval 0 22 v1 rfl rfl) h1
  obtain ⟨es, hre⟩ := open_reB (hval 1 22 v2 rfl rfl) h2
  have hlt1 : ∀ x ∈ p1, x.block < W.heap.size := fun x hx => hW'.lt x (by simp [hx])
  have hlt2 : ∀ x ∈ p2, x.block < W.heap.size := fun x hx => hW'.lt x (by simp [hx])
  clear hA0 hval0
  refine (walk_FnEquivalence zs es v1 v2 W hrd hre).mono fun e W' ⟨he, hg⟩ => ?_
  subst he
  exact ⟨_, rfl, post_of_below (pa := p1 ++ (p2 ++ [])) (pv := []) hW' (fun _ _ _ => (trodAll_cons_mk (shut_bool Try.underlying4 _) trodAll_mk0)) (fun sp hsp => (trodAll_cons_mk (WideElems.Trod_stays laid_D3 (by kernel_rfl) (of_decide_eq_true (by kernel_rfl)) h1 (fun x hx => hg.same (hlt1 x hx)) (fun x hx => hsp x (by simp [hx]))) (trodAll_cons_mk (WideElems.Trod_stays laid_D3 (by kernel_rfl) (of_decide_eq_true (by kernel_rfl)) h2 (fun x hx => hg.same (hlt2 x hx)) (fun x hx => hsp x (by simp [hx]))) trodAll_mk0))) (fun _ _ => rfl) rfl
    hg (ok_one (by kernel_rfl) rfl (okWide_bool_mk Try.underlying4 _))⟩

theorem and2_FnEquivalence {a b : Bool} (h : a = true) (k : b = true) : (a && b) = true := by rw [h, k]; rfl
set_option maxRecDepth 100000 in
theorem cl0_FnEquivalence : (Rows.fnEquivalenceRow.wf (OpenSpec.ofChange Rows.fnEquivalenceSpec)) = true := by kernel_rfl
set_option maxRecDepth 100000 in
theorem cl1_FnEquivalence : (laidOutB Try.pinned.checked.prog) = true := by kernel_rfl
set_option maxRecDepth 100000 in
theorem cl2_FnEquivalence : (mapsRowed Try.pinned.checked.prog) = true := by kernel_rfl
set_option maxRecDepth 100000 in
theorem cl3_FnEquivalence : (Try.f5.params.all (Try.pinned.checked.prog.readableRec ·)) = true := by kernel_rfl
set_option maxRecDepth 100000 in
theorem cl4_FnEquivalence : (namedTie Try.pinned.checked.prog Rows.fnEquivalenceRow.named Rows.fnEquivalenceSpec.vars) = true := by kernel_rfl
set_option maxRecDepth 100000 in
theorem cl5_FnEquivalence : (Rows.fnEquivalenceRow.stops == []) = true := by kernel_rfl
set_option maxRecDepth 100000 in
theorem cl6_FnEquivalence : (Try.pinned.checked.prog.stops == []) = true := by kernel_rfl
set_option maxRecDepth 100000 in
theorem cl7_FnEquivalence : (Rows.fnEquivalenceRow.knobs == []) = true := by kernel_rfl
set_option maxRecDepth 100000 in
theorem cl8_FnEquivalence : (Try.pinned.checked.prog.stopKnobs == []) = true := by kernel_rfl
set_option maxRecDepth 100000 in
theorem cl9_FnEquivalence : (Rows.fnEquivalenceRow.inPlace == Try.pinned.checked.prog.inPlace 5) = true := by kernel_rfl
set_option maxRecDepth 100000 in
theorem cl10_FnEquivalence : (Rows.fnEquivalenceRow.unfollowed == Try.pinned.checked.prog.unfollowed 5) = true := by kernel_rfl
set_option maxRecDepth 100000 in
theorem cl11_FnEquivalence : (Rows.fnEquivalenceRow.recurses == Try.pinned.checked.prog.recurses 5) = true := by kernel_rfl
set_option maxRecDepth 100000 in
theorem cl12_FnEquivalence : (Rows.fnEquivalenceRow.named == Try.pinned.checked.prog.varsNamed 5) = true := by kernel_rfl
set_option maxRecDepth 100000 in
theorem cl13_FnEquivalence : (Rows.fnEquivalenceRow.maps == (Try.f5.params.toList ++ Rows.fnEquivalenceSpec.plain.varTypes Try.pinned.checked.prog).any (Try.pinned.checked.prog.mapsRec ·)) = true := by kernel_rfl
set_option maxRecDepth 100000 in
theorem cl14_FnEquivalence : (Rows.fnEquivalenceRow.ifaces == (Try.f5.params.toList ++ Rows.fnEquivalenceSpec.plain.varTypes Try.pinned.checked.prog).any (Try.pinned.checked.prog.ifacesRec ·)) = true := by kernel_rfl
set_option maxRecDepth 100000 in
theorem cl15_FnEquivalence : (Rows.fnEquivalenceRow.mapsOut == Try.pinned.checked.prog.mapsAmong Try.f5.resultTypes.toList) = true := by kernel_rfl
set_option maxRecDepth 100000 in
theorem cl16_FnEquivalence : (Rows.fnEquivalenceRow.loops == (Try.f5.params.toList ++ Rows.fnEquivalenceSpec.plain.varTypes Try.pinned.checked.prog).any (Try.pinned.checked.prog.loopsFrom ·)) = true := by kernel_rfl
set_option maxRecDepth 100000 in
theorem cl17_FnEquivalence : (Rows.fnEquivalenceRow.wideKeys == (Try.f5.params.toList ++ Rows.fnEquivalenceSpec.plain.varTypes Try.pinned.checked.prog ++ Try.f5.resultTypes.toList).any (Try.pinned.checked.prog.wideKeysFrom ·)) = true := by kernel_rfl
set_option maxRecDepth 100000 in
theorem cl18_FnEquivalence : (Rows.fnEquivalenceSpec.vars.all (Try.pinned.checked.prog.varReadable ·)) = true := by kernel_rfl
set_option maxRecDepth 100000 in
theorem cl19_FnEquivalence : (Try.f5.resultTypes.all (fun t => Try.pinned.checked.prog.readableRec t && decide (t < Try.pinned.checked.prog.types.size))) = true := by kernel_rfl
set_option maxRecDepth 100000 in
theorem cl20_FnEquivalence : (Rows.fnEquivalenceRow.ifacesOut == Try.f5.resultTypes.toList.any (Try.pinned.checked.prog.ifacesRec ·)) = true := by kernel_rfl
set_option maxRecDepth 100000 in
theorem cl21_FnEquivalence : (Rows.fnEquivalenceRow.loopsOut == Try.f5.resultTypes.toList.any (Try.pinned.checked.prog.loopsFrom ·)) = true := by kernel_rfl
set_option maxRecDepth 100000 in
theorem cl22_FnEquivalence : (Rows.fnEquivalenceRow.plainKeys == Try.pinned.checked.prog.plainKeys) = true := by kernel_rfl
set_option maxRecDepth 100000 in
theorem cl23_FnEquivalence : (Rows.fnEquivalenceRow.shortTexts.isNone) = true := by kernel_rfl
set_option maxRecDepth 100000 in
theorem cl24_FnEquivalence : (Try.pinned.checked.prog.stopsHeard) = true := by kernel_rfl
set_option maxRecDepth 100000 in
theorem cl25_FnEquivalence : (Try.pinned.checked.prog.mayEnter) = true := by kernel_rfl
set_option maxRecDepth 100000 in
theorem cl26_FnEquivalence : (Rows.fnEquivalenceRow.lifted == Try.pinned.checked.prog.liftsFinal) = true := by kernel_rfl
set_option maxRecDepth 100000 in
theorem cl27_FnEquivalence : (Try.pinned.checked.prog.make == some Rows.fnEquivalenceRow.make) = true := by kernel_rfl
set_option maxRecDepth 100000 in
theorem cl28_FnEquivalence : (Rows.fnEquivalenceRow.kinds == (if Rows.fnEquivalenceRow.domain.isEmpty then [] else Try.f5.params.toList.map fun t => match Try.pinned.checked.prog.underlying t with | some (.int k) => some k | _ => none)) = true := by kernel_rfl
set_option maxRecDepth 100000 in
theorem cl29_FnEquivalence : (Rows.fnEquivalenceRow.pinned == Rows.fnEquivalenceRow.pinnedBy) = true := by kernel_rfl
set_option maxRecDepth 100000 in
theorem cl30_FnEquivalence : (Rows.fnEquivalenceRow.veiled == (Try.f5.params.toList ++ Rows.fnEquivalenceSpec.plain.varTypes Try.pinned.checked.prog ++ Try.f5.resultTypes.toList).any (Try.pinned.checked.prog.veiledRec ·)) = true := by kernel_rfl
set_option maxRecDepth 100000 in
theorem cl31_FnEquivalence : (Rows.fnEquivalenceRow.veiledFits Try.pinned.checked.prog Try.f5.params.toList (Try.f5.params.toList ++ Rows.fnEquivalenceSpec.plain.varTypes Try.pinned.checked.prog ++ Try.f5.resultTypes.toList)) = true := by kernel_rfl
set_option maxRecDepth 100000 in
theorem closed_FnEquivalence : joinedFacts Try.pinned.checked.prog 5 Try.f5 Rows.fnEquivalenceSpec Rows.fnEquivalenceRow = true := (and2_FnEquivalence (and2_FnEquivalence (and2_FnEquivalence (and2_FnEquivalence (and2_FnEquivalence (and2_FnEquivalence (and2_FnEquivalence (and2_FnEquivalence (and2_FnEquivalence (and2_FnEquivalence (and2_FnEquivalence (and2_FnEquivalence (and2_FnEquivalence (and2_FnEquivalence (and2_FnEquivalence (and2_FnEquivalence (and2_FnEquivalence (and2_FnEquivalence (and2_FnEquivalence (and2_FnEquivalence (and2_FnEquivalence (and2_FnEquivalence (and2_FnEquivalence (and2_FnEquivalence (and2_FnEquivalence (and2_FnEquivalence (and2_FnEquivalence (and2_FnEquivalence (and2_FnEquivalence (and2_FnEquivalence (and2_FnEquivalence cl0_FnEquivalence cl1_FnEquivalence) cl2_FnEquivalence) cl3_FnEquivalence) cl4_FnEquivalence) cl5_FnEquivalence) cl6_FnEquivalence) cl7_FnEquivalence) cl8_FnEquivalence) cl9_FnEquivalence) cl10_FnEquivalence) cl11_FnEquivalence) cl12_FnEquivalence) cl13_FnEquivalence) cl14_FnEquivalence) cl15_FnEquivalence) cl16_FnEquivalence) cl17_FnEquivalence) cl18_FnEquivalence) cl19_FnEquivalence) cl20_FnEquivalence) cl21_FnEquivalence) cl22_FnEquivalence) cl23_FnEquivalence) cl24_FnEquivalence) cl25_FnEquivalence) cl26_FnEquivalence) cl27_FnEquivalence) cl28_FnEquivalence) cl29_FnEquivalence) cl30_FnEquivalence) cl31_FnEquivalence)


/-- The statement. -/
theorem holds_FnEquivalence : Rows.FnEquivalenceSaid :=
  OpenClaim.holds_of_wide 5 Try.f5 rfl rfl rfl rfl rfl rfl rfl ⟨rfl, rfl, rfl, rfl, rfl⟩ rfl rfl rfl rfl rfl (by kernel_rfl) Try.func5 closed_FnEquivalence
    (of_decide_eq_true (by kernel_rfl)) (by unfold Func.isWrapper; first | (rw [if_pos (by decide +kernel)]; kernel_rfl) | (rw [if_neg (by decide +kernel)]; exact ⟨rfl, rfl⟩))
    (fun os started H enc _ => lifted_FnEquivalence os started H enc)
#print axioms holds_FnEquivalence
end Go.Proofs.Yteicampphegolaa
