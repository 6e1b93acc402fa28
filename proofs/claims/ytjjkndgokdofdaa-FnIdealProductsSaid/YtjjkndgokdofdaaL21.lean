/- FnIdealProducts returns true: for all drawn ideals, the class of a product of invertible ideals is the composite of their classes, norms multiply, and the product of an ideal and its conjugate is that of its norm. Conditions: none. -/
import Derived.Test.YtjjkndgokdofdaaR9
import Derived.Test.YtjjkndgokdofdaaRW2
import Derived.Test.YtjjkndgokdofdaaW2
import Derived.Deep.DeepCutAuto
namespace Go.Proofs.Ytjjkndgokdofdaa
open Go.RowKit Go.ChangeShapes Go.WideShapes Go.ChangeAt Go.Joins

/-- What is said of a product of two invertible ideals. -/
theorem ip_law {d e1 a b e2 a' b' q1 q2 q3 c c' : Int} (h : IpR d e1 a b e2 a' b' q1 q2 q3 true) (hc : b * b - d = 4 * a * c) (hc' : b' * b' - d = 4 * a' * c') (hp : Int.gcd a (Int.gcd b c) = 1) (hq : Int.gcd a' (Int.gcd b' c') = 1) :
    ∃ c3 : Int, ∃ R : Fm, q3 * q3 - d = 4 * q2 * c3 ∧ idB d q1 q2 q3 = true ∧ idB d e1 a b = true ∧ idB d e2 a' b' = true ∧ (-2000 ≤ d ∧ d ≤ -3) ∧ pairB ⟨a, b, c⟩ ⟨a', b', c'⟩ = true ∧ cmp (disc ⟨a, b, c⟩) (red ⟨a, b, c⟩) (red ⟨a', b', c'⟩) = R ∧ isDefB q2 q3 c3 = true ∧ isDefB R.a R.b R.c = true ∧ Def M0 ⟨q2, q3, c3⟩ ∧ Def M0 R ∧ red ⟨q2, q3, c3⟩ = R ∧ red R = R ∧ wrap64 (e1 * e1 * a * (e2 * e2 * a')) = q1 * q1 * q2 := by
  rcases h with ⟨_, h, _⟩ | ⟨hx, hy, e, A, p, h1, h2, h3, h4, ⟨_, hi, rfl, rfl, rfl⟩ | ⟨h, _⟩⟩
  · cases h
  · have hz := idB_iff.1 hi
    have hn := ip_norm hx hy hc hp h2 hz
    obtain ⟨c3, hc3, _, _, hd⟩ := hz.form
    have hdd : disc ⟨a, b, c⟩ = disc ⟨a', b', c'⟩ := by rw [hx.disc hc, hy.disc hc']
    have hD := cmp_data (f := ⟨a, b, c⟩) (g := ⟨a', b', c'⟩) (hx.cls hc hp) (hy.cls hc' hq) hdd
    have hl := prod_law hx hy hc hc' hp hq h3 h1.e0 hz rfl hc3
    have hl : red ⟨q2, (-(2 * p + sD d)) % (2 * q2), c3⟩ = cmp (disc ⟨a, b, c⟩) (red ⟨a, b, c⟩) (red ⟨a', b', c'⟩) := by rw [hx.disc hc]; exact hl
    refine ⟨c3, _, hc3, hi, idB_iff.2 hx, idB_iff.2 hy, hd, ip_pair hx hy hc hc' hp hq, rfl, hz.defB hc3, hD.1, hz.def hc3, ?_, hl, hD.2, hn⟩
    have cf := CF.of_cls (hx.cls hc hp)
    have cg := CF.of_cls (hy.cls hc' hq)
    rw [← hdd] at cg
    exact cls_def0 cf.D (cf.D.cmpm cf.mem cg.mem)
  · cases h
/-- What is said of the product of an invertible ideal and its conjugate. -/
theorem ic_law {d e1 a b c q1 q2 q3 : Int} {ok : Bool} (hx : IdV d e1 a b) (h : IpR d e1 a b e1 a ((-b) % (2 * a)) q1 q2 q3 ok) (hc : b * b - d = 4 * a * c) (hp : Int.gcd a (Int.gcd b c) = 1) :
    ok = decide (e1 * e1 * a ≤ 10000) ∧ (ok = true → q1 = e1 * e1 * a ∧ q2 = 1 ∧ q3 = d % 2) := by
  rcases h with ⟨h, _⟩ | ⟨_, hy, e, A, p, h1, h2, h3, h4, ⟨rfl, hi, rfl, rfl, rfl⟩ | ⟨rfl, hi, rfl, rfl, rfl⟩⟩
  · rw [idB_iff.2 hx, idB_iff.2 (conj_val hx)] at h
    cases h
  · obtain ⟨k1, k2, k3, k4⟩ := conj_idB hx hc hp h4 h2
    exact ⟨by rw [← k4, hi], fun _ => ⟨k1, k2, k3⟩⟩
  · obtain ⟨k1, k2, k3, k4⟩ := conj_idB hx hc hp h4 h2
    exact ⟨by rw [← k4, hi], fun h => by cases h⟩

set_option maxRecDepth 100000 in
set_option maxHeartbeats 25600000 in
theorem walk_FnIdealProducts (zs es : List Int) (v u : Value) (w : World) (hz : ReB zs v w) (he : ReB es u w) :
    Calls Try.prog 3 #[v, u] w fun e w' => e = .returned (.bool true) ∧ Below w.heap.size w w' := by
  have HZ := Lib.hid hz
  have HY := Lib.hid he
  obtain ⟨A, c1', rfl⟩ := hz.shape
  obtain ⟨A2, c2', rfl⟩ := he.shape
  clear hz he
  by_cases hbig : zs.length ≤ 1048576 ∧ es.length ≤ 1048576 - zs.length
  · have Hb := Lib.hid (fun w => big_no A A2 zs.length es.length c1' c2' w hbig.1 hbig.2)
    have HR := Lib.hid (HZ.out.rd hbig.1)
    have HE := Lib.hid (fun w' (hb : Below w.heap.size w w') => (HY.out.rd (by omega)).below hb (Nat.le_refl _))
    clear HZ HY hbig
    go_enter Try.func3, Try.ntmps3
    go_wp2_with (go_at_call 6; (with_reducible refine (Hb.out _).mono ?_); rintro e v ⟨rfl, rfl⟩)
    refine (drawIP_any zs _ _ _ HR.out (Nat.le_refl _)).mono ?_
    rintro e v1 ⟨d, x1, x2, x3, y1, y2, y3, rfl, hb1⟩
    have hz1 := hb1.size
    clear HR Hb
    obtain ⟨q1, q2, q3, ok, hP⟩ := ipR_ex d x1 x2 x3 y1 y2 y3
    have HI := Lib.hid (fun w => implIP_R w hP)
    have HS := Lib.hid (fun w => specIP_R w hP)
    have HP := Lib.hid hP
    clear hP
    go_wp2_with fail
    refine (HI.out _).mono ?_
    rintro e v2 ⟨rfl, hc2⟩
    have hz2 := hc2.size
    (try simp at hz2)
    have hX2 : Blk v2 (v1.heap.size) 25 #[.int .i64 x1, .int .i64 x2, .int .i64 x3] := Blk.call (by (repeat (first | with_reducible assumption | (with_reducible apply Blk.new_at; (first | rfl | (simp; done))) | with_reducible apply Blk.store3 | with_reducible apply Blk.store4 | (with_reducible apply Blk.farp; (first | omega | (simp <;> omega))) | with_reducible apply Blk.allocp | with_reducible apply Blk.drew | with_reducible apply Blk.drewN))) hc2
    have cX2 := hX2.cell; have fX2 := hX2.frozen; have lX2 := hX2.lt; have mX2 := Nat.ne_of_gt lX2; have nX2 := Nat.ne_of_lt lX2
    have hY2 : Blk v2 (v1.heap.size + 1) 25 #[.int .i64 y1, .int .i64 y2, .int .i64 y3] := Blk.call (by (repeat (first | with_reducible assumption | (with_reducible apply Blk.new_at; (first | rfl | (simp; done))) | with_reducible apply Blk.store3 | with_reducible apply Blk.store4 | (with_reducible apply Blk.farp; (first | omega | (simp <;> omega))) | with_reducible apply Blk.allocp | with_reducible apply Blk.drew | with_reducible apply Blk.drewN))) hc2
    have cY2 := hY2.cell; have fY2 := hY2.frozen; have lY2 := hY2.lt; have mY2 := Nat.ne_of_gt lY2; have nY2 := Nat.ne_of_lt lY2
    have hb2 : Below w.heap.size w v2 := (by repeat (first | with_reducible exact Below.refl _ _ | with_reducible assumption | with_reducible apply Below.drew | with_reducible apply below_drewN | (with_reducible apply below_setp; (first | omega | (simp <;> omega))) | (with_reducible apply below_allocp; (first | omega | (simp <;> omega))) | (with_reducible refine below_viap (by assumption) ?_ ?_; (first | omega | (simp <;> omega)))))
    go_wp2_with fail
    refine (HS.out _).mono ?_
    rintro e v3 ⟨rfl, hc3⟩
    have hz3 := hc3.size
    (try simp at hz3)
    have hX3 : Blk v3 (v1.heap.size) 25 #[.int .i64 x1, .int .i64 x2, .int .i64 x3] := Blk.call (by (repeat (first | with_reducible assumption | (with_reducible apply Blk.new_at; (first | rfl | (simp; done))) | with_reducible apply Blk.store3 | with_reducible apply Blk.store4 | (with_reducible apply Blk.farp; (first | omega | (simp <;> omega))) | with_reducible apply Blk.allocp | with_reducible apply Blk.drew | with_reducible apply Blk.drewN))) hc3
    have cX3 := hX3.cell; have fX3 := hX3.frozen; have lX3 := hX3.lt; have mX3 := Nat.ne_of_gt lX3; have nX3 := Nat.ne_of_lt lX3
    have hY3 : Blk v3 (v1.heap.size + 1) 25 #[.int .i64 y1, .int .i64 y2, .int .i64 y3] := Blk.call (by (repeat (first | with_reducible assumption | (with_reducible apply Blk.new_at; (first | rfl | (simp; done))) | with_reducible apply Blk.store3 | with_reducible apply Blk.store4 | (with_reducible apply Blk.farp; (first | omega | (simp <;> omega))) | with_reducible apply Blk.allocp | with_reducible apply Blk.drew | with_reducible apply Blk.drewN))) hc3
    have cY3 := hY3.cell; have fY3 := hY3.frozen; have lY3 := hY3.lt; have mY3 := Nat.ne_of_gt lY3; have nY3 := Nat.ne_of_lt lY3
    have hZ3 : Blk v3 (v2.heap.size) 25 #[.int .i64 q1, .int .i64 q2, .int .i64 q3] := Blk.call (by (repeat (first | with_reducible assumption | (with_reducible apply Blk.new_at; (first | rfl | (simp; done))) | with_reducible apply Blk.store3 | with_reducible apply Blk.store4 | (with_reducible apply Blk.farp; (first | omega | (simp <;> omega))) | with_reducible apply Blk.allocp | with_reducible apply Blk.drew | with_reducible apply Blk.drewN))) hc3
    have cZ3 := hZ3.cell; have fZ3 := hZ3.frozen; have lZ3 := hZ3.lt; have mZ3 := Nat.ne_of_gt lZ3; have nZ3 := Nat.ne_of_lt lZ3
    have hb3 : Below w.heap.size w v3 := (by repeat (first | with_reducible exact Below.refl _ _ | with_reducible assumption | with_reducible apply Below.drew | with_reducible apply below_drewN | (with_reducible apply below_setp; (first | omega | (simp <;> omega))) | (with_reducible apply below_allocp; (first | omega | (simp <;> omega))) | (with_reducible refine below_viap (by assumption) ?_ ?_; (first | omega | (simp <;> omega)))))
    clear hX2 cX2 fX2 lX2 mX2 nX2 hY2 cY2 fY2 lY2 mY2 nY2
    clear HI HS
    go_upto_if 77 with fail
    skip
    go_cut [] from 77 to 188 (fun wx => Below v3.heap.size v3 wx)
    case first =>
      as_aux_lemma =>
        clear HE
        cases ok with
        | false =>
          go_wp2_with fail
          go_meet
          exact (by repeat (first | with_reducible exact Below.refl _ _ | with_reducible assumption | with_reducible apply Below.drew | with_reducible apply below_drewN | (with_reducible apply below_setp; (first | omega | (simp <;> omega))) | (with_reducible apply below_allocp; (first | omega | (simp <;> omega))) | (with_reducible refine below_viap (by assumption) ?_ ?_; (first | omega | (simp <;> omega)))))
        | true =>
          obtain ⟨xa, oa, hVa⟩ := ivR_ex d x1 x2 x3
          obtain ⟨xb, ob, hVb⟩ := ivR_ex d y1 y2 y3
          have hV2 : idB d x1 x2 x3 = true ∧ idB d y1 y2 y3 = true := by
            rcases HP.out with ⟨_, h, _⟩ | ⟨hx, hy, _⟩
            · cases h
            · exact ⟨idB_iff.2 hx, idB_iff.2 hy⟩
          have HA := Lib.hid (fun w => implIv_R w hVa)
          have HB := Lib.hid (fun w => implIv_R w hVb)
          rcases hVa with ⟨h, _⟩ | ⟨_, c, hc, ha, rfl⟩
          · rw [hV2.1] at h; cases h
          rcases hVb with ⟨h, _⟩ | ⟨_, c', hc', hb, rfl⟩
          · rw [hV2.2] at h; cases h
          have HC := Lib.hid hc; have HC' := Lib.hid hc'; have HXa := Lib.hid ha; have HXb := Lib.hid hb; have HV2 := Lib.hid hV2
          clear hc hc' ha hb hV2
          go_wp2_with fail
          refine (HA.out _).mono ?_
          rintro e v4 ⟨rfl, hc4⟩
          have hz4 := hc4.size
          (try simp at hz4)
          have hX4 : Blk v4 (v1.heap.size) 25 #[.int .i64 x1, .int .i64 x2, .int .i64 x3] := Blk.call (by (repeat (first | with_reducible assumption | (with_reducible apply Blk.new_at; (first | rfl | (simp; done))) | with_reducible apply Blk.store3 | with_reducible apply Blk.store4 | (with_reducible apply Blk.farp; (first | omega | (simp <;> omega))) | with_reducible apply Blk.allocp | with_reducible apply Blk.drew | with_reducible apply Blk.drewN))) hc4
          have cX4 := hX4.cell; have fX4 := hX4.frozen; have lX4 := hX4.lt; have mX4 := Nat.ne_of_gt lX4; have nX4 := Nat.ne_of_lt lX4
          have hY4 : Blk v4 (v1.heap.size + 1) 25 #[.int .i64 y1, .int .i64 y2, .int .i64 y3] := Blk.call (by (repeat (first | with_reducible assumption | (with_reducible apply Blk.new_at; (first | rfl | (simp; done))) | with_reducible apply Blk.store3 | with_reducible apply Blk.store4 | (with_reducible apply Blk.farp; (first | omega | (simp <;> omega))) | with_reducible apply Blk.allocp | with_reducible apply Blk.drew | with_reducible apply Blk.drewN))) hc4
          have cY4 := hY4.cell; have fY4 := hY4.frozen; have lY4 := hY4.lt; have mY4 := Nat.ne_of_gt lY4; have nY4 := Nat.ne_of_lt lY4
          have hZ4 : Blk v4 (v2.heap.size) 25 #[.int .i64 q1, .int .i64 q2, .int .i64 q3] := Blk.call (by (repeat (first | with_reducible assumption | (with_reducible apply Blk.new_at; (first | rfl | (simp; done))) | with_reducible apply Blk.store3 | with_reducible apply Blk.store4 | (with_reducible apply Blk.farp; (first | omega | (simp <;> omega))) | with_reducible apply Blk.allocp | with_reducible apply Blk.drew | with_reducible apply Blk.drewN))) hc4
          have cZ4 := hZ4.cell; have fZ4 := hZ4.frozen; have lZ4 := hZ4.lt; have mZ4 := Nat.ne_of_gt lZ4; have nZ4 := Nat.ne_of_lt lZ4
          have hb4 : Below v3.heap.size v3 v4 := (by repeat (first | with_reducible exact Below.refl _ _ | with_reducible assumption | with_reducible apply Below.drew | with_reducible apply below_drewN | (with_reducible apply below_setp; (first | omega | (simp <;> omega))) | (with_reducible apply below_allocp; (first | omega | (simp <;> omega))) | (with_reducible refine below_viap (by assumption) ?_ ?_; (first | omega | (simp <;> omega)))))
          clear hX3 cX3 fX3 lX3 mX3 nX3 hY3 cY3 fY3 lY3 mY3 nY3 hZ3 cZ3 fZ3 lZ3 mZ3 nZ3
          go_wp2_with fail
          refine (HB.out _).mono ?_
          rintro e v5 ⟨rfl, hc5⟩
          have hz5 := hc5.size
          (try simp at hz5)
          have hX5 : Blk v5 (v1.heap.size) 25 #[.int .i64 x1, .int .i64 x2, .int .i64 x3] := Blk.call (by (repeat (first | with_reducible assumption | (with_reducible apply Blk.new_at; (first | rfl | (simp; done))) | with_reducible apply Blk.store3 | with_reducible apply Blk.store4 | (with_reducible apply Blk.farp; (first | omega | (simp <;> omega))) | with_reducible apply Blk.allocp | with_reducible apply Blk.drew | with_reducible apply Blk.drewN))) hc5
          have cX5 := hX5.cell; have fX5 := hX5.frozen; have lX5 := hX5.lt; have mX5 := Nat.ne_of_gt lX5; have nX5 := Nat.ne_of_lt lX5
          have hY5 : Blk v5 (v1.heap.size + 1) 25 #[.int .i64 y1, .int .i64 y2, .int .i64 y3] := Blk.call (by (repeat (first | with_reducible assumption | (with_reducible apply Blk.new_at; (first | rfl | (simp; done))) | with_reducible apply Blk.store3 | with_reducible apply Blk.store4 | (with_reducible apply Blk.farp; (first | omega | (simp <;> omega))) | with_reducible apply Blk.allocp | with_reducible apply Blk.drew | with_reducible apply Blk.drewN))) hc5
          have cY5 := hY5.cell; have fY5 := hY5.frozen; have lY5 := hY5.lt; have mY5 := Nat.ne_of_gt lY5; have nY5 := Nat.ne_of_lt lY5
          have hZ5 : Blk v5 (v2.heap.size) 25 #[.int .i64 q1, .int .i64 q2, .int .i64 q3] := Blk.call (by (repeat (first | with_reducible assumption | (with_reducible apply Blk.new_at; (first | rfl | (simp; done))) | with_reducible apply Blk.store3 | with_reducible apply Blk.store4 | (with_reducible apply Blk.farp; (first | omega | (simp <;> omega))) | with_reducible apply Blk.allocp | with_reducible apply Blk.drew | with_reducible apply Blk.drewN))) hc5
          have cZ5 := hZ5.cell; have fZ5 := hZ5.frozen; have lZ5 := hZ5.lt; have mZ5 := Nat.ne_of_gt lZ5; have nZ5 := Nat.ne_of_lt lZ5
          have hb5 : Below v3.heap.size v3 v5 := (by repeat (first | with_reducible exact Below.refl _ _ | with_reducible assumption | with_reducible apply Below.drew | with_reducible apply below_drewN | (with_reducible apply below_setp; (first | omega | (simp <;> omega))) | (with_reducible apply below_allocp; (first | omega | (simp <;> omega))) | (with_reducible refine below_viap (by assumption) ?_ ?_; (first | omega | (simp <;> omega)))))
          clear hX4 cX4 fX4 lX4 mX4 nX4 hY4 cY4 fY4 lY4 mY4 nY4 hZ4 cZ4 fZ4 lZ4 mZ4 nZ4
          clear HA HB
          cases xa with
          | false =>
            go_wp2_with fail
            go_meet
            exact (by repeat (first | with_reducible exact Below.refl _ _ | with_reducible assumption | with_reducible apply Below.drew | with_reducible apply below_drewN | (with_reducible apply below_setp; (first | omega | (simp <;> omega))) | (with_reducible apply below_allocp; (first | omega | (simp <;> omega))) | (with_reducible refine below_viap (by assumption) ?_ ?_; (first | omega | (simp <;> omega)))))
          | true =>
          cases xb with
          | false =>
            go_wp2_with fail
            go_meet
            exact (by repeat (first | with_reducible exact Below.refl _ _ | with_reducible assumption | with_reducible apply Below.drew | with_reducible apply below_drewN | (with_reducible apply below_setp; (first | omega | (simp <;> omega))) | (with_reducible apply below_allocp; (first | omega | (simp <;> omega))) | (with_reducible refine below_viap (by assumption) ?_ ?_; (first | omega | (simp <;> omega)))))
          | true =>
          have hpa : Int.gcd x2 (Int.gcd x3 c) = 1 := by have := HXa.out; rw [eq_comm, beq_iff_eq] at this; omega
          have hpb : Int.gcd y2 (Int.gcd y3 c') = 1 := by have := HXb.out; rw [eq_comm, beq_iff_eq] at this; omega
          obtain ⟨c3, R, k1, k2, k3, k4, k5, k6, k7, k8, k9, k10, k11, k12, k13, k14⟩ := ip_law HP.out HC.out HC'.out hpa hpb
          have HF := Lib.hid (fun w => FormOfIdeal_any d x1 x2 x3 c w k3 HC.out k5)
          have HG := Lib.hid (fun w => FormOfIdeal_any d y1 y2 y3 c' w k4 HC'.out k5)
          have HH := Lib.hid (fun w => FormOfIdeal_any d q1 q2 q3 c3 w k2 k1 k5)
          have HK := Lib.hid (fun w => implComp_c ⟨x2, x3, c⟩ ⟨y2, y3, c'⟩ w k6)
          rw [k7] at HK
          have HE := Lib.hid (fun w => implAE_same ⟨q2, q3, c3⟩ R R w k8 k9 k10 k11 k12 k13)
          have HN := Lib.hid (fun w => IdealNorm_any d x1 x2 x3 w k3)
          have HM := Lib.hid (fun w => IdealNorm_any d y1 y2 y3 w k4)
          have HL := Lib.hid (fun w => IdealNorm_any d q1 q2 q3 w k2)
          have HW := Lib.hid k14
          clear hpa hpb k1 k2 k3 k4 k5 k6 k7 k8 k9 k10 k11 k12 k13 k14 HXa HXb HC HC' HV2 HP
          generalize x1 * x1 * x2 = nx at *
          generalize y1 * y1 * y2 = ny at *
          generalize q1 * q1 * q2 = nq at *
          go_wp2_with fail
          refine (HF.out _).mono ?_
          rintro e v6 ⟨rfl, hc6⟩
          have hz6 := hc6.size
          (try simp at hz6)
          have hX6 : Blk v6 (v1.heap.size) 25 #[.int .i64 x1, .int .i64 x2, .int .i64 x3] := Blk.call (by (repeat (first | with_reducible assumption | (with_reducible apply Blk.new_at; (first | rfl | (simp; done))) | with_reducible apply Blk.store3 | with_reducible apply Blk.store4 | (with_reducible apply Blk.farp; (first | omega | (simp <;> omega))) | with_reducible apply Blk.allocp | with_reducible apply Blk.drew | with_reducible apply Blk.drewN))) hc6
          have cX6 := hX6.cell; have fX6 := hX6.frozen; have lX6 := hX6.lt; have mX6 := Nat.ne_of_gt lX6; have nX6 := Nat.ne_of_lt lX6
          have hY6 : Blk v6 (v1.heap.size + 1) 25 #[.int .i64 y1, .int .i64 y2, .int .i64 y3] := Blk.call (by (repeat (first | with_reducible assumption | (with_reducible apply Blk.new_at; (first | rfl | (simp; done))) | with_reducible apply Blk.store3 | with_reducible apply Blk.store4 | (with_reducible apply Blk.farp; (first | omega | (simp <;> omega))) | with_reducible apply Blk.allocp | with_reducible apply Blk.drew | with_reducible apply Blk.drewN))) hc6
          have cY6 := hY6.cell; have fY6 := hY6.frozen; have lY6 := hY6.lt; have mY6 := Nat.ne_of_gt lY6; have nY6 := Nat.ne_of_lt lY6
          have hZ6 : Blk v6 (v2.heap.size) 25 #[.int .i64 q1, .int .i64 q2, .int .i64 q3] := Blk.call (by (repeat (first | with_reducible assumption | (with_reducible apply Blk.new_at; (first | rfl | (simp; done))) | with_reducible apply Blk.store3 | with_reducible apply Blk.store4 | (with_reducible apply Blk.farp; (first | omega | (simp <;> omega))) | with_reducible apply Blk.allocp | with_reducible apply Blk.drew | with_reducible apply Blk.drewN))) hc6
          have cZ6 := hZ6.cell; have fZ6 := hZ6.frozen; have lZ6 := hZ6.lt; have mZ6 := Nat.ne_of_gt lZ6; have nZ6 := Nat.ne_of_lt lZ6
          have hb6 : Below v3.heap.size v3 v6 := (by repeat (first | with_reducible exact Below.refl _ _ | with_reducible assumption | with_reducible apply Below.drew | with_reducible apply below_drewN | (with_reducible apply below_setp; (first | omega | (simp <;> omega))) | (with_reducible apply below_allocp; (first | omega | (simp <;> omega))) | (with_reducible refine below_viap (by assumption) ?_ ?_; (first | omega | (simp <;> omega)))))
          clear hX5 cX5 fX5 lX5 mX5 nX5 hY5 cY5 fY5 lY5 mY5 nY5 hZ5 cZ5 fZ5 lZ5 mZ5 nZ5
          go_wp2_with fail
          refine (HG.out _).mono ?_
          rintro e v7 ⟨rfl, hc7⟩
          have hz7 := hc7.size
          (try simp at hz7)
          have hX7 : Blk v7 (v1.heap.size) 25 #[.int .i64 x1, .int .i64 x2, .int .i64 x3] := Blk.call (by (repeat (first | with_reducible assumption | (with_reducible apply Blk.new_at; (first | rfl | (simp; done))) | with_reducible apply Blk.store3 | with_reducible apply Blk.store4 | (with_reducible apply Blk.farp; (first | omega | (simp <;> omega))) | with_reducible apply Blk.allocp | with_reducible apply Blk.drew | with_reducible apply Blk.drewN))) hc7
          have cX7 := hX7.cell; have fX7 := hX7.frozen; have lX7 := hX7.lt; have mX7 := Nat.ne_of_gt lX7; have nX7 := Nat.ne_of_lt lX7
          have hY7 : Blk v7 (v1.heap.size + 1) 25 #[.int .i64 y1, .int .i64 y2, .int .i64 y3] := Blk.call (by (repeat (first | with_reducible assumption | (with_reducible apply Blk.new_at; (first | rfl | (simp; done))) | with_reducible apply Blk.store3 | with_reducible apply Blk.store4 | (with_reducible apply Blk.farp; (first | omega | (simp <;> omega))) | with_reducible apply Blk.allocp | with_reducible apply Blk.drew | with_reducible apply Blk.drewN))) hc7
          have cY7 := hY7.cell; have fY7 := hY7.frozen; have lY7 := hY7.lt; have mY7 := Nat.ne_of_gt lY7; have nY7 := Nat.ne_of_lt lY7
          have hZ7 : Blk v7 (v2.heap.size) 25 #[.int .i64 q1, .int .i64 q2, .int .i64 q3] := Blk.call (by (repeat (first | with_reducible assumption | (with_reducible apply Blk.new_at; (first | rfl | (simp; done))) | with_reducible apply Blk.store3 | with_reducible apply Blk.store4 | (with_reducible apply Blk.farp; (first | omega | (simp <;> omega))) | with_reducible apply Blk.allocp | with_reducible apply Blk.drew | with_reducible apply Blk.drewN))) hc7
          have cZ7 := hZ7.cell; have fZ7 := hZ7.frozen; have lZ7 := hZ7.lt; have mZ7 := Nat.ne_of_gt lZ7; have nZ7 := Nat.ne_of_lt lZ7
          have hF7 : Blk v7 (v6.heap.size) 33 #[.int .i64 x2, .int .i64 x3, .int .i64 c] := Blk.call (by (repeat (first | with_reducible assumption | (with_reducible apply Blk.new_at; (first | rfl | (simp; done))) | with_reducible apply Blk.store3 | with_reducible apply Blk.store4 | (with_reducible apply Blk.farp; (first | omega | (simp <;> omega))) | with_reducible apply Blk.allocp | with_reducible apply Blk.drew | with_reducible apply Blk.drewN))) hc7
          have cF7 := hF7.cell; have fF7 := hF7.frozen; have lF7 := hF7.lt; have mF7 := Nat.ne_of_gt lF7; have nF7 := Nat.ne_of_lt lF7
          have hb7 : Below v3.heap.size v3 v7 := (by repeat (first | with_reducible exact Below.refl _ _ | with_reducible assumption | with_reducible apply Below.drew | with_reducible apply below_drewN | (with_reducible apply below_setp; (first | omega | (simp <;> omega))) | (with_reducible apply below_allocp; (first | omega | (simp <;> omega))) | (with_reducible refine below_viap (by assumption) ?_ ?_; (first | omega | (simp <;> omega)))))
          clear hX6 cX6 fX6 lX6 mX6 nX6 hY6 cY6 fY6 lY6 mY6 nY6 hZ6 cZ6 fZ6 lZ6 mZ6 nZ6
          go_wp2_with fail
          refine (HH.out _).mono ?_
          rintro e v8 ⟨rfl, hc8⟩
          have hz8 := hc8.size
          (try simp at hz8)
          have hX8 : Blk v8 (v1.heap.size) 25 #[.int .i64 x1, .int .i64 x2, .int .i64 x3] := Blk.call (by (repeat (first | with_reducible assumption | (with_reducible apply Blk.new_at; (first | rfl | (simp; done))) | with_reducible apply Blk.store3 | with_reducible apply Blk.store4 | (with_reducible apply Blk.farp; (first | omega | (simp <;> omega))) | with_reducible apply Blk.allocp | with_reducible apply Blk.drew | with_reducible apply Blk.drewN))) hc8
          have cX8 := hX8.cell; have fX8 := hX8.frozen; have lX8 := hX8.lt; have mX8 := Nat.ne_of_gt lX8; have nX8 := Nat.ne_of_lt lX8
          have hY8 : Blk v8 (v1.heap.size + 1) 25 #[.int .i64 y1, .int .i64 y2, .int .i64 y3] := Blk.call (by (repeat (first | with_reducible assumption | (with_reducible apply Blk.new_at; (first | rfl | (simp; done))) | with_reducible apply Blk.store3 | with_reducible apply Blk.store4 | (with_reducible apply Blk.farp; (first | omega | (simp <;> omega))) | with_reducible apply Blk.allocp | with_reducible apply Blk.drew | with_reducible apply Blk.drewN))) hc8
          have cY8 := hY8.cell; have fY8 := hY8.frozen; have lY8 := hY8.lt; have mY8 := Nat.ne_of_gt lY8; have nY8 := Nat.ne_of_lt lY8
          have hZ8 : Blk v8 (v2.heap.size) 25 #[.int .i64 q1, .int .i64 q2, .int .i64 q3] := Blk.call (by (repeat (first | with_reducible assumption | (with_reducible apply Blk.new_at; (first | rfl | (simp; done))) | with_reducible apply Blk.store3 | with_reducible apply Blk.store4 | (with_reducible apply Blk.farp; (first | omega | (simp <;> omega))) | with_reducible apply Blk.allocp | with_reducible apply Blk.drew | with_reducible apply Blk.drewN))) hc8
          have cZ8 := hZ8.cell; have fZ8 := hZ8.frozen; have lZ8 := hZ8.lt; have mZ8 := Nat.ne_of_gt lZ8; have nZ8 := Nat.ne_of_lt lZ8
          have hF8 : Blk v8 (v6.heap.size) 33 #[.int .i64 x2, .int .i64 x3, .int .i64 c] := Blk.call (by (repeat (first | with_reducible assumption | (with_reducible apply Blk.new_at; (first | rfl | (simp; done))) | with_reducible apply Blk.store3 | with_reducible apply Blk.store4 | (with_reducible apply Blk.farp; (first | omega | (simp <;> omega))) | with_reducible apply Blk.allocp | with_reducible apply Blk.drew | with_reducible apply Blk.drewN))) hc8
          have cF8 := hF8.cell; have fF8 := hF8.frozen; have lF8 := hF8.lt; have mF8 := Nat.ne_of_gt lF8; have nF8 := Nat.ne_of_lt lF8
          have hG8 : Blk v8 (v7.heap.size) 33 #[.int .i64 y2, .int .i64 y3, .int .i64 c'] := Blk.call (by (repeat (first | with_reducible assumption | (with_reducible apply Blk.new_at; (first | rfl | (simp; done))) | with_reducible apply Blk.store3 | with_reducible apply Blk.store4 | (with_reducible apply Blk.farp; (first | omega | (simp <;> omega))) | with_reducible apply Blk.allocp | with_reducible apply Blk.drew | with_reducible apply Blk.drewN))) hc8
          have cG8 := hG8.cell; have fG8 := hG8.frozen; have lG8 := hG8.lt; have mG8 := Nat.ne_of_gt lG8; have nG8 := Nat.ne_of_lt lG8
          have hb8 : Below v3.heap.size v3 v8 := (by repeat (first | with_reducible exact Below.refl _ _ | with_reducible assumption | with_reducible apply Below.drew | with_reducible apply below_drewN | (with_reducible apply below_setp; (first | omega | (simp <;> omega))) | (with_reducible apply below_allocp; (first | omega | (simp <;> omega))) | (with_reducible refine below_viap (by assumption) ?_ ?_; (first | omega | (simp <;> omega)))))
          clear hX7 cX7 fX7 lX7 mX7 nX7 hY7 cY7 fY7 lY7 mY7 nY7 hZ7 cZ7 fZ7 lZ7 mZ7 nZ7 hF7 cF7 fF7 lF7 mF7 nF7
          go_wp2_with fail
          refine (HK.out _).mono ?_
          rintro e v9 ⟨rfl, hc9⟩
          have hz9 := hc9.size
          (try simp at hz9)
          have hX9 : Blk v9 (v1.heap.size) 25 #[.int .i64 x1, .int .i64 x2, .int .i64 x3] := Blk.call (by (repeat (first | with_reducible assumption | (with_reducible apply Blk.new_at; (first | rfl | (simp; done))) | with_reducible apply Blk.store3 | with_reducible apply Blk.store4 | (with_reducible apply Blk.farp; (first | omega | (simp <;> omega))) | with_reducible apply Blk.allocp | with_reducible apply Blk.drew | with_reducible apply Blk.drewN))) hc9
          have cX9 := hX9.cell; have fX9 := hX9.frozen; have lX9 := hX9.lt; have mX9 := Nat.ne_of_gt lX9; have nX9 := Nat.ne_of_lt lX9
          have hY9 : Blk v9 (v1.heap.size + 1) 25 #[.int .i64 y1, .int .i64 y2, .int .i64 y3] := Blk.call (by (repeat (first | with_reducible assumption | (with_reducible apply Blk.new_at; (first | rfl | (simp; done))) | with_reducible apply Blk.store3 | with_reducible apply Blk.store4 | (with_reducible apply Blk.farp; (first | omega | (simp <;> omega))) | with_reducible apply Blk.allocp | with_reducible apply Blk.drew | with_reducible apply Blk.drewN))) hc9
          have cY9 := hY9.cell; have fY9 := hY9.frozen; have lY9 := hY9.lt; have mY9 := Nat.ne_of_gt lY9; have nY9 := Nat.ne_of_lt lY9
          have hZ9 : Blk v9 (v2.heap.size) 25 #[.int .i64 q1, .int .i64 q2, .int .i64 q3] := Blk.call (by (repeat (first | with_reducible assumption | (with_reducible apply Blk.new_at; (first | rfl | (simp; done))) | with_reducible apply Blk.store3 | with_reducible apply Blk.store4 | (with_reducible apply Blk.farp; (first | omega | (simp <;> omega))) | with_reducible apply Blk.allocp | with_reducible apply Blk.drew | with_reducible apply Blk.drewN))) hc9
          have cZ9 := hZ9.cell; have fZ9 := hZ9.frozen; have lZ9 := hZ9.lt; have mZ9 := Nat.ne_of_gt lZ9; have nZ9 := Nat.ne_of_lt lZ9
          have hF9 : Blk v9 (v6.heap.size) 33 #[.int .i64 x2, .int .i64 x3, .int .i64 c] := Blk.call (by (repeat (first | with_reducible assumption | (with_reducible apply Blk.new_at; (first | rfl | (simp; done))) | with_reducible apply Blk.store3 | with_reducible apply Blk.store4 | (with_reducible apply Blk.farp; (first | omega | (simp <;> omega))) | with_reducible apply Blk.allocp | with_reducible apply Blk.drew | with_reducible apply Blk.drewN))) hc9
          have cF9 := hF9.cell; have fF9 := hF9.frozen; have lF9 := hF9.lt; have mF9 := Nat.ne_of_gt lF9; have nF9 := Nat.ne_of_lt lF9
          have hG9 : Blk v9 (v7.heap.size) 33 #[.int .i64 y2, .int .i64 y3, .int .i64 c'] := Blk.call (by (repeat (first | with_reducible assumption | (with_reducible apply Blk.new_at; (first | rfl | (simp; done))) | with_reducible apply Blk.store3 | with_reducible apply Blk.store4 | (with_reducible apply Blk.farp; (first | omega | (simp <;> omega))) | with_reducible apply Blk.allocp | with_reducible apply Blk.drew | with_reducible apply Blk.drewN))) hc9
          have cG9 := hG9.cell; have fG9 := hG9.frozen; have lG9 := hG9.lt; have mG9 := Nat.ne_of_gt lG9; have nG9 := Nat.ne_of_lt lG9
          have hH9 : Blk v9 (v8.heap.size) 33 #[.int .i64 q2, .int .i64 q3, .int .i64 c3] := Blk.call (by (repeat (first | with_reducible assumption | (with_reducible apply Blk.new_at; (first | rfl | (simp; done))) | with_reducible apply Blk.store3 | with_reducible apply Blk.store4 | (with_reducible apply Blk.farp; (first | omega | (simp <;> omega))) | with_reducible apply Blk.allocp | with_reducible apply Blk.drew | with_reducible apply Blk.drewN))) hc9
          have cH9 := hH9.cell; have fH9 := hH9.frozen; have lH9 := hH9.lt; have mH9 := Nat.ne_of_gt lH9; have nH9 := Nat.ne_of_lt lH9
          have hb9 : Below v3.heap.size v3 v9 := (by repeat (first | with_reducible exact Below.refl _ _ | with_reducible assumption | with_reducible apply Below.drew | with_reducible apply below_drewN | (with_reducible apply below_setp; (first | omega | (simp <;> omega))) | (with_reducible apply below_allocp; (first | omega | (simp <;> omega))) | (with_reducible refine below_viap (by assumption) ?_ ?_; (first | omega | (simp <;> omega)))))
          clear hX8 cX8 fX8 lX8 mX8 nX8 hY8 cY8 fY8 lY8 mY8 nY8 hZ8 cZ8 fZ8 lZ8 mZ8 nZ8 hF8 cF8 fF8 lF8 mF8 nF8 hG8 cG8 fG8 lG8 mG8 nG8
          go_wp2_with fail
          refine (HE.out _).mono ?_
          rintro e v10 ⟨rfl, hc10⟩
          have hz10 := hc10.size
          (try simp at hz10)
          have hX10 : Blk v10 (v1.heap.size) 25 #[.int .i64 x1, .int .i64 x2, .int .i64 x3] := Blk.call (by (repeat (first | with_reducible assumption | (with_reducible apply Blk.new_at; (first | rfl | (simp; done))) | with_reducible apply Blk.store3 | with_reducible apply Blk.store4 | (with_reducible apply Blk.farp; (first | omega | (simp <;> omega))) | with_reducible apply Blk.allocp | with_reducible apply Blk.drew | with_reducible apply Blk.drewN))) hc10
          have cX10 := hX10.cell; have fX10 := hX10.frozen; have lX10 := hX10.lt; have mX10 := Nat.ne_of_gt lX10; have nX10 := Nat.ne_of_lt lX10
          have hY10 : Blk v10 (v1.heap.size + 1) 25 #[.int .i64 y1, .int .i64 y2, .int .i64 y3] := Blk.call (by (repeat (first | with_reducible assumption | (with_reducible apply Blk.new_at; (first | rfl | (simp; done))) | with_reducible apply Blk.store3 | with_reducible apply Blk.store4 | (with_reducible apply Blk.farp; (first | omega | (simp <;> omega))) | with_reducible apply Blk.allocp | with_reducible apply Blk.drew | with_reducible apply Blk.drewN))) hc10
          have cY10 := hY10.cell; have fY10 := hY10.frozen; have lY10 := hY10.lt; have mY10 := Nat.ne_of_gt lY10; have nY10 := Nat.ne_of_lt lY10
          have hZ10 : Blk v10 (v2.heap.size) 25 #[.int .i64 q1, .int .i64 q2, .int .i64 q3] := Blk.call (by (repeat (first | with_reducible assumption | (with_reducible apply Blk.new_at; (first | rfl | (simp; done))) | with_reducible apply Blk.store3 | with_reducible apply Blk.store4 | (with_reducible apply Blk.farp; (first | omega | (simp <;> omega))) | with_reducible apply Blk.allocp | with_reducible apply Blk.drew | with_reducible apply Blk.drewN))) hc10
          have cZ10 := hZ10.cell; have fZ10 := hZ10.frozen; have lZ10 := hZ10.lt; have mZ10 := Nat.ne_of_gt lZ10; have nZ10 := Nat.ne_of_lt lZ10
          have hF10 : Blk v10 (v6.heap.size) 33 #[.int .i64 x2, .int .i64 x3, .int .i64 c] := Blk.call (by (repeat (first | with_reducible assumption | (with_reducible apply Blk.new_at; (first | rfl | (simp; done))) | with_reducible apply Blk.store3 | with_reducible apply Blk.store4 | (with_reducible apply Blk.farp; (first | omega | (simp <;> omega))) | with_reducible apply Blk.allocp | with_reducible apply Blk.drew | with_reducible apply Blk.drewN))) hc10
          have cF10 := hF10.cell; have fF10 := hF10.frozen; have lF10 := hF10.lt; have mF10 := Nat.ne_of_gt lF10; have nF10 := Nat.ne_of_lt lF10
          have hG10 : Blk v10 (v7.heap.size) 33 #[.int .i64 y2, .int .i64 y3, .int .i64 c'] := Blk.call (by (repeat (first | with_reducible assumption | (with_reducible apply Blk.new_at; (first | rfl | (simp; done))) | with_reducible apply Blk.store3 | with_reducible apply Blk.store4 | (with_reducible apply Blk.farp; (first | omega | (simp <;> omega))) | with_reducible apply Blk.allocp | with_reducible apply Blk.drew | with_reducible apply Blk.drewN))) hc10
          have cG10 := hG10.cell; have fG10 := hG10.frozen; have lG10 := hG10.lt; have mG10 := Nat.ne_of_gt lG10; have nG10 := Nat.ne_of_lt lG10
          have hH10 : Blk v10 (v8.heap.size) 33 #[.int .i64 q2, .int .i64 q3, .int .i64 c3] := Blk.call (by (repeat (first | with_reducible assumption | (with_reducible apply Blk.new_at; (first | rfl | (simp; done))) | with_reducible apply Blk.store3 | with_reducible apply Blk.store4 | (with_reducible apply Blk.farp; (first | omega | (simp <;> omega))) | with_reducible apply Blk.allocp | with_reducible apply Blk.drew | with_reducible apply Blk.drewN))) hc10
          have cH10 := hH10.cell; have fH10 := hH10.frozen; have lH10 := hH10.lt; have mH10 := Nat.ne_of_gt lH10; have nH10 := Nat.ne_of_lt lH10
          have hR10 : Blk v10 (v9.heap.size) 33 #[.int .i64 R.a, .int .i64 R.b, .int .i64 R.c] := Blk.call (by (repeat (first | with_reducible assumption | (with_reducible apply Blk.new_at; (first | rfl | (simp; done))) | with_reducible apply Blk.store3 | with_reducible apply Blk.store4 | (with_reducible apply Blk.farp; (first | omega | (simp <;> omega))) | with_reducible apply Blk.allocp | with_reducible apply Blk.drew | with_reducible apply Blk.drewN))) hc10
          have cR10 := hR10.cell; have fR10 := hR10.frozen; have lR10 := hR10.lt; have mR10 := Nat.ne_of_gt lR10; have nR10 := Nat.ne_of_lt lR10
          have hb10 : Below v3.heap.size v3 v10 := (by repeat (first | with_reducible exact Below.refl _ _ | with_reducible assumption | with_reducible apply Below.drew | with_reducible apply below_drewN | (with_reducible apply below_setp; (first | omega | (simp <;> omega))) | (with_reducible apply below_allocp; (first | omega | (simp <;> omega))) | (with_reducible refine below_viap (by assumption) ?_ ?_; (first | omega | (simp <;> omega)))))
          clear hX9 cX9 fX9 lX9 mX9 nX9 hY9 cY9 fY9 lY9 mY9 nY9 hZ9 cZ9 fZ9 lZ9 mZ9 nZ9 hF9 cF9 fF9 lF9 mF9 nF9 hG9 cG9 fG9 lG9 mG9 nG9 hH9 cH9 fH9 lH9 mH9 nH9
          go_wp2_with fail
          refine (HN.out _).mono ?_
          rintro e v11 ⟨rfl, hc11⟩
          have hz11 := hc11.size
          (try simp at hz11)
          have hX11 : Blk v11 (v1.heap.size) 25 #[.int .i64 x1, .int .i64 x2, .int .i64 x3] := Blk.call (by (repeat (first | with_reducible assumption | (with_reducible apply Blk.new_at; (first | rfl | (simp; done))) | with_reducible apply Blk.store3 | with_reducible apply Blk.store4 | (with_reducible apply Blk.farp; (first | omega | (simp <;> omega))) | with_reducible apply Blk.allocp | with_reducible apply Blk.drew | with_reducible apply Blk.drewN))) hc11
          have cX11 := hX11.cell; have fX11 := hX11.frozen; have lX11 := hX11.lt; have mX11 := Nat.ne_of_gt lX11; have nX11 := Nat.ne_of_lt lX11
          have hY11 : Blk v11 (v1.heap.size + 1) 25 #[.int .i64 y1, .int .i64 y2, .int .i64 y3] := Blk.call (by (repeat (first | with_reducible assumption | (with_reducible apply Blk.new_at; (first | rfl | (simp; done))) | with_reducible apply Blk.store3 | with_reducible apply Blk.store4 | (with_reducible apply Blk.farp; (first | omega | (simp <;> omega))) | with_reducible apply Blk.allocp | with_reducible apply Blk.drew | with_reducible apply Blk.drewN))) hc11
          have cY11 := hY11.cell; have fY11 := hY11.frozen; have lY11 := hY11.lt; have mY11 := Nat.ne_of_gt lY11; have nY11 := Nat.ne_of_lt lY11
          have hZ11 : Blk v11 (v2.heap.size) 25 #[.int .i64 q1, .int .i64 q2, .int .i64 q3] := Blk.call (by (repeat (first | with_reducible assumption | (with_reducible apply Blk.new_at; (first | rfl | (simp; done))) | with_reducible apply Blk.store3 | with_reducible apply Blk.store4 | (with_reducible apply Blk.farp; (first | omega | (simp <;> omega))) | with_reducible apply Blk.allocp | with_reducible apply Blk.drew | with_reducible apply Blk.drewN))) hc11
          have cZ11 := hZ11.cell; have fZ11 := hZ11.frozen; have lZ11 := hZ11.lt; have mZ11 := Nat.ne_of_gt lZ11; have nZ11 := Nat.ne_of_lt lZ11
          have hF11 : Blk v11 (v6.heap.size) 33 #[.int .i64 x2, .int .i64 x3, .int .i64 c] := Blk.call (by (repeat (first | with_reducible assumption | (with_reducible apply Blk.new_at; (first | rfl | (simp; done))) | with_reducible apply Blk.store3 | with_reducible apply Blk.store4 | (with_reducible apply Blk.farp; (first | omega | (simp <;> omega))) | with_reducible apply Blk.allocp | with_reducible apply Blk.drew | with_reducible apply Blk.drewN))) hc11
          have cF11 := hF11.cell; have fF11 := hF11.frozen; have lF11 := hF11.lt; have mF11 := Nat.ne_of_gt lF11; have nF11 := Nat.ne_of_lt lF11
          have hG11 : Blk v11 (v7.heap.size) 33 #[.int .i64 y2, .int .i64 y3, .int .i64 c'] := Blk.call (by (repeat (first | with_reducible assumption | (with_reducible apply Blk.new_at; (first | rfl | (simp; done))) | with_reducible apply Blk.store3 | with_reducible apply Blk.store4 | (with_reducible apply Blk.farp; (first | omega | (simp <;> omega))) | with_reducible apply Blk.allocp | with_reducible apply Blk.drew | with_reducible apply Blk.drewN))) hc11
          have cG11 := hG11.cell; have fG11 := hG11.frozen; have lG11 := hG11.lt; have mG11 := Nat.ne_of_gt lG11; have nG11 := Nat.ne_of_lt lG11
          have hH11 : Blk v11 (v8.heap.size) 33 #[.int .i64 q2, .int .i64 q3, .int .i64 c3] := Blk.call (by (repeat (first | with_reducible assumption | (with_reducible apply Blk.new_at; (first | rfl | (simp; done))) | with_reducible apply Blk.store3 | with_reducible apply Blk.store4 | (with_reducible apply Blk.farp; (first | omega | (simp <;> omega))) | with_reducible apply Blk.allocp | with_reducible apply Blk.drew | with_reducible apply Blk.drewN))) hc11
          have cH11 := hH11.cell; have fH11 := hH11.frozen; have lH11 := hH11.lt; have mH11 := Nat.ne_of_gt lH11; have nH11 := Nat.ne_of_lt lH11
          have hR11 : Blk v11 (v9.heap.size) 33 #[.int .i64 R.a, .int .i64 R.b, .int .i64 R.c] := Blk.call (by (repeat (first | with_reducible assumption | (with_reducible apply Blk.new_at; (first | rfl | (simp; done))) | with_reducible apply Blk.store3 | with_reducible apply Blk.store4 | (with_reducible apply Blk.farp; (first | omega | (simp <;> omega))) | with_reducible apply Blk.allocp | with_reducible apply Blk.drew | with_reducible apply Blk.drewN))) hc11
          have cR11 := hR11.cell; have fR11 := hR11.frozen; have lR11 := hR11.lt; have mR11 := Nat.ne_of_gt lR11; have nR11 := Nat.ne_of_lt lR11
          have hb11 : Below v3.heap.size v3 v11 := (by repeat (first | with_reducible exact Below.refl _ _ | with_reducible assumption | with_reducible apply Below.drew | with_reducible apply below_drewN | (with_reducible apply below_setp; (first | omega | (simp <;> omega))) | (with_reducible apply below_allocp; (first | omega | (simp <;> omega))) | (with_reducible refine below_viap (by assumption) ?_ ?_; (first | omega | (simp <;> omega)))))
          clear hX10 cX10 fX10 lX10 mX10 nX10 hY10 cY10 fY10 lY10 mY10 nY10 hZ10 cZ10 fZ10 lZ10 mZ10 nZ10 hF10 cF10 fF10 lF10 mF10 nF10 hG10 cG10 fG10 lG10 mG10 nG10 hH10 cH10 fH10 lH10 mH10 nH10 hR10 cR10 fR10 lR10 mR10 nR10
          go_wp2_with fail
          refine (HM.out _).mono ?_
          rintro e v12 ⟨rfl, hc12⟩
          have hz12 := hc12.size
          (try simp at hz12)
          have hX12 : Blk v12 (v1.heap.size) 25 #[.int .i64 x1, .int .i64 x2, .int .i64 x3] := Blk.call (by (repeat (first | with_reducible assumption | (with_reducible apply Blk.new_at; (first | rfl | (simp; done))) | with_reducible apply Blk.store3 | with_reducible apply Blk.store4 | (with_reducible apply Blk.farp; (first | omega | (simp <;> omega))) | with_reducible apply Blk.allocp | with_reducible apply Blk.drew | with_reducible apply Blk.drewN))) hc12
          have cX12 := hX12.cell; have fX12 := hX12.frozen; have lX12 := hX12.lt; have mX12 := Nat.ne_of_gt lX12; have nX12 := Nat.ne_of_lt lX12
          have hY12 : Blk v12 (v1.heap.size + 1) 25 #[.int .i64 y1, .int .i64 y2, .int .i64 y3] := Blk.call (by (repeat (first | with_reducible assumption | (with_reducible apply Blk.new_at; (first | rfl | (simp; done))) | with_reducible apply Blk.store3 | with_reducible apply Blk.store4 | (with_reducible apply Blk.farp; (first | omega | (simp <;> omega))) | with_reducible apply Blk.allocp | with_reducible apply Blk.drew | with_reducible apply Blk.drewN))) hc12
          have cY12 := hY12.cell; have fY12 := hY12.frozen; have lY12 := hY12.lt; have mY12 := Nat.ne_of_gt lY12; have nY12 := Nat.ne_of_lt lY12
          have hZ12 : Blk v12 (v2.heap.size) 25 #[.int .i64 q1, .int .i64 q2, .int .i64 q3] := Blk.call (by (repeat (first | with_reducible assumption | (with_reducible apply Blk.new_at; (first | rfl | (simp; done))) | with_reducible apply Blk.store3 | with_reducible apply Blk.store4 | (with_reducible apply Blk.farp; (first | omega | (simp <;> omega))) | with_reducible apply Blk.allocp | with_reducible apply Blk.drew | with_reducible apply Blk.drewN))) hc12
          have cZ12 := hZ12.cell; have fZ12 := hZ12.frozen; have lZ12 := hZ12.lt; have mZ12 := Nat.ne_of_gt lZ12; have nZ12 := Nat.ne_of_lt lZ12
          have hF12 : Blk v12 (v6.heap.size) 33 #[.int .i64 x2, .int .i64 x3, .int .i64 c] := Blk.call (by (repeat (first | with_reducible assumption | (with_reducible apply Blk.new_at; (first | rfl | (simp; done))) | with_reducible apply Blk.store3 | with_reducible apply Blk.store4 | (with_reducible apply Blk.farp; (first | omega | (simp <;> omega))) | with_reducible apply Blk.allocp | with_reducible apply Blk.drew | with_reducible apply Blk.drewN))) hc12
          have cF12 := hF12.cell; have fF12 := hF12.frozen; have lF12 := hF12.lt; have mF12 := Nat.ne_of_gt lF12; have nF12 := Nat.ne_of_lt lF12
          have hG12 : Blk v12 (v7.heap.size) 33 #[.int .i64 y2, .int .i64 y3, .int .i64 c'] := Blk.call (by (repeat (first | with_reducible assumption | (with_reducible apply Blk.new_at; (first | rfl | (simp; done))) | with_reducible apply Blk.store3 | with_reducible apply Blk.store4 | (with_reducible apply Blk.farp; (first | omega | (simp <;> omega))) | with_reducible apply Blk.allocp | with_reducible apply Blk.drew | with_reducible apply Blk.drewN))) hc12
          have cG12 := hG12.cell; have fG12 := hG12.frozen; have lG12 := hG12.lt; have mG12 := Nat.ne_of_gt lG12; have nG12 := Nat.ne_of_lt lG12
          have hH12 : Blk v12 (v8.heap.size) 33 #[.int .i64 q2, .int .i64 q3, .int .i64 c3] := Blk.call (by (repeat (first | with_reducible assumption | (with_reducible apply Blk.new_at; (first | rfl | (simp; done))) | with_reducible apply Blk.store3 | with_reducible apply Blk.store4 | (with_reducible apply Blk.farp; (first | omega | (simp <;> omega))) | with_reducible apply Blk.allocp | with_reducible apply Blk.drew | with_reducible apply Blk.drewN))) hc12
          have cH12 := hH12.cell; have fH12 := hH12.frozen; have lH12 := hH12.lt; have mH12 := Nat.ne_of_gt lH12; have nH12 := Nat.ne_of_lt lH12
          have hR12 : Blk v12 (v9.heap.size) 33 #[.int .i64 R.a, .int .i64 R.b, .int .i64 R.c] := Blk.call (by (repeat (first | with_reducible assumption | (with_reducible apply Blk.new_at; (first | rfl | (simp; done))) | with_reducible apply Blk.store3 | with_reducible apply Blk.store4 | (with_reducible apply Blk.farp; (first | omega | (simp <;> omega))) | with_reducible apply Blk.allocp | with_reducible apply Blk.drew | with_reducible apply Blk.drewN))) hc12
          have cR12 := hR12.cell; have fR12 := hR12.frozen; have lR12 := hR12.lt; have mR12 := Nat.ne_of_gt lR12; have nR12 := Nat.ne_of_lt lR12
          have hb12 : Below v3.heap.size v3 v12 := (by repeat (first | with_reducible exact Below.refl _ _ | with_reducible assumption | with_reducible apply Below.drew | with_reducible apply below_drewN | (with_reducible apply below_setp; (first | omega | (simp <;> omega))) | (with_reducible apply below_allocp; (first | omega | (simp <;> omega))) | (with_reducible refine below_viap (by assumption) ?_ ?_; (first | omega | (simp <;> omega)))))
          clear hX11 cX11 fX11 lX11 mX11 nX11 hY11 cY11 fY11 lY11 mY11 nY11 hZ11 cZ11 fZ11 lZ11 mZ11 nZ11 hF11 cF11 fF11 lF11 mF11 nF11 hG11 cG11 fG11 lG11 mG11 nG11 hH11 cH11 fH11 lH11 mH11 nH11 hR11 cR11 fR11 lR11 mR11 nR11
          go_wp2_with fail
          refine (HL.out _).mono ?_
          rintro e v13 ⟨rfl, hc13⟩
          have hz13 := hc13.size
          (try simp at hz13)
          have hX13 : Blk v13 (v1.heap.size) 25 #[.int .i64 x1, .int .i64 x2, .int .i64 x3] := Blk.call (by (repeat (first | with_reducible assumption | (with_reducible apply Blk.new_at; (first | rfl | (simp; done))) | with_reducible apply Blk.store3 | with_reducible apply Blk.store4 | (with_reducible apply Blk.farp; (first | omega | (simp <;> omega))) | with_reducible apply Blk.allocp | with_reducible apply Blk.drew | with_reducible apply Blk.drewN))) hc13
          have cX13 := hX13.cell; have fX13 := hX13.frozen; have lX13 := hX13.lt; have mX13 := Nat.ne_of_gt lX13; have nX13 := Nat.ne_of_lt lX13
          have hY13 : Blk v13 (v1.heap.size + 1) 25 #[.int .i64 y1, .int .i64 y2, .int .i64 y3] := Blk.call (by (repeat (first | with_reducible assumption | (with_reducible apply Blk.new_at; (first | rfl | (simp; done))) | with_reducible apply Blk.store3 | with_reducible apply Blk.store4 | (with_reducible apply Blk.farp; (first | omega | (simp <;> omega))) | with_reducible apply Blk.allocp | with_reducible apply Blk.drew | with_reducible apply Blk.drewN))) hc13
          have cY13 := hY13.cell; have fY13 := hY13.frozen; have lY13 := hY13.lt; have mY13 := Nat.ne_of_gt lY13; have nY13 := Nat.ne_of_lt lY13
          have hZ13 : Blk v13 (v2.heap.size) 25 #[.int .i64 q1, .int .i64 q2, .int .i64 q3] := Blk.call (by (repeat (first | with_reducible assumption | (with_reducible apply Blk.new_at; (first | rfl | (simp; done))) | with_reducible apply Blk.store3 | with_reducible apply Blk.store4 | (with_reducible apply Blk.farp; (first | omega | (simp <;> omega))) | with_reducible apply Blk.allocp | with_reducible apply Blk.drew | with_reducible apply Blk.drewN))) hc13
          have cZ13 := hZ13.cell; have fZ13 := hZ13.frozen; have lZ13 := hZ13.lt; have mZ13 := Nat.ne_of_gt lZ13; have nZ13 := Nat.ne_of_lt lZ13
          have hF13 : Blk v13 (v6.heap.size) 33 #[.int .i64 x2, .int .i64 x3, .int .i64 c] := Blk.call (by (repeat (first | with_reducible assumption | (with_reducible apply Blk.new_at; (first | rfl | (simp; done))) | with_reducible apply Blk.store3 | with_reducible apply Blk.store4 | (with_reducible apply Blk.farp; (first | omega | (simp <;> omega))) | with_reducible apply Blk.allocp | with_reducible apply Blk.drew | with_reducible apply Blk.drewN))) hc13
          have cF13 := hF13.cell; have fF13 := hF13.frozen; have lF13 := hF13.lt; have mF13 := Nat.ne_of_gt lF13; have nF13 := Nat.ne_of_lt lF13
          have hG13 : Blk v13 (v7.heap.size) 33 #[.int .i64 y2, .int .i64 y3, .int .i64 c'] := Blk.call (by (repeat (first | with_reducible assumption | (with_reducible apply Blk.new_at; (first | rfl | (simp; done))) | with_reducible apply Blk.store3 | with_reducible apply Blk.store4 | (with_reducible apply Blk.farp; (first | omega | (simp <;> omega))) | with_reducible apply Blk.allocp | with_reducible apply Blk.drew | with_reducible apply Blk.drewN))) hc13
          have cG13 := hG13.cell; have fG13 := hG13.frozen; have lG13 := hG13.lt; have mG13 := Nat.ne_of_gt lG13; have nG13 := Nat.ne_of_lt lG13
          have hH13 : Blk v13 (v8.heap.size) 33 #[.int .i64 q2, .int .i64 q3, .int .i64 c3] := Blk.call (by (repeat (first | with_reducible assumption | (with_reducible apply Blk.new_at; (first | rfl | (simp; done))) | with_reducible apply Blk.store3 | with_reducible apply Blk.store4 | (with_reducible apply Blk.farp; (first | omega | (simp <;> omega))) | with_reducible apply Blk.allocp | with_reducible apply Blk.drew | with_reducible apply Blk.drewN))) hc13
          have cH13 := hH13.cell; have fH13 := hH13.frozen; have lH13 := hH13.lt; have mH13 := Nat.ne_of_gt lH13; have nH13 := Nat.ne_of_lt lH13
          have hR13 : Blk v13 (v9.heap.size) 33 #[.int .i64 R.a, .int .i64 R.b, .int .i64 R.c] := Blk.call (by (repeat (first | with_reducible assumption | (with_reducible apply Blk.new_at; (first | rfl | (simp; done))) | with_reducible apply Blk.store3 | with_reducible apply Blk.store4 | (with_reducible apply Blk.farp; (first | omega | (simp <;> omega))) | with_reducible apply Blk.allocp | with_reducible apply Blk.drew | with_reducible apply Blk.drewN))) hc13
          have cR13 := hR13.cell; have fR13 := hR13.frozen; have lR13 := hR13.lt; have mR13 := Nat.ne_of_gt lR13; have nR13 := Nat.ne_of_lt lR13
          have hb13 : Below v3.heap.size v3 v13 := (by repeat (first | with_reducible exact Below.refl _ _ | with_reducible assumption | with_reducible apply Below.drew | with_reducible apply below_drewN | (with_reducible apply below_setp; (first | omega | (simp <;> omega))) | (with_reducible apply below_allocp; (first | omega | (simp <;> omega))) | (with_reducible refine below_viap (by assumption) ?_ ?_; (first | omega | (simp <;> omega)))))
          clear hX12 cX12 fX12 lX12 mX12 nX12 hY12 cY12 fY12 lY12 mY12 nY12 hZ12 cZ12 fZ12 lZ12 mZ12 nZ12 hF12 cF12 fF12 lF12 mF12 nF12 hG12 cG12 fG12 lG12 mG12 nG12 hH12 cH12 fH12 lH12 mH12 nH12 hR12 cR12 fR12 lR12 mR12 nR12
          have hW := HW.out
          clear HW HF HG HH HK HE HN HM HL
          go_wp2_with fail
          go_meet
          exact (by repeat (first | with_reducible exact Below.refl _ _ | with_reducible assumption | with_reducible apply Below.drew | with_reducible apply below_drewN | (with_reducible apply below_setp; (first | omega | (simp <;> omega))) | (with_reducible apply below_allocp; (first | omega | (simp <;> omega))) | (with_reducible refine below_viap (by assumption) ?_ ?_; (first | omega | (simp <;> omega)))))
    case rest =>
      obtain ⟨v20, rfl⟩ : ∃ v20 : World, v20 = wc := ⟨_, rfl⟩
      have hb20 : Below w.heap.size w v20 := (by repeat (first | with_reducible exact Below.refl _ _ | with_reducible assumption | with_reducible apply Below.drew | with_reducible apply below_drewN | (with_reducible apply below_setp; (first | omega | (simp <;> omega))) | (with_reducible apply below_allocp; (first | omega | (simp <;> omega))) | (with_reducible refine below_viap (by assumption) ?_ ?_; (first | omega | (simp <;> omega)))))
      have hz20 := hcut.size
      clear hcut HP hb1 hb2 hb3 hc2 hc3 hX3 cX3 fX3 lX3 mX3 nX3 hY3 cY3 fY3 lY3 mY3 nY3 hZ3 cZ3 fZ3 lZ3 mZ3 nZ3
      go_wp2_with fail
      refine (drawInv_any es _ _ v20 (HE.out _ hb20) (by omega)).mono ?_
      rintro e v21 ⟨d2, x, a, b, rfl, hc21⟩
      have hz21 := hc21.size
      have hb21 : Below w.heap.size w v21 := (by repeat (first | with_reducible exact Below.refl _ _ | with_reducible assumption | with_reducible apply Below.drew | with_reducible apply below_drewN | (with_reducible apply below_setp; (first | omega | (simp <;> omega))) | (with_reducible apply below_allocp; (first | omega | (simp <;> omega))) | (with_reducible refine below_viap (by assumption) ?_ ?_; (first | omega | (simp <;> omega)))))
      clear HE hc21 hb20
      obtain ⟨xa, oa, hVa⟩ := ivR_ex d2 x a b
      have HA := Lib.hid (fun w => implIv_R w hVa)
      have HB := Lib.hid (fun w => specIv_R w hVa)
      have HV := Lib.hid hVa
      clear hVa
      go_wp2_with fail
      refine (HA.out _).mono ?_
      rintro e v22 ⟨rfl, hc22⟩
      have hz22 := hc22.size
      (try simp at hz22)
      have hU22 : Blk v22 (v21.heap.size) 25 #[.int .i64 x, .int .i64 a, .int .i64 b] := Blk.call (by (repeat (first | with_reducible assumption | (with_reducible apply Blk.new_at; (first | rfl | (simp; done))) | with_reducible apply Blk.store3 | with_reducible apply Blk.store4 | (with_reducible apply Blk.farp; (first | omega | (simp <;> omega))) | with_reducible apply Blk.allocp | with_reducible apply Blk.drew | with_reducible apply Blk.drewN))) hc22
      have cU22 := hU22.cell; have fU22 := hU22.frozen; have lU22 := hU22.lt; have mU22 := Nat.ne_of_gt lU22; have nU22 := Nat.ne_of_lt lU22
      have hb22 : Below w.heap.size w v22 := (by repeat (first | with_reducible exact Below.refl _ _ | with_reducible assumption | with_reducible apply Below.drew | with_reducible apply below_drewN | (with_reducible apply below_setp; (first | omega | (simp <;> omega))) | (with_reducible apply below_allocp; (first | omega | (simp <;> omega))) | (with_reducible refine below_viap (by assumption) ?_ ?_; (first | omega | (simp <;> omega)))))
      go_wp2_with fail
      refine (HB.out _).mono ?_
      rintro e v23 ⟨rfl, hc23⟩
      have hz23 := hc23.size
      (try simp at hz23)
      have hU23 : Blk v23 (v21.heap.size) 25 #[.int .i64 x, .int .i64 a, .int .i64 b] := Blk.call (by (repeat (first | with_reducible assumption | (with_reducible apply Blk.new_at; (first | rfl | (simp; done))) | with_reducible apply Blk.store3 | with_reducible apply Blk.store4 | (with_reducible apply Blk.farp; (first | omega | (simp <;> omega))) | with_reducible apply Blk.allocp | with_reducible apply Blk.drew | with_reducible apply Blk.drewN))) hc23
      have cU23 := hU23.cell; have fU23 := hU23.frozen; have lU23 := hU23.lt; have mU23 := Nat.ne_of_gt lU23; have nU23 := Nat.ne_of_lt lU23
      have hb23 : Below w.heap.size w v23 := (by repeat (first | with_reducible exact Below.refl _ _ | with_reducible assumption | with_reducible apply Below.drew | with_reducible apply below_drewN | (with_reducible apply below_setp; (first | omega | (simp <;> omega))) | (with_reducible apply below_allocp; (first | omega | (simp <;> omega))) | (with_reducible refine below_viap (by assumption) ?_ ?_; (first | omega | (simp <;> omega)))))
      clear hU22 cU22 fU22 lU22 mU22 nU22
      clear HA HB
      cases oa with
      | false =>
        go_wp2
        go_ret
        exact ⟨rfl, (by repeat (first | with_reducible exact Below.refl _ _ | with_reducible assumption | with_reducible apply Below.drew | with_reducible apply below_drewN | (with_reducible apply below_setp; (first | omega | (simp <;> omega))) | (with_reducible apply below_allocp; (first | omega | (simp <;> omega))) | (with_reducible refine below_viap (by assumption) ?_ ?_; (first | omega | (simp <;> omega)))))⟩
      | true =>
      cases xa with
      | false =>
        go_wp2
        go_ret
        exact ⟨rfl, (by repeat (first | with_reducible exact Below.refl _ _ | with_reducible assumption | with_reducible apply Below.drew | with_reducible apply below_drewN | (with_reducible apply below_setp; (first | omega | (simp <;> omega))) | (with_reducible apply below_allocp; (first | omega | (simp <;> omega))) | (with_reducible refine below_viap (by assumption) ?_ ?_; (first | omega | (simp <;> omega)))))⟩
      | true =>
      obtain ⟨c, hi, hc, hp⟩ : ∃ c, idB d2 x a b = true ∧ b * b - d2 = 4 * a * c ∧ Int.gcd a (Int.gcd b c) = 1 := by
        rcases HV.out with ⟨_, h, _⟩ | ⟨hi, c, hc, hx, _⟩
        · cases h
        · exact ⟨c, hi, hc, by rw [eq_comm, beq_iff_eq] at hx; omega⟩
      have hx := idB_iff.1 hi
      obtain ⟨q1, q2, q3, ok, hP⟩ := ipR_ex d2 x a b x a ((-b) % (2 * a))
      obtain ⟨hok, hq⟩ := ic_law hx hP hc hp
      have HC := Lib.hid (fun w => ConjugateIdeal_any d2 x a b w hi)
      have HN := Lib.hid (fun w => IdealNorm_any d2 x a b w hi)
      have HI := Lib.hid (fun w => implIP_R w hP)
      have HU := Lib.hid (fun w => UnitIdeal_any d2 w hx.dc)
      have HQ := Lib.hid hq
      clear hi hc hp hx hP HV hq
      generalize (-b) % (2 * a) = r at *
      generalize x * x * a = n at *
      generalize d2 % 2 = s at *
      go_wp2_with fail
      refine (HC.out _).mono ?_
      rintro e v24 ⟨rfl, hc24⟩
      have hz24 := hc24.size
      (try simp at hz24)
      have hU24 : Blk v24 (v21.heap.size) 25 #[.int .i64 x, .int .i64 a, .int .i64 b] := Blk.call (by (repeat (first | with_reducible assumption | (with_reducible apply Blk.new_at; (first | rfl | (simp; done))) | with_reducible apply Blk.store3 | with_reducible apply Blk.store4 | (with_reducible apply Blk.farp; (first | omega | (simp <;> omega))) | with_reducible apply Blk.allocp | with_reducible apply Blk.drew | with_reducible apply Blk.drewN))) hc24
      have cU24 := hU24.cell; have fU24 := hU24.frozen; have lU24 := hU24.lt; have mU24 := Nat.ne_of_gt lU24; have nU24 := Nat.ne_of_lt lU24
      have hb24 : Below w.heap.size w v24 := (by repeat (first | with_reducible exact Below.refl _ _ | with_reducible assumption | with_reducible apply Below.drew | with_reducible apply below_drewN | (with_reducible apply below_setp; (first | omega | (simp <;> omega))) | (with_reducible apply below_allocp; (first | omega | (simp <;> omega))) | (with_reducible refine below_viap (by assumption) ?_ ?_; (first | omega | (simp <;> omega)))))
      clear hU23 cU23 fU23 lU23 mU23 nU23
      go_wp2_with fail
      refine (HN.out _).mono ?_
      rintro e v25 ⟨rfl, hc25⟩
      have hz25 := hc25.size
      (try simp at hz25)
      have hU25 : Blk v25 (v21.heap.size) 25 #[.int .i64 x, .int .i64 a, .int .i64 b] := Blk.call (by (repeat (first | with_reducible assumption | (with_reducible apply Blk.new_at; (first | rfl | (simp; done))) | with_reducible apply Blk.store3 | with_reducible apply Blk.store4 | (with_reducible apply Blk.farp; (first | omega | (simp <;> omega))) | with_reducible apply Blk.allocp | with_reducible apply Blk.drew | with_reducible apply Blk.drewN))) hc25
      have cU25 := hU25.cell; have fU25 := hU25.frozen; have lU25 := hU25.lt; have mU25 := Nat.ne_of_gt lU25; have nU25 := Nat.ne_of_lt lU25
      have hV25 : Blk v25 (v24.heap.size) 25 #[.int .i64 x, .int .i64 a, .int .i64 r] := Blk.call (by (repeat (first | with_reducible assumption | (with_reducible apply Blk.new_at; (first | rfl | (simp; done))) | with_reducible apply Blk.store3 | with_reducible apply Blk.store4 | (with_reducible apply Blk.farp; (first | omega | (simp <;> omega))) | with_reducible apply Blk.allocp | with_reducible apply Blk.drew | with_reducible apply Blk.drewN))) hc25
      have cV25 := hV25.cell; have fV25 := hV25.frozen; have lV25 := hV25.lt; have mV25 := Nat.ne_of_gt lV25; have nV25 := Nat.ne_of_lt lV25
      have hb25 : Below w.heap.size w v25 := (by repeat (first | with_reducible exact Below.refl _ _ | with_reducible assumption | with_reducible apply Below.drew | with_reducible apply below_drewN | (with_reducible apply below_setp; (first | omega | (simp <;> omega))) | (with_reducible apply below_allocp; (first | omega | (simp <;> omega))) | (with_reducible refine below_viap (by assumption) ?_ ?_; (first | omega | (simp <;> omega)))))
      clear hU24 cU24 fU24 lU24 mU24 nU24
      go_wp2_with fail
      refine (HI.out _).mono ?_
      rintro e v26 ⟨rfl, hc26⟩
      have hz26 := hc26.size
      (try simp at hz26)
      have hU26 : Blk v26 (v21.heap.size) 25 #[.int .i64 x, .int .i64 a, .int .i64 b] := Blk.call (by (repeat (first | with_reducible assumption | (with_reducible apply Blk.new_at; (first | rfl | (simp; done))) | with_reducible apply Blk.store3 | with_reducible apply Blk.store4 | (with_reducible apply Blk.farp; (first | omega | (simp <;> omega))) | with_reducible apply Blk.allocp | with_reducible apply Blk.drew | with_reducible apply Blk.drewN))) hc26
      have cU26 := hU26.cell; have fU26 := hU26.frozen; have lU26 := hU26.lt; have mU26 := Nat.ne_of_gt lU26; have nU26 := Nat.ne_of_lt lU26
      have hV26 : Blk v26 (v24.heap.size) 25 #[.int .i64 x, .int .i64 a, .int .i64 r] := Blk.call (by (repeat (first | with_reducible assumption | (with_reducible apply Blk.new_at; (first | rfl | (simp; done))) | with_reducible apply Blk.store3 | with_reducible apply Blk.store4 | (with_reducible apply Blk.farp; (first | omega | (simp <;> omega))) | with_reducible apply Blk.allocp | with_reducible apply Blk.drew | with_reducible apply Blk.drewN))) hc26
      have cV26 := hV26.cell; have fV26 := hV26.frozen; have lV26 := hV26.lt; have mV26 := Nat.ne_of_gt lV26; have nV26 := Nat.ne_of_lt lV26
      have hb26 : Below w.heap.size w v26 := (by repeat (first | with_reducible exact Below.refl _ _ | with_reducible assumption | with_reducible apply Below.drew | with_reducible apply below_drewN | (with_reducible apply below_setp; (first | omega | (simp <;> omega))) | (with_reducible apply below_allocp; (first | omega | (simp <;> omega))) | (with_reducible refine below_viap (by assumption) ?_ ?_; (first | omega | (simp <;> omega)))))
      clear hU25 cU25 fU25 lU25 mU25 nU25 hV25 cV25 fV25 lV25 mV25 nV25
      by_cases h9 : n ≤ 10000
      · rw [decide_eq_true h9] at hok
        subst hok
        obtain ⟨rfl, rfl, rfl⟩ := HQ.out rfl
        clear HQ HC HN HI
        go_wp2_with fail
        refine (HU.out _).mono ?_
        rintro e v27 ⟨rfl, hc27⟩
        have hz27 := hc27.size
        (try simp at hz27)
        have hU27 : Blk v27 (v21.heap.size) 25 #[.int .i64 x, .int .i64 a, .int .i64 b] := Blk.call (by (repeat (first | with_reducible assumption | (with_reducible apply Blk.new_at; (first | rfl | (simp; done))) | with_reducible apply Blk.store3 | with_reducible apply Blk.store4 | (with_reducible apply Blk.farp; (first | omega | (simp <;> omega))) | with_reducible apply Blk.allocp | with_reducible apply Blk.drew | with_reducible apply Blk.drewN))) hc27
        have cU27 := hU27.cell; have fU27 := hU27.frozen; have lU27 := hU27.lt; have mU27 := Nat.ne_of_gt lU27; have nU27 := Nat.ne_of_lt lU27
        have hV27 : Blk v27 (v24.heap.size) 25 #[.int .i64 x, .int .i64 a, .int .i64 r] := Blk.call (by (repeat (first | with_reducible assumption | (with_reducible apply Blk.new_at; (first | rfl | (simp; done))) | with_reducible apply Blk.store3 | with_reducible apply Blk.store4 | (with_reducible apply Blk.farp; (first | omega | (simp <;> omega))) | with_reducible apply Blk.allocp | with_reducible apply Blk.drew | with_reducible apply Blk.drewN))) hc27
        have cV27 := hV27.cell; have fV27 := hV27.frozen; have lV27 := hV27.lt; have mV27 := Nat.ne_of_gt lV27; have nV27 := Nat.ne_of_lt lV27
        have hP27 : Blk v27 (v26.heap.size) 25 #[.int .i64 q1, .int .i64 1, .int .i64 q3] := Blk.call (by (repeat (first | with_reducible assumption | (with_reducible apply Blk.new_at; (first | rfl | (simp; done))) | with_reducible apply Blk.store3 | with_reducible apply Blk.store4 | (with_reducible apply Blk.farp; (first | omega | (simp <;> omega))) | with_reducible apply Blk.allocp | with_reducible apply Blk.drew | with_reducible apply Blk.drewN))) hc27
        have cP27 := hP27.cell; have fP27 := hP27.frozen; have lP27 := hP27.lt; have mP27 := Nat.ne_of_gt lP27; have nP27 := Nat.ne_of_lt lP27
        have hb27 : Below w.heap.size w v27 := (by repeat (first | with_reducible exact Below.refl _ _ | with_reducible assumption | with_reducible apply Below.drew | with_reducible apply below_drewN | (with_reducible apply below_setp; (first | omega | (simp <;> omega))) | (with_reducible apply below_allocp; (first | omega | (simp <;> omega))) | (with_reducible refine below_viap (by assumption) ?_ ?_; (first | omega | (simp <;> omega)))))
        clear hU26 cU26 fU26 lU26 mU26 nU26 hV26 cV26 fV26 lV26 mV26 nV26
        clear HU
        go_wp2
        go_ret
        exact ⟨rfl, (by repeat (first | with_reducible exact Below.refl _ _ | with_reducible assumption | with_reducible apply Below.drew | with_reducible apply below_drewN | (with_reducible apply below_setp; (first | omega | (simp <;> omega))) | (with_reducible apply below_allocp; (first | omega | (simp <;> omega))) | (with_reducible refine below_viap (by assumption) ?_ ?_; (first | omega | (simp <;> omega)))))⟩
      · rw [decide_eq_false h9] at hok
        subst hok
        clear HQ HC HN HI HU
        go_wp2
        go_ret
        exact ⟨rfl, (by repeat (first | with_reducible exact Below.refl _ _ | with_reducible assumption | with_reducible apply Below.drew | with_reducible apply below_drewN | (with_reducible apply below_setp; (first | omega | (simp <;> omega))) | (with_reducible apply below_allocp; (first | omega | (simp <;> omega))) | (with_reducible refine below_viap (by assumption) ?_ ?_; (first | omega | (simp <;> omega)))))⟩
  · have Hb := Lib.hid (fun w => big_yes A A2 zs.length es.length c1' c2' w hbig)
    clear HZ HY hbig
    go_enter Try.func3, Try.ntmps3
    go_wp2_with (go_at_call 6; (with_reducible refine (Hb.out _).mono ?_); rintro e v ⟨rfl, rfl⟩)
    go_ret
    exact ⟨rfl, (by repeat (first | with_reducible exact Below.refl _ _ | with_reducible assumption | with_reducible apply Below.drew | with_reducible apply below_drewN | (with_reducible apply below_setp; (first | omega | (simp <;> omega))) | (with_reducible apply below_allocp; (first | omega | (simp <;> omega))) | (with_reducible refine below_viap (by assumption) ?_ ?_; (first | omega | (simp <;> omega)))))⟩
theorem own_FnIdealProducts : ownKnob Try.prog.godebug = none := by kernel_rfl

set_option maxRecDepth 100000 in
theorem lifted_FnIdealProducts (os : Os) (started : os.Started) (H : Type) (enc : TypeId × Value → H) :
    ReturnsInHanded {} Try.checked os 3 .any (Rows.fnIdealProductsSpec.pre6 enc Try.prog Try.f3 Rows.fnIdealProductsRow.domain false) (Rows.fnIdealProductsSpec.post enc Try.prog Try.f3 false true false false) := by
  refine returnsInHanded_of_change (C := Try.checked) own_FnIdealProducts started (by kernel_rfl) Try.func3
    (ChangeSpec.witness6 (enc := enc) (C := Try.checked) false ⟨#[], #[.slice none 0 0, .slice none 0 0], []⟩ 8 (by kernel_rfl) (by kernel_rfl) (by kernel_rfl) (by kernel_rfl)) ?_
  intro W base args ds gs before hval0 hW hcnd _
  have hval : ∀ (j : Nat) t v, Try.f3.params[j]? = some t → args[j]? = some v → Value.okWide Try.prog W .any base t v := hval0
  have hW' := hW
  obtain ⟨p, q, hA0, hV, rfl, hfz, hnd⟩ := hW
  have hA : DataW.TrodAll enc Try.prog W 0 (fun _ => true) true Try.f3.params.toList args.toList ds p := hA0
  rw [Try.params3] at hA hval
  obtain ⟨v1, vs1, d1, ds1, p1, q1, hargs, rfl, rfl, h1, r1⟩ := trodAll_cons hA
  obtain ⟨v2, vs2, d2, ds2, p2, q2, rfl, rfl, rfl, h2, r2⟩ := trodAll_cons r1
  obtain ⟨rfl, rfl, rfl⟩ := trodAll_nil r2
  obtain rfl : args = #[v1, v2] := by cases args; simp_all
  obtain ⟨rfl, rfl⟩ := trodVars_none hV
  obtain ⟨zs, hrd⟩ := open_reB (hval 0 22 v1 rfl rfl) h1
  obtain ⟨es, hre⟩ := open_reB (hval 1 22 v2 rfl rfl) h2
  have hlt1 : ∀ x ∈ p1, x.block < W.heap.size := fun x hx => hW'.lt x (by simp [hx])
  have hlt2 : ∀ x ∈ p2, x.block < W.heap.size := fun x hx => hW'.lt x (by simp [hx])
  clear hA0 hval0
  refine (walk_FnIdealProducts zs es v1 v2 W hrd hre).mono fun e W' ⟨he, hg⟩ => ?_
  subst he
  exact ⟨_, rfl, post_of_below (pa := p1 ++ (p2 ++ [])) (pv := []) hW' (fun _ _ _ => (trodAll_cons_mk (shut_bool Try.underlying4 _) trodAll_mk0)) (fun sp hsp => (trodAll_cons_mk (WideElems.Trod_stays laid_D3 (by kernel_rfl) (of_decide_eq_true (by kernel_rfl)) h1 (fun x hx => hg.same (hlt1 x hx)) (fun x hx => hsp x (by simp [hx]))) (trodAll_cons_mk (WideElems.Trod_stays laid_D3 (by kernel_rfl) (of_decide_eq_true (by kernel_rfl)) h2 (fun x hx => hg.same (hlt2 x hx)) (fun x hx => hsp x (by simp [hx]))) trodAll_mk0))) (fun _ _ => rfl) rfl
    hg (ok_one (by kernel_rfl) rfl (okWide_bool_mk Try.underlying4 _))⟩

theorem and2_FnIdealProducts {a b : Bool} (h : a = true) (k : b = true) : (a && b) = true := by rw [h, k]; rfl
set_option maxRecDepth 100000 in
theorem cl0_FnIdealProducts : (Rows.fnIdealProductsRow.wf (OpenSpec.ofChange Rows.fnIdealProductsSpec)) = true := by kernel_rfl
set_option maxRecDepth 100000 in
theorem cl1_FnIdealProducts : (laidOutB Try.pinned.checked.prog) = true := by kernel_rfl
set_option maxRecDepth 100000 in
theorem cl2_FnIdealProducts : (mapsRowed Try.pinned.checked.prog) = true := by kernel_rfl
set_option maxRecDepth 100000 in
theorem cl3_FnIdealProducts : (Try.f3.params.all (Try.pinned.checked.prog.readableRec ·)) = true := by kernel_rfl
set_option maxRecDepth 100000 in
theorem cl4_FnIdealProducts : (namedTie Try.pinned.checked.prog Rows.fnIdealProductsRow.named Rows.fnIdealProductsSpec.vars) = true := by kernel_rfl
set_option maxRecDepth 100000 in
theorem cl5_FnIdealProducts : (Rows.fnIdealProductsRow.stops == []) = true := by kernel_rfl
set_option maxRecDepth 100000 in
theorem cl6_FnIdealProducts : (Try.pinned.checked.prog.stops == []) = true := by kernel_rfl
set_option maxRecDepth 100000 in
theorem cl7_FnIdealProducts : (Rows.fnIdealProductsRow.knobs == []) = true := by kernel_rfl
set_option maxRecDepth 100000 in
theorem cl8_FnIdealProducts : (Try.pinned.checked.prog.stopKnobs == []) = true := by kernel_rfl
set_option maxRecDepth 100000 in
theorem cl9_FnIdealProducts : (Rows.fnIdealProductsRow.inPlace == Try.pinned.checked.prog.inPlace 3) = true := by kernel_rfl
set_option maxRecDepth 100000 in
theorem cl10_FnIdealProducts : (Rows.fnIdealProductsRow.unfollowed == Try.pinned.checked.prog.unfollowed 3) = true := by kernel_rfl
set_option maxRecDepth 100000 in
theorem cl11_FnIdealProducts : (Rows.fnIdealProductsRow.recurses == Try.pinned.checked.prog.recurses 3) = true := by kernel_rfl
set_option maxRecDepth 100000 in
theorem cl12_FnIdealProducts : (Rows.fnIdealProductsRow.named == Try.pinned.checked.prog.varsNamed 3) = true := by kernel_rfl
set_option maxRecDepth 100000 in
theorem cl13_FnIdealProducts : (Rows.fnIdealProductsRow.maps == (Try.f3.params.toList ++ Rows.fnIdealProductsSpec.plain.varTypes Try.pinned.checked.prog).any (Try.pinned.checked.prog.mapsRec ·)) = true := by kernel_rfl
set_option maxRecDepth 100000 in
theorem cl14_FnIdealProducts : (Rows.fnIdealProductsRow.ifaces == (Try.f3.params.toList ++ Rows.fnIdealProductsSpec.plain.varTypes Try.pinned.checked.prog).any (Try.pinned.checked.prog.ifacesRec ·)) = true := by kernel_rfl
set_option maxRecDepth 100000 in
theorem cl15_FnIdealProducts : (Rows.fnIdealProductsRow.mapsOut == Try.pinned.checked.prog.mapsAmong Try.f3.resultTypes.toList) = true := by kernel_rfl
set_option maxRecDepth 100000 in
theorem cl16_FnIdealProducts : (Rows.fnIdealProductsRow.loops == (Try.f3.params.toList ++ Rows.fnIdealProductsSpec.plain.varTypes Try.pinned.checked.prog).any (Try.pinned.checked.prog.loopsFrom ·)) = true := by kernel_rfl
set_option maxRecDepth 100000 in
theorem cl17_FnIdealProducts : (Rows.fnIdealProductsRow.wideKeys == (Try.f3.params.toList ++ Rows.fnIdealProductsSpec.plain.varTypes Try.pinned.checked.prog ++ Try.f3.resultTypes.toList).any (Try.pinned.checked.prog.wideKeysFrom ·)) = true := by kernel_rfl
set_option maxRecDepth 100000 in
theorem cl18_FnIdealProducts : (Rows.fnIdealProductsSpec.vars.all (Try.pinned.checked.prog.varReadable ·)) = true := by kernel_rfl
set_option maxRecDepth 100000 in
theorem cl19_FnIdealProducts : (Try.f3.resultTypes.all (fun t => Try.pinned.checked.prog.readableRec t && decide (t < Try.pinned.checked.prog.types.size))) = true := by kernel_rfl
set_option maxRecDepth 100000 in
theorem cl20_FnIdealProducts : (Rows.fnIdealProductsRow.ifacesOut == Try.f3.resultTypes.toList.any (Try.pinned.checked.prog.ifacesRec ·)) = true := by kernel_rfl
set_option maxRecDepth 100000 in
theorem cl21_FnIdealProducts : (Rows.fnIdealProductsRow.loopsOut == Try.f3.resultTypes.toList.any (Try.pinned.checked.prog.loopsFrom ·)) = true := by kernel_rfl
set_option maxRecDepth 100000 in
theorem cl22_FnIdealProducts : (Rows.fnIdealProductsRow.plainKeys == Try.pinned.checked.prog.plainKeys) = true := by kernel_rfl
set_option maxRecDepth 100000 in
theorem cl23_FnIdealProducts : (Rows.fnIdealProductsRow.shortTexts.isNone) = true := by kernel_rfl
set_option maxRecDepth 100000 in
theorem cl24_FnIdealProducts : (Try.pinned.checked.prog.stopsHeard) = true := by kernel_rfl
set_option maxRecDepth 100000 in
theorem cl25_FnIdealProducts : (Try.pinned.checked.prog.mayEnter) = true := by kernel_rfl
set_option maxRecDepth 100000 in
theorem cl26_FnIdealProducts : (Rows.fnIdealProductsRow.lifted == Try.pinned.checked.prog.liftsFinal) = true := by kernel_rfl
set_option maxRecDepth 100000 in
theorem cl27_FnIdealProducts : (Try.pinned.checked.prog.make == some Rows.fnIdealProductsRow.make) = true := by kernel_rfl
set_option maxRecDepth 100000 in
theorem cl28_FnIdealProducts : (Rows.fnIdealProductsRow.kinds == (if Rows.fnIdealProductsRow.domain.isEmpty then [] else Try.f3.params.toList.map fun t => match Try.pinned.checked.prog.underlying t with | some (.int k) => some k | _ => none)) = true := by kernel_rfl
set_option maxRecDepth 100000 in
theorem cl29_FnIdealProducts : (Rows.fnIdealProductsRow.pinned == Rows.fnIdealProductsRow.pinnedBy) = true := by kernel_rfl
set_option maxRecDepth 100000 in
theorem cl30_FnIdealProducts : (Rows.fnIdealProductsRow.veiled == (Try.f3.params.toList ++ Rows.fnIdealProductsSpec.plain.varTypes Try.pinned.checked.prog ++ Try.f3.resultTypes.toList).any (Try.pinned.checked.prog.veiledRec ·)) = true := by kernel_rfl
set_option maxRecDepth 100000 in
theorem cl31_FnIdealProducts : (Rows.fnIdealProductsRow.veiledFits Try.pinned.checked.prog Try.f3.params.toList (Try.f3.params.toList ++ Rows.fnIdealProductsSpec.plain.varTypes Try.pinned.checked.prog ++ Try.f3.resultTypes.toList)) = true := by kernel_rfl
set_option maxRecDepth 100000 in
theorem closed_FnIdealProducts : joinedFacts Try.pinned.checked.prog 3 Try.f3 Rows.fnIdealProductsSpec Rows.fnIdealProductsRow = true := (and2_FnIdealProducts (and2_FnIdealProducts (and2_FnIdealProducts (and2_FnIdealProducts (and2_FnIdealProducts (and2_FnIdealProducts (and2_FnIdealProducts (and2_FnIdealProducts (and2_FnIdealProducts (and2_FnIdealProducts (and2_FnIdealProducts (and2_FnIdealProducts (and2_FnIdealProducts (and2_FnIdealProducts (and2_FnIdealProducts (and2_FnIdealProducts (and2_FnIdealProducts (and2_FnIdealProducts (and2_FnIdealProducts (and2_FnIdealProducts (and2_FnIdealProducts (and2_FnIdealProducts (and2_FnIdealProducts (and2_FnIdealProducts (and2_FnIdealProducts (and2_FnIdealProducts (and2_FnIdealProducts (and2_FnIdealProducts (and2_FnIdealProducts (and2_FnIdealProducts (and2_FnIdealProducts cl0_FnIdealProducts cl1_FnIdealProducts) cl2_FnIdealProducts) cl3_FnIdealProducts) cl4_FnIdealProducts) cl5_FnIdealProducts) cl6_FnIdealProducts) cl7_FnIdealProducts) cl8_FnIdealProducts) cl9_FnIdealProducts) cl10_FnIdealProducts) cl11_FnIdealProducts) cl12_FnIdealProducts) cl13_FnIdealProducts) cl14_FnIdealProducts) cl15_FnIdealProducts) cl16_FnIdealProducts) cl17_FnIdealProducts) cl18_FnIdealProducts) cl19_FnIdealProducts) cl20_FnIdealProducts) cl21_FnIdealProducts) cl22_FnIdealProducts) cl23_FnIdealProducts) cl24_FnIdealProducts) cl25_FnIdealProducts) cl26_FnIdealProducts) cl27_FnIdealProducts) cl28_FnIdealProducts) cl29_FnIdealProducts) cl30_FnIdealProducts) cl31_FnIdealProducts)


/-- The statement. -/
theorem holds_FnIdealProducts : Rows.FnIdealProductsSaid :=
  OpenClaim.holds_of_wide 3 Try.f3 rfl rfl rfl rfl rfl rfl rfl ⟨rfl, rfl, rfl, rfl, rfl⟩ rfl rfl rfl rfl rfl (by kernel_rfl) Try.func3 closed_FnIdealProducts
    (of_decide_eq_true (by kernel_rfl)) (by unfold Func.isWrapper; first | (rw [if_pos (by decide +kernel)]; kernel_rfl) | (rw [if_neg (by decide +kernel)]; exact ⟨rfl, rfl⟩))
    (fun os started H enc _ => lifted_FnIdealProducts os started H enc)
#print axioms holds_FnIdealProducts
end Go.Proofs.Ytjjkndgokdofdaa
