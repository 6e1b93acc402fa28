/- FnWells returns true: for every drawn definite form, the descent from a node ends in a well, whose values are the first and last coefficient of the reduced form and their sum less the absolute value of the middle one. Conditions: none. -/
import Derived.Test.YtkpiiicefmkhcaaDQ
import Derived.Test.YtkpiiicefmkhcaaOL
import Derived.Test.YtkpiiicefmkhcaaW2
namespace Go.Proofs.Ytkpiiicefmkhcaa
open Go.RowKit Go.ChangeShapes Go.WideShapes Go.ChangeAt Go.Joins

theorem dtB_len {f : Fm} {n : Nd} : (dtL f n).length ≤ 1000 ∧ (dtB f n = true → isDefB f.a f.b f.c = true ∧ ndB n = true ∧ dtL f n = path f.a f.b f.c n) := by
  unfold dtL
  cases h : dtB f n with
  | false => simp
  | true =>
    have h' := h
    unfold dtB at h'
    simp only [Bool.and_eq_true, decide_eq_true_eq] at h'
    rw [if_pos rfl]
    exact ⟨h'.2.2, fun _ => ⟨h'.1, h'.2.1, rfl⟩⟩

set_option maxRecDepth 100000 in
set_option maxHeartbeats 25600000 in
theorem walk_FnWells (zs es : List Int) (v u : Value) (w : World) (hz : ReB zs v w) (he : ReB es u w) :
    Calls Try.prog 4 #[v, u] w fun e w' => e = .returned (.bool true) ∧ Below w.heap.size w w' := by
  have HZ := Lib.hid hz
  obtain ⟨A, c1', rfl⟩ := hz.shape
  obtain ⟨A2, c2', rfl⟩ := he.shape
  clear hz he
  by_cases hbig : zs.length ≤ 1048576 ∧ es.length ≤ 1048576 - zs.length
  · have Hb := Lib.hid (fun w => big_no A A2 zs.length es.length c1' c2' w hbig.1 hbig.2)
    have HR := Lib.hid (HZ.out.rd hbig.1)
    clear HZ hbig
    go_enter Try.func4, Try.ntmps4
    go_wp2_with (go_at_call 8; (with_reducible refine (Hb.out _).mono ?_); rintro e v ⟨rfl, rfl⟩)
    refine (drawDT_any zs _ _ _ HR.out (Nat.le_refl _)).mono ?_
    rintro e v1 ⟨f, a1, a2, b1, b2, c1, c2, rfl, hb1⟩
    have hz1 := hb1.size
    have HI := Lib.hid (fun w => implDT_any f a1 a2 b1 b2 c1 c2 w)
    have HS := Lib.hid (fun w => specDT_any f a1 a2 b1 b2 c1 c2 w)
    obtain ⟨hL0, hP⟩ := dtB_len (f := f) (n := ⟨(a1, a2), (b1, b2), (c1, c2)⟩)
    obtain ⟨L, hL⟩ : ∃ L, dtL f ⟨(a1, a2), (b1, b2), (c1, c2)⟩ = L := ⟨_, rfl⟩
    obtain ⟨ok, hok⟩ : ∃ ok, dtB f ⟨(a1, a2), (b1, b2), (c1, c2)⟩ = ok := ⟨_, rfl⟩
    rw [hL] at hL0 hP HI HS
    rw [hok] at hP HI HS
    have HP := Lib.hid hP
    have HL0 := Lib.hid hL0
    clear hL hok hP hL0 HR Hb
    go_wp2_with fail
    refine (HI.out _).mono ?_
    rintro e v2 ⟨vl, rfl, hl2, hc2⟩
    have hz2 := hc2.size
    (try simp at hz2)
    have hF2 : Blk v2 (v1.heap.size) 35 #[.int .i64 f.a, .int .i64 f.b, .int .i64 f.c] := Blk.call (by (repeat (first | with_reducible assumption | (with_reducible apply Blk.new_at; (first | rfl | (simp; done))) | with_reducible apply Blk.store3 | with_reducible apply Blk.store4 | (with_reducible apply Blk.farp; (first | omega | (simp <;> omega))) | with_reducible apply Blk.allocp | with_reducible apply Blk.drew | with_reducible apply Blk.drewN))) hc2
    have cF2 := hF2.cell; have fF2 := hF2.frozen; have lF2 := hF2.lt; have mF2 := Nat.ne_of_gt lF2; have nF2 := Nat.ne_of_lt lF2
    have hG2 : Blk v2 (v1.heap.size + 1) 39 #[.int .i64 a1, .int .i64 a2, .int .i64 b1, .int .i64 b2, .int .i64 c1, .int .i64 c2] := Blk.call (by (repeat (first | with_reducible assumption | (with_reducible apply Blk.new_at; (first | rfl | (simp; done))) | with_reducible apply Blk.store3 | with_reducible apply Blk.store4 | (with_reducible apply Blk.farp; (first | omega | (simp <;> omega))) | with_reducible apply Blk.allocp | with_reducible apply Blk.drew | with_reducible apply Blk.drewN))) hc2
    have cG2 := hG2.cell; have fG2 := hG2.frozen; have lG2 := hG2.lt; have mG2 := Nat.ne_of_gt lG2; have nG2 := Nat.ne_of_lt lG2
    have hb2 : Below w.heap.size w v2 := (by repeat (first | with_reducible exact Below.refl _ _ | with_reducible assumption | with_reducible apply Below.drew | with_reducible apply below_drewN | (with_reducible apply below_setp; (first | omega | (simp <;> omega))) | (with_reducible apply below_allocp; (first | omega | (simp <;> omega))) | (with_reducible refine below_viap (by assumption) ?_ ?_; (first | omega | (simp <;> omega)))))
    obtain ⟨bl, cl, rfl⟩ := own_shape hl2
    go_wp2_with fail
    refine (HS.out _).mono ?_
    rintro e v3 ⟨vm, rfl, hm3, hc3⟩
    have hz3 := hc3.size
    (try simp at hz3)
    have hF3 : Blk v3 (v1.heap.size) 35 #[.int .i64 f.a, .int .i64 f.b, .int .i64 f.c] := Blk.call (by (repeat (first | with_reducible assumption | (with_reducible apply Blk.new_at; (first | rfl | (simp; done))) | with_reducible apply Blk.store3 | with_reducible apply Blk.store4 | (with_reducible apply Blk.farp; (first | omega | (simp <;> omega))) | with_reducible apply Blk.allocp | with_reducible apply Blk.drew | with_reducible apply Blk.drewN))) hc3
    have cF3 := hF3.cell; have fF3 := hF3.frozen; have lF3 := hF3.lt; have mF3 := Nat.ne_of_gt lF3; have nF3 := Nat.ne_of_lt lF3
    have hG3 : Blk v3 (v1.heap.size + 1) 39 #[.int .i64 a1, .int .i64 a2, .int .i64 b1, .int .i64 b2, .int .i64 c1, .int .i64 c2] := Blk.call (by (repeat (first | with_reducible assumption | (with_reducible apply Blk.new_at; (first | rfl | (simp; done))) | with_reducible apply Blk.store3 | with_reducible apply Blk.store4 | (with_reducible apply Blk.farp; (first | omega | (simp <;> omega))) | with_reducible apply Blk.allocp | with_reducible apply Blk.drew | with_reducible apply Blk.drewN))) hc3
    have cG3 := hG3.cell; have fG3 := hG3.frozen; have lG3 := hG3.lt; have mG3 := Nat.ne_of_gt lG3; have nG3 := Nat.ne_of_lt lG3
    have hl3 := own_call hc3 hl2
    have hb3 : Below w.heap.size w v3 := (by repeat (first | with_reducible exact Below.refl _ _ | with_reducible assumption | with_reducible apply Below.drew | with_reducible apply below_drewN | (with_reducible apply below_setp; (first | omega | (simp <;> omega))) | (with_reducible apply below_allocp; (first | omega | (simp <;> omega))) | (with_reducible refine below_viap (by assumption) ?_ ?_; (first | omega | (simp <;> omega)))))
    clear hF2 cF2 fF2 lF2 mF2 nF2 hG2 cG2 fG2 lG2 mG2 nG2 hl2
    obtain ⟨bm, cm, rfl⟩ := own_shape hm3
    have Hl := Lib.hid hl3
    have Hm := Lib.hid hm3
    obtain ⟨N, hN⟩ : ∃ N, L.length = N := ⟨_, rfl⟩
    have HN := Lib.hid hN
    have hN0 : N ≤ 1000 := by have := HL0.out; omega
    rw [hN]
    clear hl3 hm3 hN HI HS HL0
    go_wp2
    go_loopw [58] (fun vi wr => ∃ k : Nat, vi = .int .i64 k ∧ k ≤ N ∧ Below v3.heap.size v3 wr) (fun vi _ => N - (intOf vi).toNat)
    case atStart => exact ⟨0, rfl, Nat.zero_le _, Below.refl _ _⟩
    case round =>
      obtain ⟨k, rfl, hk, hbel⟩ := hrel
      have hzr := hbel.size
      have hFr : Blk wr v1.heap.size 35 #[.int .i64 f.a, .int .i64 f.b, .int .i64 f.c] := hF3.call hbel
      have cFr := hFr.cell; have fFr := hFr.frozen; have lFr := hFr.lt; have mFr := Nat.ne_of_gt lFr; have nFr := Nat.ne_of_lt lFr
      clear hF3 cF3 fF3 lF3 mF3 nF3 hG3 cG3 fG3 lG3 mG3 nG3
      have hown := Lib.hid (own_call hbel Hl.out)
      by_cases hlt : k < N
      · have hkL : k < L.length := by rw [HN.out]; exact hlt
        obtain ⟨g1, rfl, l1, d1, d2, d3, d4, d5, d6⟩ := own_elemN hown.out hkL
        obtain ⟨g2, rfl, l2, e1, e2, e3, e4, e5, e6⟩ := own_elemN (own_call hbel Hm.out) hkL
        generalize L[k] = y at *
        have l3 := Nat.ne_of_lt l1; have l4 := Nat.ne_of_lt l2
        have kI : (k : Int) < (N : Int) := by omega
        go_upto_region 11 with (fail)
        go_quiet (fail)
        go_wp2
        go_roundw
        case rel => exact ⟨k + 1, by go_num, hlt, (by repeat (first | with_reducible exact Below.refl _ _ | with_reducible assumption | with_reducible apply Below.drew | with_reducible apply below_drewN | (with_reducible apply below_setp; (first | omega | (simp <;> omega))) | (with_reducible apply below_allocp; (first | omega | (simp <;> omega))) | (with_reducible refine below_viap (by assumption) ?_ ?_; (first | omega | (simp <;> omega)))))⟩
        case measure => simp [intOf]; omega
      · obtain rfl : k = N := by omega
        have hkn : ¬ (k : Int) < (k : Int) := by omega
        cases ok with
        | false =>
          go_wp2
          go_ret
          exact ⟨rfl, (by repeat (first | with_reducible exact Below.refl _ _ | with_reducible assumption | with_reducible apply Below.drew | with_reducible apply below_drewN | (with_reducible apply below_setp; (first | omega | (simp <;> omega))) | (with_reducible apply below_allocp; (first | omega | (simp <;> omega))) | (with_reducible refine below_viap (by assumption) ?_ ?_; (first | omega | (simp <;> omega)))))⟩
        | true =>
          obtain ⟨hd, hn, rfl⟩ := HP.out rfl
          obtain ⟨T, hT⟩ := path_cons f.a f.b f.c ⟨(a1, a2), (b1, b2), (c1, c2)⟩
          have hlen := HN.out
          obtain ⟨j, rfl⟩ : ∃ j, k = j + 1 := ⟨k - 1, by rw [hT] at hlen; simp at hlen; omega⟩
          have hW := lstW_of hd hn (j := j) hlen.symm
          have hV := wvT_of hd hW
          have hjL : j < (path f.a f.b f.c ⟨(a1, a2), (b1, b2), (c1, c2)⟩).length := by omega
          obtain ⟨g1, rfl, l1, d1, d2, d3, d4, d5, d6⟩ := own_elemN hown.out hjL
          obtain ⟨⟨⟨m1, m2⟩, ⟨n1, n2⟩, ⟨o1, o2⟩⟩, hm⟩ : ∃ m, (path f.a f.b f.c ⟨(a1, a2), (b1, b2), (c1, c2)⟩)[j] = m := ⟨_, rfl⟩
          rw [hm] at hW hV d1 d2 d3 d4 d5 d6
          simp only at d1 d2 d3 d4 d5 d6 hV
          have HX1 := Lib.hid (fun w => implIW_w f.a f.b f.c m1 m2 n1 n2 o1 o2 w hd hW.nd hW.st)
          have HX2 := Lib.hid (fun w => implNV_w f.a f.b f.c m1 m2 n1 n2 o1 o2 w (idef_form hd) hW.nd)
          have HX3 := Lib.hid (fun w => implReduce_d f.a f.b f.c w hd (defB_def hd))
          have e0 : (⟨f.a, f.b, f.c⟩ : Fm) = f := rfl
          rw [e0] at HX3
          clear hW hd hn hm e0 hown Hl Hm HP hT HN
          clear hjL hlen
          generalize vF f.a f.b f.c (m1, m2) = VA at *
          generalize vF f.a f.b f.c (n1, n2) = VB at *
          generalize vF f.a f.b f.c (o1, o2) = VC at *
          generalize redM f M4.one = RM at *
          generalize red f = R at *
          obtain ⟨ra, rb, rc⟩ := R
          have HV := Lib.hid hV
          simp only at hV HX3
          clear hV
          have l3 := Nat.ne_of_lt l1
          have e7 : (((j : Int) + 1) == 0) = false := beq_eq_false_iff_ne.2 (by omega)
          go_wp2_with fail
          refine (HX1.out _).mono ?_
          rintro e v4 ⟨rfl, hc4⟩
          have hz4 := hc4.size
          (try simp at hz4)
          have hF4 : Blk v4 (v1.heap.size) 35 #[.int .i64 f.a, .int .i64 f.b, .int .i64 f.c] := Blk.call (by (repeat (first | with_reducible assumption | (with_reducible apply Blk.new_at; (first | rfl | (simp; done))) | with_reducible apply Blk.store3 | with_reducible apply Blk.store4 | (with_reducible apply Blk.farp; (first | omega | (simp <;> omega))) | with_reducible apply Blk.allocp | with_reducible apply Blk.drew | with_reducible apply Blk.drewN))) hc4
          have cF4 := hF4.cell; have fF4 := hF4.frozen; have lF4 := hF4.lt; have mF4 := Nat.ne_of_gt lF4; have nF4 := Nat.ne_of_lt lF4
          have hM4 : Blk v4 (wr.heap.size) 39 #[.int .i64 m1, .int .i64 m2, .int .i64 n1, .int .i64 n2, .int .i64 o1, .int .i64 o2] := Blk.call (by (repeat (first | with_reducible assumption | (with_reducible apply Blk.new_at; (first | rfl | (simp; done))) | with_reducible apply Blk.store3 | with_reducible apply Blk.store4 | (with_reducible apply Blk.farp; (first | omega | (simp <;> omega))) | with_reducible apply Blk.allocp | with_reducible apply Blk.drew | with_reducible apply Blk.drewN))) hc4
          have cM4 := hM4.cell; have fM4 := hM4.frozen; have lM4 := hM4.lt; have mM4 := Nat.ne_of_gt lM4; have nM4 := Nat.ne_of_lt lM4
          have hb4 : Below w.heap.size w v4 := (by repeat (first | with_reducible exact Below.refl _ _ | with_reducible assumption | with_reducible apply Below.drew | with_reducible apply below_drewN | (with_reducible apply below_setp; (first | omega | (simp <;> omega))) | (with_reducible apply below_allocp; (first | omega | (simp <;> omega))) | (with_reducible refine below_viap (by assumption) ?_ ?_; (first | omega | (simp <;> omega)))))
          clear d1 d2 d3 d4 d5 d6 e7 l3
          go_wp2_with fail
          refine (HX2.out _).mono ?_
          rintro e v5 ⟨rfl, hc5⟩
          have hz5 := hc5.size
          (try simp at hz5)
          have hF5 : Blk v5 (v1.heap.size) 35 #[.int .i64 f.a, .int .i64 f.b, .int .i64 f.c] := Blk.call (by (repeat (first | with_reducible assumption | (with_reducible apply Blk.new_at; (first | rfl | (simp; done))) | with_reducible apply Blk.store3 | with_reducible apply Blk.store4 | (with_reducible apply Blk.farp; (first | omega | (simp <;> omega))) | with_reducible apply Blk.allocp | with_reducible apply Blk.drew | with_reducible apply Blk.drewN))) hc5
          have cF5 := hF5.cell; have fF5 := hF5.frozen; have lF5 := hF5.lt; have mF5 := Nat.ne_of_gt lF5; have nF5 := Nat.ne_of_lt lF5
          have hM5 : Blk v5 (wr.heap.size) 39 #[.int .i64 m1, .int .i64 m2, .int .i64 n1, .int .i64 n2, .int .i64 o1, .int .i64 o2] := Blk.call (by (repeat (first | with_reducible assumption | (with_reducible apply Blk.new_at; (first | rfl | (simp; done))) | with_reducible apply Blk.store3 | with_reducible apply Blk.store4 | (with_reducible apply Blk.farp; (first | omega | (simp <;> omega))) | with_reducible apply Blk.allocp | with_reducible apply Blk.drew | with_reducible apply Blk.drewN))) hc5
          have cM5 := hM5.cell; have fM5 := hM5.frozen; have lM5 := hM5.lt; have mM5 := Nat.ne_of_gt lM5; have nM5 := Nat.ne_of_lt lM5
          have hb5 : Below w.heap.size w v5 := (by repeat (first | with_reducible exact Below.refl _ _ | with_reducible assumption | with_reducible apply Below.drew | with_reducible apply below_drewN | (with_reducible apply below_setp; (first | omega | (simp <;> omega))) | (with_reducible apply below_allocp; (first | omega | (simp <;> omega))) | (with_reducible refine below_viap (by assumption) ?_ ?_; (first | omega | (simp <;> omega)))))
          clear hF4 cF4 fF4 lF4 mF4 nF4 hM4 cM4 fM4 lM4 mM4 nM4
          go_wp2_with fail
          refine (HX3.out _).mono ?_
          rintro e v6 ⟨rfl, hc6⟩
          have hz6 := hc6.size
          (try simp at hz6)
          have hF6 : Blk v6 (v1.heap.size) 35 #[.int .i64 f.a, .int .i64 f.b, .int .i64 f.c] := Blk.call (by (repeat (first | with_reducible assumption | (with_reducible apply Blk.new_at; (first | rfl | (simp; done))) | with_reducible apply Blk.store3 | with_reducible apply Blk.store4 | (with_reducible apply Blk.farp; (first | omega | (simp <;> omega))) | with_reducible apply Blk.allocp | with_reducible apply Blk.drew | with_reducible apply Blk.drewN))) hc6
          have cF6 := hF6.cell; have fF6 := hF6.frozen; have lF6 := hF6.lt; have mF6 := Nat.ne_of_gt lF6; have nF6 := Nat.ne_of_lt lF6
          have hM6 : Blk v6 (wr.heap.size) 39 #[.int .i64 m1, .int .i64 m2, .int .i64 n1, .int .i64 n2, .int .i64 o1, .int .i64 o2] := Blk.call (by (repeat (first | with_reducible assumption | (with_reducible apply Blk.new_at; (first | rfl | (simp; done))) | with_reducible apply Blk.store3 | with_reducible apply Blk.store4 | (with_reducible apply Blk.farp; (first | omega | (simp <;> omega))) | with_reducible apply Blk.allocp | with_reducible apply Blk.drew | with_reducible apply Blk.drewN))) hc6
          have cM6 := hM6.cell; have fM6 := hM6.frozen; have lM6 := hM6.lt; have mM6 := Nat.ne_of_gt lM6; have nM6 := Nat.ne_of_lt lM6
          have hb6 : Below w.heap.size w v6 := (by repeat (first | with_reducible exact Below.refl _ _ | with_reducible assumption | with_reducible apply Below.drew | with_reducible apply below_drewN | (with_reducible apply below_setp; (first | omega | (simp <;> omega))) | (with_reducible apply below_allocp; (first | omega | (simp <;> omega))) | (with_reducible refine below_viap (by assumption) ?_ ?_; (first | omega | (simp <;> omega)))))
          clear hF5 cF5 fF5 lF5 mF5 nF5 hM5 cM5 fM5 lM5 mM5 nM5
          have hV := HV.out
          obtain ⟨⟨ba1, ba2⟩, ⟨bb1, bb2⟩, ⟨bc1, bc2⟩, ⟨ra1, ra2⟩, ⟨rc1, rc2⟩, ⟨rb1, rb2⟩, vs, iA, iB, iC, one⟩ := hV
          clear vs iA iB iC one HX1 HX2 HX3
          by_cases hrb : rb < 0
          · go_upto_region 26 with (fail)
            obtain ⟨t, ht⟩ : ∃ t, ra + rc + rb = t := ⟨_, rfl⟩
            have Hs : Hid (VA + VB + VC = ra + rc + t) := Lib.hid (by have := HV.out.sum; omega)
            have HA : Hid (VA = ra ∨ VA ≠ ra ∧ VA = rc ∨ VA ≠ ra ∧ VA ≠ rc ∧ VA = t) := Lib.hid (by have := HV.out.iA; omega)
            have HB : Hid (VB = ra ∨ VB ≠ ra ∧ VB = rc ∨ VB ≠ ra ∧ VB ≠ rc ∧ VB = t) := Lib.hid (by have := HV.out.iB; omega)
            have HC : Hid (VC = ra ∨ VC ≠ ra ∧ VC = rc ∨ VC ≠ ra ∧ VC ≠ rc ∧ VC = t) := Lib.hid (by have := HV.out.iC; omega)
            have HO : Hid (VA = ra ∨ VA ≠ ra ∧ VB = ra ∨ VA ≠ ra ∧ VB ≠ ra ∧ VC = ra) := Lib.hid (by have := HV.out.one; omega)
            have t1 : -4000000 ≤ t := by omega
            have t2 : t ≤ 4000000 := by omega
            rw [ht]
            clear ht HV hrb
            have e8 : ((VA + VB + VC) != (ra + rc + t)) = false := by rw [Hs.out, bne_self_eq_false]
            go_wp2
            go_loop [149] (fun vi => ∃ k : Nat, k ≤ 3 ∧ vi = .int .i64 k) (fun vi => 3 - (intOf vi).toNat)
            case atStart => exact ⟨0, by omega, rfl⟩
            case round =>
              obtain ⟨k, hk3, rfl⟩ := hrel
              clear e8
              rcases (show k = 0 ∨ k = 1 ∨ k = 2 ∨ k = 3 by omega) with rfl | rfl | rfl | rfl
              · rcases HA.out with q1 | ⟨q1, q2⟩ | ⟨q1, q2, q3⟩
                · have p1 : (VA != ra) = false := by rw [q1, bne_self_eq_false]
                  clear q1
                  go_wp2
                  go_round
                  case rel => exact ⟨1, by omega, by first | rfl | go_num⟩
                  case measure => simp [intOf] <;> omega
                · have p1 : (VA != ra) = true := by rw [bne_iff_ne]; exact q1
                  have p2 : (VA != rc) = false := by rw [q2, bne_self_eq_false]
                  clear q1 q2
                  go_wp2
                  go_round
                  case rel => exact ⟨1, by omega, by first | rfl | go_num⟩
                  case measure => simp [intOf] <;> omega
                · have p1 : (VA != ra) = true := by rw [bne_iff_ne]; exact q1
                  have p2 : (VA != rc) = true := by rw [bne_iff_ne]; exact q2
                  have p3 : (VA != t) = false := by rw [q3, bne_self_eq_false]
                  clear q1 q2 q3
                  go_wp2
                  go_round
                  case rel => exact ⟨1, by omega, by first | rfl | go_num⟩
                  case measure => simp [intOf] <;> omega
              · rcases HB.out with q1 | ⟨q1, q2⟩ | ⟨q1, q2, q3⟩
                · have p1 : (VB != ra) = false := by rw [q1, bne_self_eq_false]
                  clear q1
                  go_wp2
                  go_round
                  case rel => exact ⟨2, by omega, by first | rfl | go_num⟩
                  case measure => simp [intOf] <;> omega
                · have p1 : (VB != ra) = true := by rw [bne_iff_ne]; exact q1
                  have p2 : (VB != rc) = false := by rw [q2, bne_self_eq_false]
                  clear q1 q2
                  go_wp2
                  go_round
                  case rel => exact ⟨2, by omega, by first | rfl | go_num⟩
                  case measure => simp [intOf] <;> omega
                · have p1 : (VB != ra) = true := by rw [bne_iff_ne]; exact q1
                  have p2 : (VB != rc) = true := by rw [bne_iff_ne]; exact q2
                  have p3 : (VB != t) = false := by rw [q3, bne_self_eq_false]
                  clear q1 q2 q3
                  go_wp2
                  go_round
                  case rel => exact ⟨2, by omega, by first | rfl | go_num⟩
                  case measure => simp [intOf] <;> omega
              · rcases HC.out with q1 | ⟨q1, q2⟩ | ⟨q1, q2, q3⟩
                · have p1 : (VC != ra) = false := by rw [q1, bne_self_eq_false]
                  clear q1
                  go_wp2
                  go_round
                  case rel => exact ⟨3, by omega, by first | rfl | go_num⟩
                  case measure => simp [intOf] <;> omega
                · have p1 : (VC != ra) = true := by rw [bne_iff_ne]; exact q1
                  have p2 : (VC != rc) = false := by rw [q2, bne_self_eq_false]
                  clear q1 q2
                  go_wp2
                  go_round
                  case rel => exact ⟨3, by omega, by first | rfl | go_num⟩
                  case measure => simp [intOf] <;> omega
                · have p1 : (VC != ra) = true := by rw [bne_iff_ne]; exact q1
                  have p2 : (VC != rc) = true := by rw [bne_iff_ne]; exact q2
                  have p3 : (VC != t) = false := by rw [q3, bne_self_eq_false]
                  clear q1 q2 q3
                  go_wp2
                  go_round
                  case rel => exact ⟨3, by omega, by first | rfl | go_num⟩
                  case measure => simp [intOf] <;> omega
              · rcases HO.out with q1 | ⟨q1, q2⟩ | ⟨q1, q2, q3⟩
                · have p1 : (VA == ra) = true := by rw [beq_iff_eq]; exact q1
                  clear q1
                  go_wp2
                  go_ret
                  exact ⟨rfl, (by repeat (first | with_reducible exact Below.refl _ _ | with_reducible assumption | with_reducible apply Below.drew | with_reducible apply below_drewN | (with_reducible apply below_setp; (first | omega | (simp <;> omega))) | (with_reducible apply below_allocp; (first | omega | (simp <;> omega))) | (with_reducible refine below_viap (by assumption) ?_ ?_; (first | omega | (simp <;> omega)))))⟩
                · have p1 : (VA == ra) = false := beq_eq_false_iff_ne.2 q1
                  have p2 : (VB == ra) = true := by rw [beq_iff_eq]; exact q2
                  clear q1 q2
                  go_wp2
                  go_ret
                  exact ⟨rfl, (by repeat (first | with_reducible exact Below.refl _ _ | with_reducible assumption | with_reducible apply Below.drew | with_reducible apply below_drewN | (with_reducible apply below_setp; (first | omega | (simp <;> omega))) | (with_reducible apply below_allocp; (first | omega | (simp <;> omega))) | (with_reducible refine below_viap (by assumption) ?_ ?_; (first | omega | (simp <;> omega)))))⟩
                · have p1 : (VA == ra) = false := beq_eq_false_iff_ne.2 q1
                  have p2 : (VB == ra) = false := beq_eq_false_iff_ne.2 q2
                  have p3 : (VC == ra) = true := by rw [beq_iff_eq]; exact q3
                  clear q1 q2 q3
                  go_wp2
                  go_ret
                  exact ⟨rfl, (by repeat (first | with_reducible exact Below.refl _ _ | with_reducible assumption | with_reducible apply Below.drew | with_reducible apply below_drewN | (with_reducible apply below_setp; (first | omega | (simp <;> omega))) | (with_reducible apply below_allocp; (first | omega | (simp <;> omega))) | (with_reducible refine below_viap (by assumption) ?_ ?_; (first | omega | (simp <;> omega)))))⟩
          · go_upto_region 26 with (fail)
            obtain ⟨t, ht⟩ : ∃ t, ra + rc - rb = t := ⟨_, rfl⟩
            have Hs : Hid (VA + VB + VC = ra + rc + t) := Lib.hid (by have := HV.out.sum; omega)
            have HA : Hid (VA = ra ∨ VA ≠ ra ∧ VA = rc ∨ VA ≠ ra ∧ VA ≠ rc ∧ VA = t) := Lib.hid (by have := HV.out.iA; omega)
            have HB : Hid (VB = ra ∨ VB ≠ ra ∧ VB = rc ∨ VB ≠ ra ∧ VB ≠ rc ∧ VB = t) := Lib.hid (by have := HV.out.iB; omega)
            have HC : Hid (VC = ra ∨ VC ≠ ra ∧ VC = rc ∨ VC ≠ ra ∧ VC ≠ rc ∧ VC = t) := Lib.hid (by have := HV.out.iC; omega)
            have HO : Hid (VA = ra ∨ VA ≠ ra ∧ VB = ra ∨ VA ≠ ra ∧ VB ≠ ra ∧ VC = ra) := Lib.hid (by have := HV.out.one; omega)
            have t1 : -4000000 ≤ t := by omega
            have t2 : t ≤ 4000000 := by omega
            rw [ht]
            clear ht HV hrb
            have e8 : ((VA + VB + VC) != (ra + rc + t)) = false := by rw [Hs.out, bne_self_eq_false]
            go_wp2
            go_loop [149] (fun vi => ∃ k : Nat, k ≤ 3 ∧ vi = .int .i64 k) (fun vi => 3 - (intOf vi).toNat)
            case atStart => exact ⟨0, by omega, rfl⟩
            case round =>
              obtain ⟨k, hk3, rfl⟩ := hrel
              clear e8
              rcases (show k = 0 ∨ k = 1 ∨ k = 2 ∨ k = 3 by omega) with rfl | rfl | rfl | rfl
              · rcases HA.out with q1 | ⟨q1, q2⟩ | ⟨q1, q2, q3⟩
                · have p1 : (VA != ra) = false := by rw [q1, bne_self_eq_false]
                  clear q1
                  go_wp2
                  go_round
                  case rel => exact ⟨1, by omega, by first | rfl | go_num⟩
                  case measure => simp [intOf] <;> omega
                · have p1 : (VA != ra) = true := by rw [bne_iff_ne]; exact q1
                  have p2 : (VA != rc) = false := by rw [q2, bne_self_eq_false]
                  clear q1 q2
                  go_wp2
                  go_round
                  case rel => exact ⟨1, by omega, by first | rfl | go_num⟩
                  case measure => simp [intOf] <;> omega
                · have p1 : (VA != ra) = true := by rw [bne_iff_ne]; exact q1
                  have p2 : (VA != rc) = true := by rw [bne_iff_ne]; exact q2
                  have p3 : (VA != t) = false := by rw [q3, bne_self_eq_false]
                  clear q1 q2 q3
                  go_wp2
                  go_round
                  case rel => exact ⟨1, by omega, by first | rfl | go_num⟩
                  case measure => simp [intOf] <;> omega
              · rcases HB.out with q1 | ⟨q1, q2⟩ | ⟨q1, q2, q3⟩
                · have p1 : (VB != ra) = false := by rw [q1, bne_self_eq_false]
                  clear q1
                  go_wp2
                  go_round
                  case rel => exact ⟨2, by omega, by first | rfl | go_num⟩
                  case measure => simp [intOf] <;> omega
                · have p1 : (VB != ra) = true := by rw [bne_iff_ne]; exact q1
                  have p2 : (VB != rc) = false := by rw [q2, bne_self_eq_false]
                  clear q1 q2
                  go_wp2
                  go_round
                  case rel => exact ⟨2, by omega, by first | rfl | go_num⟩
                  case measure => simp [intOf] <;> omega
                · have p1 : (VB != ra) = true := by rw [bne_iff_ne]; exact q1
                  have p2 : (VB != rc) = true := by rw [bne_iff_ne]; exact q2
                  have p3 : (VB != t) = false := by rw [q3, bne_self_eq_false]
                  clear q1 q2 q3
                  go_wp2
                  go_round
                  case rel => exact ⟨2, by omega, by first | rfl | go_num⟩
                  case measure => simp [intOf] <;> omega
              · rcases HC.out with q1 | ⟨q1, q2⟩ | ⟨q1, q2, q3⟩
                · have p1 : (VC != ra) = false := by rw [q1, bne_self_eq_false]
                  clear q1
                  go_wp2
                  go_round
                  case rel => exact ⟨3, by omega, by first | rfl | go_num⟩
                  case measure => simp [intOf] <;> omega
                · have p1 : (VC != ra) = true := by rw [bne_iff_ne]; exact q1
                  have p2 : (VC != rc) = false := by rw [q2, bne_self_eq_false]
                  clear q1 q2
                  go_wp2
                  go_round
                  case rel => exact ⟨3, by omega, by first | rfl | go_num⟩
                  case measure => simp [intOf] <;> omega
                · have p1 : (VC != ra) = true := by rw [bne_iff_ne]; exact q1
                  have p2 : (VC != rc) = true := by rw [bne_iff_ne]; exact q2
                  have p3 : (VC != t) = false := by rw [q3, bne_self_eq_false]
                  clear q1 q2 q3
                  go_wp2
                  go_round
                  case rel => exact ⟨3, by omega, by first | rfl | go_num⟩
                  case measure => simp [intOf] <;> omega
              · rcases HO.out with q1 | ⟨q1, q2⟩ | ⟨q1, q2, q3⟩
                · have p1 : (VA == ra) = true := by rw [beq_iff_eq]; exact q1
                  clear q1
                  go_wp2
                  go_ret
                  exact ⟨rfl, (by repeat (first | with_reducible exact Below.refl _ _ | with_reducible assumption | with_reducible apply Below.drew | with_reducible apply below_drewN | (with_reducible apply below_setp; (first | omega | (simp <;> omega))) | (with_reducible apply below_allocp; (first | omega | (simp <;> omega))) | (with_reducible refine below_viap (by assumption) ?_ ?_; (first | omega | (simp <;> omega)))))⟩
                · have p1 : (VA == ra) = false := beq_eq_false_iff_ne.2 q1
                  have p2 : (VB == ra) = true := by rw [beq_iff_eq]; exact q2
                  clear q1 q2
                  go_wp2
                  go_ret
                  exact ⟨rfl, (by repeat (first | with_reducible exact Below.refl _ _ | with_reducible assumption | with_reducible apply Below.drew | with_reducible apply below_drewN | (with_reducible apply below_setp; (first | omega | (simp <;> omega))) | (with_reducible apply below_allocp; (first | omega | (simp <;> omega))) | (with_reducible refine below_viap (by assumption) ?_ ?_; (first | omega | (simp <;> omega)))))⟩
                · have p1 : (VA == ra) = false := beq_eq_false_iff_ne.2 q1
                  have p2 : (VB == ra) = false := beq_eq_false_iff_ne.2 q2
                  have p3 : (VC == ra) = true := by rw [beq_iff_eq]; exact q3
                  clear q1 q2 q3
                  go_wp2
                  go_ret
                  exact ⟨rfl, (by repeat (first | with_reducible exact Below.refl _ _ | with_reducible assumption | with_reducible apply Below.drew | with_reducible apply below_drewN | (with_reducible apply below_setp; (first | omega | (simp <;> omega))) | (with_reducible apply below_allocp; (first | omega | (simp <;> omega))) | (with_reducible refine below_viap (by assumption) ?_ ?_; (first | omega | (simp <;> omega)))))⟩
  · have Hb := Lib.hid (fun w => big_yes A A2 zs.length es.length c1' c2' w hbig)
    clear HZ hbig
    go_enter Try.func4, Try.ntmps4
    go_wp2_with (go_at_call 8; (with_reducible refine (Hb.out _).mono ?_); rintro e v ⟨rfl, rfl⟩)
    go_ret
    exact ⟨rfl, (by repeat (first | with_reducible exact Below.refl _ _ | with_reducible assumption | with_reducible apply Below.drew | with_reducible apply below_drewN | (with_reducible apply below_setp; (first | omega | (simp <;> omega))) | (with_reducible apply below_allocp; (first | omega | (simp <;> omega))) | (with_reducible refine below_viap (by assumption) ?_ ?_; (first | omega | (simp <;> omega)))))⟩
theorem own_FnWells : ownKnob Try.prog.godebug = none := by kernel_rfl

set_option maxRecDepth 100000 in
theorem lifted_FnWells (os : Os) (started : os.Started) (H : Type) (enc : TypeId × Value → H) :
    ReturnsInHanded {} Try.checked os 4 .any (Rows.fnWellsSpec.pre6 enc Try.prog Try.f4 Rows.fnWellsRow.domain false) (Rows.fnWellsSpec.post enc Try.prog Try.f4 false true false false) := by
  refine returnsInHanded_of_change (C := Try.checked) own_FnWells started (by kernel_rfl) Try.func4
    (ChangeSpec.witness6 (enc := enc) (C := Try.checked) false ⟨#[], #[.slice none 0 0, .slice none 0 0], []⟩ 8 (by kernel_rfl) (by kernel_rfl) (by kernel_rfl) (by kernel_rfl)) ?_
  intro W base args ds gs before hval0 hW hcnd _
  have hval : ∀ (j : Nat) t v, Try.f4.params[j]? = some t → args[j]? = some v → Value.okWide Try.prog W .any base t v := hval0
  have hW' := hW
  obtain ⟨p, q, hA0, hV, rfl, hfz, hnd⟩ := hW
  have hA : DataW.TrodAll enc Try.prog W 0 (fun _ => true) true Try.f4.params.toList args.toList ds p := hA0
  rw [Try.params4] at hA hval
  obtain ⟨v1, vs1, d1, ds1, p1, q1, hargs, rfl, rfl, h1, r1⟩ := trodAll_cons hA
  obtain ⟨v2, vs2, d2, ds2, p2, q2, rfl, rfl, rfl, h2, r2⟩ := trodAll_cons r1
  obtain ⟨rfl, rfl, rfl⟩ := trodAll_nil r2
  obtain rfl : args = #[v1, v2] := by cases args; simp_all
  obtain ⟨rfl, rfl⟩ := trodVars_none hV
  obtain ⟨zs, hrd⟩ := open_reB (hval 0 22 v1 rfl rfl) h1
  obtain ⟨es, hre⟩ := open_reB (hval 1 22 v2 rfl rfl) h2
  have hlt1 : ∀ x ∈ p1, x.block < W.heap.size := fun x hx => hW'.lt x (by simp [hx])
  have hlt2 : ∀ x ∈ p2, x.block < W.heap.size := fun x hx => hW'.lt x (by simp [hx])
  clear hA0 hval0
  refine (walk_FnWells zs es v1 v2 W hrd hre).mono fun e W' ⟨he, hg⟩ => ?_
  subst he
  exact ⟨_, rfl, post_of_below (pa := p1 ++ (p2 ++ [])) (pv := []) hW' (fun _ _ _ => (trodAll_cons_mk (shut_bool Try.underlying4 _) trodAll_mk0)) (fun sp hsp => (trodAll_cons_mk (WideElems.Trod_stays laid_D3 (by kernel_rfl) (of_decide_eq_true (by kernel_rfl)) h1 (fun x hx => hg.same (hlt1 x hx)) (fun x hx => hsp x (by simp [hx]))) (trodAll_cons_mk (WideElems.Trod_stays laid_D3 (by kernel_rfl) (of_decide_eq_true (by kernel_rfl)) h2 (fun x hx => hg.same (hlt2 x hx)) (fun x hx => hsp x (by simp [hx]))) trodAll_mk0))) (fun _ _ => rfl) rfl
    hg (ok_one (by kernel_rfl) rfl (okWide_bool_mk Try.underlying4 _))⟩

theorem and2_FnWells {a b : Bool} (h : a = true) (k : b = true) : (a && b) = true := by rw [h, k]; rfl
set_option maxRecDepth 100000 in
theorem cl0_FnWells : (Rows.fnWellsRow.wf (OpenSpec.ofChange Rows.fnWellsSpec)) = true := by kernel_rfl
set_option maxRecDepth 100000 in
theorem cl1_FnWells : (laidOutB Try.pinned.checked.prog) = true := by kernel_rfl
set_option maxRecDepth 100000 in
theorem cl2_FnWells : (mapsRowed Try.pinned.checked.prog) = true := by kernel_rfl
set_option maxRecDepth 100000 in
theorem cl3_FnWells : (Try.f4.params.all (Try.pinned.checked.prog.readableRec ·)) = true := by kernel_rfl
set_option maxRecDepth 100000 in
theorem cl4_FnWells : (namedTie Try.pinned.checked.prog Rows.fnWellsRow.named Rows.fnWellsSpec.vars) = true := by kernel_rfl
set_option maxRecDepth 100000 in
theorem cl5_FnWells : (Rows.fnWellsRow.stops == []) = true := by kernel_rfl
set_option maxRecDepth 100000 in
theorem cl6_FnWells : (Try.pinned.checked.prog.stops == []) = true := by kernel_rfl
set_option maxRecDepth 100000 in
theorem cl7_FnWells : (Rows.fnWellsRow.knobs == []) = true := by kernel_rfl
set_option maxRecDepth 100000 in
theorem cl8_FnWells : (Try.pinned.checked.prog.stopKnobs == []) = true := by kernel_rfl
set_option maxRecDepth 100000 in
theorem cl9_FnWells : (Rows.fnWellsRow.inPlace == Try.pinned.checked.prog.inPlace 4) = true := by kernel_rfl
set_option maxRecDepth 100000 in
theorem cl10_FnWells : (Rows.fnWellsRow.unfollowed == Try.pinned.checked.prog.unfollowed 4) = true := by kernel_rfl
set_option maxRecDepth 100000 in
theorem cl11_FnWells : (Rows.fnWellsRow.recurses == Try.pinned.checked.prog.recurses 4) = true := by kernel_rfl
set_option maxRecDepth 100000 in
theorem cl12_FnWells : (Rows.fnWellsRow.named == Try.pinned.checked.prog.varsNamed 4) = true := by kernel_rfl
set_option maxRecDepth 100000 in
theorem cl13_FnWells : (Rows.fnWellsRow.maps == (Try.f4.params.toList ++ Rows.fnWellsSpec.plain.varTypes Try.pinned.checked.prog).any (Try.pinned.checked.prog.mapsRec ·)) = true := by kernel_rfl
set_option maxRecDepth 100000 in
theorem cl14_FnWells : (Rows.fnWellsRow.ifaces == (Try.f4.params.toList ++ Rows.fnWellsSpec.plain.varTypes Try.pinned.checked.prog).any (Try.pinned.checked.prog.ifacesRec ·)) = true := by kernel_rfl
set_option maxRecDepth 100000 in
theorem cl15_FnWells : (Rows.fnWellsRow.mapsOut == Try.pinned.checked.prog.mapsAmong Try.f4.resultTypes.toList) = true := by kernel_rfl
set_option maxRecDepth 100000 in
theorem cl16_FnWells : (Rows.fnWellsRow.loops == (Try.f4.params.toList ++ Rows.fnWellsSpec.plain.varTypes Try.pinned.checked.prog).any (Try.pinned.checked.prog.loopsFrom ·)) = true := by kernel_rfl
set_option maxRecDepth 100000 in
theorem cl17_FnWells : (Rows.fnWellsRow.wideKeys == (Try.f4.params.toList ++ Rows.fnWellsSpec.plain.varTypes Try.pinned.checked.prog ++ Try.f4.resultTypes.toList).any (Try.pinned.checked.prog.wideKeysFrom ·)) = true := by kernel_rfl
set_option maxRecDepth 100000 in
theorem cl18_FnWells : (Rows.fnWellsSpec.vars.all (Try.pinned.checked.prog.varReadable ·)) = true := by kernel_rfl
set_option maxRecDepth 100000 in
theorem cl19_FnWells : (Try.f4.resultTypes.all (fun t => Try.pinned.checked.prog.readableRec t && decide (t < Try.pinned.checked.prog.types.size))) = true := by kernel_rfl
set_option maxRecDepth 100000 in
theorem cl20_FnWells : (Rows.fnWellsRow.ifacesOut == Try.f4.resultTypes.toList.any (Try.pinned.checked.prog.ifacesRec ·)) = true := by kernel_rfl
set_option maxRecDepth 100000 in
theorem cl21_FnWells : (Rows.fnWellsRow.loopsOut == Try.f4.resultTypes.toList.any (Try.pinned.checked.prog.loopsFrom ·)) = true := by kernel_rfl
set_option maxRecDepth 100000 in
theorem cl22_FnWells : (Rows.fnWellsRow.plainKeys == Try.pinned.checked.prog.plainKeys) = true := by kernel_rfl
set_option maxRecDepth 100000 in
theorem cl23_FnWells : (Rows.fnWellsRow.shortTexts.isNone) = true := by kernel_rfl
set_option maxRecDepth 100000 in
theorem cl24_FnWells : (Try.pinned.checked.prog.stopsHeard) = true := by kernel_rfl
set_option maxRecDepth 100000 in
theorem cl25_FnWells : (Try.pinned.checked.prog.mayEnter) = true := by kernel_rfl
set_option maxRecDepth 100000 in
theorem cl26_FnWells : (Rows.fnWellsRow.lifted == Try.pinned.checked.prog.liftsFinal) = true := by kernel_rfl
set_option maxRecDepth 100000 in
theorem cl27_FnWells : (Try.pinned.checked.prog.make == some Rows.fnWellsRow.make) = true := by kernel_rfl
set_option maxRecDepth 100000 in
theorem cl28_FnWells : (Rows.fnWellsRow.kinds == (if Rows.fnWellsRow.domain.isEmpty then [] else Try.f4.params.toList.map fun t => match Try.pinned.checked.prog.underlying t with | some (.int k) => some k | _ => none)) = true := by kernel_rfl
set_option maxRecDepth 100000 in
theorem cl29_FnWells : (Rows.fnWellsRow.pinned == Rows.fnWellsRow.pinnedBy) = true := by kernel_rfl
set_option maxRecDepth 100000 in
theorem cl30_FnWells : (Rows.fnWellsRow.veiled == (Try.f4.params.toList ++ Rows.fnWellsSpec.plain.varTypes Try.pinned.checked.prog ++ Try.f4.resultTypes.toList).any (Try.pinned.checked.prog.veiledRec ·)) = true := by kernel_rfl
set_option maxRecDepth 100000 in
theorem cl31_FnWells : (Rows.fnWellsRow.veiledFits Try.pinned.checked.prog Try.f4.params.toList (Try.f4.params.toList ++ Rows.fnWellsSpec.plain.varTypes Try.pinned.checked.prog ++ Try.f4.resultTypes.toList)) = true := by kernel_rfl
set_option maxRecDepth 100000 in
theorem closed_FnWells : joinedFacts Try.pinned.checked.prog 4 Try.f4 Rows.fnWellsSpec Rows.fnWellsRow = true := (and2_FnWells (and2_FnWells (and2_FnWells (and2_FnWells (and2_FnWells (and2_FnWells (and2_FnWells (and2_FnWells (and2_FnWells (and2_FnWells (and2_FnWells (and2_FnWells (and2_FnWells (and2_FnWells (and2_FnWells (and2_FnWells (and2_FnWells (and2_FnWells (and2_FnWells (and2_FnWells (and2_FnWells (and2_FnWells (and2_FnWells (and2_FnWells (and2_FnWells (and2_FnWells (and2_FnWells (and2_FnWells (and2_FnWells (and2_FnWells (and2_FnWells cl0_FnWells cl1_FnWells) cl2_FnWells) cl3_FnWells) cl4_FnWells) cl5_FnWells) cl6_FnWells) cl7_FnWells) cl8_FnWells) cl9_FnWells) cl10_FnWells) cl11_FnWells) cl12_FnWells) cl13_FnWells) cl14_FnWells) cl15_FnWells) cl16_FnWells) cl17_FnWells) cl18_FnWells) cl19_FnWells) cl20_FnWells) cl21_FnWells) cl22_FnWells) cl23_FnWells) cl24_FnWells) cl25_FnWells) cl26_FnWells) cl27_FnWells) cl28_FnWells) cl29_FnWells) cl30_FnWells) cl31_FnWells)


/-- The statement. -/
theorem holds_FnWells : Rows.FnWellsSaid :=
  OpenClaim.holds_of_wide 4 Try.f4 rfl rfl rfl rfl rfl rfl rfl ⟨rfl, rfl, rfl, rfl, rfl⟩ rfl rfl rfl rfl rfl (by kernel_rfl) Try.func4 closed_FnWells
    (of_decide_eq_true (by kernel_rfl)) (by unfold Func.isWrapper; first | (rw [if_pos (by decide +kernel)]; kernel_rfl) | (rw [if_neg (by decide +kernel)]; exact ⟨rfl, rfl⟩))
    (fun os started H enc _ => lifted_FnWells os started H enc)
#print axioms holds_FnWells
end Go.Proofs.Ytkpiiicefmkhcaa
