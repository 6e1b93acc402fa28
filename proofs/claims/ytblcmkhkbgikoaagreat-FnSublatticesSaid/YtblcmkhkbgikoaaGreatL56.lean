/- FnSublattices returns true: for every drawn index there are as many lattices with it as its divisors add up to, and a form on a lattice has the discriminant times the square of the index and the least value of the shortest points. Conditions: none. (written by gen_L56.py) -/
import Derived.Test.YtblcmkhkbgikoaaGreatYQ
import Derived.Test.YtblcmkhkbgikoaaGreatY9
import Derived.Test.YtblcmkhkbgikoaaGreatRY
import Derived.Test.YtblcmkhkbgikoaaGreatW2
namespace Go.Proofs.YtblcmkhkbgikoaaGreat
open Go.RowKit Go.ChangeShapes Go.WideShapes Go.ChangeAt Go.Joins

set_option maxRecDepth 100000 in
set_option maxHeartbeats 25600000 in
theorem walk_FnSublattices (zs es : List Int) (v u : Value) (w : World) (hz : ReB zs v w) (he : ReB es u w) :
    Calls Tryz.prog 3 #[v, u] w fun e w' => e = .returned (.bool true) ∧ Below w.heap.size w w' := by
  have HZ := Lib.hid hz
  have HY := Lib.hid he
  obtain ⟨A0, c1', rfl⟩ := hz.shape
  obtain ⟨A2, c2', rfl⟩ := he.shape
  clear hz he
  by_cases hbig : zs.length ≤ 1048576 ∧ es.length ≤ 1048576 - zs.length
  · have Hb := Lib.hid (fun w => big_no A0 A2 zs.length es.length c1' c2' w hbig.1 hbig.2)
    have HR := Lib.hid (HZ.out.rd hbig.1)
    have HE := Lib.hid (fun w' (hb : Below w.heap.size w w') => (HY.out.rd (by omega)).below hb (Nat.le_refl _))
    clear HZ HY hbig
    go_enter Tryz.func3, Tryz.ntmps3
    go_wp2_with (go_at_call 4; (with_reducible refine (Hb.out _).mono ?_); rintro e v ⟨rfl, rfl⟩)
    refine (drawSL_any zs _ _ _ HR.out (Nat.le_refl _)).mono ?_
    rintro e v1 ⟨n0, rfl, hb1⟩
    have hz1 := hb1.size
    clear HR Hb
    obtain ⟨L, ok, hL, hll, HI0, HS0⟩ := sl_both n0
    have HI := Lib.hid HI0
    have HS := Lib.hid HS0
    have HLL := Lib.hid hL
    have hokk : (ok != ok) = false := by cases ok <;> rfl
    unfold RetLt at HI HS
    clear hL HI0 HS0
    go_wp2_with fail
    refine (HI.out _).mono ?_
    rintro e v2 ⟨vl, rfl, hl2, hc2⟩
    have hz2 := hc2.size
    (try simp at hz2)
    have hb2 : Below w.heap.size w v2 := (by repeat (first | with_reducible exact Below.refl _ _ | with_reducible assumption | with_reducible apply Below.drew | with_reducible apply below_drewN | (with_reducible apply below_setp; (first | omega | (simp <;> omega))) | (with_reducible apply below_allocp; (first | omega | (simp <;> omega))) | (with_reducible refine below_viap (by assumption) ?_ ?_; (first | omega | (simp <;> omega)))))
    obtain ⟨bl, cl, rfl⟩ := own_shape hl2
    go_wp2_with fail
    refine (HS.out _).mono ?_
    rintro e v3 ⟨vm, rfl, hm3, hc3⟩
    have hz3 := hc3.size
    (try simp at hz3)
    have hl3 := own_call hc3 hl2
    have hb3 : Below w.heap.size w v3 := (by repeat (first | with_reducible exact Below.refl _ _ | with_reducible assumption | with_reducible apply Below.drew | with_reducible apply below_drewN | (with_reducible apply below_setp; (first | omega | (simp <;> omega))) | (with_reducible apply below_allocp; (first | omega | (simp <;> omega))) | (with_reducible refine below_viap (by assumption) ?_ ?_; (first | omega | (simp <;> omega)))))
    clear hl2
    obtain ⟨bm, cm, rfl⟩ := own_shape hm3
    have hNm : (((L.length : Nat) : Int) != ((L.length : Nat) : Int)) = false := by simp
    obtain ⟨N, hN⟩ : ∃ N, L.length = N := ⟨_, rfl⟩
    have HN := Lib.hid hN
    rw [hN] at hNm hll ⊢
    have Hl := Lib.hid hl3
    have Hm := Lib.hid hm3
    clear hN hl3 hm3 HI HS
    go_upto_if 69 with fail
    go_cut [] from 69 to 120 (fun wx => Below v3.heap.size v3 wx)
    case first =>
      clear HE
      cases ok with
      | false =>
        go_wp2_with fail
        go_meet
        exact Below.refl _ _
      | true =>
        obtain ⟨n, rfl, hn1, hn2, rfl⟩ := HLL.out rfl
        have HD := Lib.hid (fun w => implDvs_any n w hn1 hn2)
        have HM := Lib.hid (fun f (h : f ∈ latL n) => latL_mem hn2 h)
        have HA := Lib.hid (latA_len hn2)
        have HX := Lib.hid (fun k h => latA_next (n := n) (k := k) h)
        have HL := Lib.hid (latA_all n)
        have HP := Lib.hid (fun x (h : x ∈ divs n) => divs_mem hn2 h)
        have hdl := divs_len hn2
        have hz0 : (latA n 0).length = 0 := by unfold latA; rw [List.take_zero]; rfl
        clear hn1 hn2 HLL
        generalize latL n = L at *
        generalize latA n = LA at *
        go_wp2_with fail
        refine (HD.out _).mono ?_
        rintro e v4 ⟨vd, rfl, hd4, hc4⟩
        have hz4 := hc4.size
        (try simp at hz4)
        have hb4 : Below v3.heap.size v3 v4 := (by repeat (first | with_reducible exact Below.refl _ _ | with_reducible assumption | with_reducible apply Below.drew | with_reducible apply below_drewN | (with_reducible apply below_setp; (first | omega | (simp <;> omega))) | (with_reducible apply below_allocp; (first | omega | (simp <;> omega))) | (with_reducible refine below_viap (by assumption) ?_ ?_; (first | omega | (simp <;> omega)))))
        obtain ⟨bd, cd, rfl⟩ := own_shape hd4
        have Hl4 := Lib.hid (own_call hc4 Hl.out)
        have Hm4 := Lib.hid (own_call hc4 Hm.out)
        have Hd := Lib.hid hd4
        clear hd4 HD Hl Hm
        generalize divs n = DV at *
        go_wp2
        go_loopw [12, 77] (fun vs vi wr => ∃ k : Nat, vi = .int .i64 k ∧ k ≤ DV.length ∧ vs = .int .i64 ((LA k).length : Int) ∧ Below v4.heap.size v4 wr) (fun _ vi _ => DV.length - (intOf vi).toNat)
        case atStart => exact ⟨0, rfl, Nat.zero_le _, by rw [hz0]; rfl, Below.refl _ _⟩
        case round =>
          obtain ⟨k, rfl, hk, rfl, hbel⟩ := hrel
          have hzr := hbel.size
          have hod := own_call hbel Hd.out
          by_cases hlt : k < DV.length
          · obtain ⟨g, rfl, lg, d1⟩ := own_elemI hod hlt
            obtain ⟨p1, p2, _⟩ := HP.out _ (List.getElem_mem hlt)
            have hx := congrArg List.length (HX.out k hlt)
            rw [List.length_append, latB_len] at hx
            have ha := HA.out k (by omega)
            generalize DV[k] = x at *
            generalize (LA k).length = s at *
            have hs : wrap64 ((s : Int) + x) = ((LA (k + 1)).length : Int) := by rw [hx, IntWalk.wrap64_in _ (by omega)]; omega
            have HSx := Lib.hid hs
            clear hx ha p1 p2 hod hs
            go_wp2
            go_roundw
            case rel => exact ⟨k + 1, by go_num, hlt, by rw [HSx.out], hbel⟩
            case measure => (first | (simp [intOf]; done) | (simp [intOf]; omega))
          · obtain rfl : k = DV.length := by omega
            rw [HL.out, HN.out]
            have hzw := hbel.size
            clear hod
            go_wp2
            skip
            obtain ⟨wo, rfl⟩ : ∃ wo : World, wo = wr := ⟨_, rfl⟩
            go_loopw [95] (fun vi wr => ∃ k : Nat, vi = .int .i64 k ∧ k ≤ N ∧ Below v4.heap.size v4 wr) (fun vi _ => N - (intOf vi).toNat)
            case atStart => exact ⟨0, rfl, Nat.zero_le _, hbel⟩
            case round =>
              clear hbel hzr hzw
              obtain ⟨k, rfl, hk, hbel⟩ := hrel
              have hzr := hbel.size
              by_cases hlt : k < N
              · have hkL : k < L.length := by rw [HN.out]; exact hlt
                obtain ⟨V, hvn⟩ := HM.out _ (List.getElem_mem hkL)
                obtain ⟨g1, rfl, l1, d1, d2, d3⟩ := own_elem (own_call hbel Hl4.out) hkL
                obtain ⟨g2, rfl, _, _, _, _⟩ := own_elem (own_call hbel Hm4.out) hkL
                generalize hy : L[k] = y at *
                have HQ := Lib.hid (fun w => latIndex_any y.a y.b y.c n w V hvn)
                have l3 := Nat.ne_of_lt l1
                have kI : (k : Int) < (N : Int) := by omega
                clear V hvn
                go_wp2_with fail
                refine (HQ.out _).mono ?_
                rintro e v10 ⟨rfl, hc10⟩
                have hz10 := hc10.size
                (try simp at hz10)
                have hX10 : Blk v10 wr.heap.size 32 #[.int .i64 y.a, .int .i64 y.b, .int .i64 y.c] := Blk.call (by (repeat (first | with_reducible assumption | (with_reducible apply Blk.new_at; (first | rfl | (simp; done))) | with_reducible apply Blk.store3 | with_reducible apply Blk.store4 | (with_reducible apply Blk.farp; (first | omega | (simp <;> omega))) | with_reducible apply Blk.allocp | with_reducible apply Blk.drew | with_reducible apply Blk.drewN))) hc10
                have cX10 := hX10.cell; have fX10 := hX10.frozen; have lX10 := hX10.lt
                have hbx : Below v4.heap.size v4 v10 := (by repeat (first | with_reducible exact Below.refl _ _ | with_reducible assumption | with_reducible apply Below.drew | with_reducible apply below_drewN | (with_reducible apply below_setp; (first | omega | (simp <;> omega))) | (with_reducible apply below_allocp; (first | omega | (simp <;> omega))) | (with_reducible refine below_viap (by assumption) ?_ ?_; (first | omega | (simp <;> omega)))))
                obtain ⟨g3, e3, l2, d4, d5, d6⟩ := own_elem (own_call hbx Hm4.out) hkL
                injection e3 with e3
                injection e3 with e3
                subst e3
                rw [hy] at d4 d5 d6
                clear hc10 d1 d2 d3 l3
                have l4 := Nat.ne_of_lt l2
                have hnn : ((n : Int) != (n : Int)) = false := by simp
                go_upto_region 22 with (fail)
                go_quiet (fail)
                go_wp2
                go_roundw
                case rel => exact ⟨k + 1, by go_num, hlt, (by repeat (first | with_reducible exact Below.refl _ _ | with_reducible assumption | with_reducible apply Below.drew | with_reducible apply below_drewN | (with_reducible apply below_setp; (first | omega | (simp <;> omega))) | (with_reducible apply below_allocp; (first | omega | (simp <;> omega))) | (with_reducible refine below_viap (by assumption) ?_ ?_; (first | omega | (simp <;> omega)))))⟩
                case measure => (first | (simp [intOf]; done) | (simp [intOf]; omega))
              · obtain rfl : k = N := by omega
                go_wp2_with fail
                go_meet
                exact below_via hb4 hbel (by omega)
    case rest =>
      obtain ⟨v20, rfl⟩ : ∃ v, v = wc := ⟨_, rfl⟩
      have hz20 := hcut.size
      have hb20 : Below w.heap.size w v20 := below_via hb3 hcut (by omega)
      clear hcut hb1 hb2 hb3 hc2 hc3 HLL hokk hll hNm HN Hl Hm
      go_wp2_with fail
      refine (drawSP_any es _ _ v20 (HE.out _ hb20) (by omega)).mono ?_
      rintro e v21 ⟨f, A, B, D, rfl, hc21⟩
      have hz21 := hc21.size
      have hb21 : Below w.heap.size w v21 := (by repeat (first | with_reducible exact Below.refl _ _ | with_reducible assumption | with_reducible apply Below.drew | with_reducible apply below_drewN | (with_reducible apply below_setp; (first | omega | (simp <;> omega))) | (with_reducible apply below_allocp; (first | omega | (simp <;> omega))) | (with_reducible refine below_viap (by assumption) ?_ ?_; (first | omega | (simp <;> omega)))))
      clear HE hc21 hb20
      have hlA : laA f A B D = true ∨ laA f A B D = false := by cases laA f A B D <;> simp
      rcases hlA with hA | hA
      · obtain ⟨hDf, hV, hFm⟩ := laDef hA
        obtain ⟨k, hk⟩ : ∃ k, A * D = k := ⟨_, rfl⟩
        obtain ⟨d, hd⟩ : ∃ d, disc f = d := ⟨_, rfl⟩
        have SV := subV_of hA hd hk
        have SP := spV_of hA
        have HI := Lib.hid (fun w => implSP_yes f A B D _ _ w hA SP)
        have HS := Lib.hid (fun w => specSP_yes f A B D _ _ w hA SP)
        unfold RetSp at HI HS
        have HF := Lib.hid (fun w => implFL_any f A B D w)
        rw [hA, if_pos rfl] at HF
        have HR := Lib.hid (fun w => implReduce_d (laF f A B D).a (laF f A B D).b (laF f A B D).c w SV.g1 SV.g2)
        have e0 : (⟨(laF f A B D).a, (laF f A B D).b, (laF f A B D).c⟩ : Fm) = laF f A B D := rfl
        rw [e0] at HR
        have HG := Lib.hid (fun w => implDisc_f f.a f.b f.c d w hFm hd)
        have HQ := Lib.hid (fun w => implDisc_f (laF f A B D).a (laF f A B D).b (laF f A B D).c (d * k * k) w SV.g3 SV.dg)
        have HK := Lib.hid (fun w => latIndex_any A B D k w hV hk)
        have HB := Lib.hid (SV.db)
        have HBk := Lib.hid (SV.dk)
        have HT := Lib.hid (fun K (h : BxS (red (laF f A B D)) (redM (laF f A B D) M4.one) A B D 9 K) => bxS_two h (by have := SP.ra; omega) SP.rb SP.rc.1 SP.det (by have := hV.a1; omega) (by have := hV.d1; omega))
        have HP := Lib.hid (fun K (h : BxS (red (laF f A B D)) (redM (laF f A B D) M4.one) A B D 9 K) (q : Int × Int) (hq : q ∈ K) => bxS_pt SP hV SV.g2 h hq)
        have HV := Lib.hid hV
        have HFm := Lib.hid hFm
        clear hA hDf hV hFm SV SP hd hk e0
        generalize redM (laF f A B D) M4.one = m at *
        generalize red (laF f A B D) = r at *
        generalize laF f A B D = g at *
        go_wp2_with fail
        refine (HI.out _).mono ?_
        rintro e v22 ⟨K, vp, rfl, hK, hp22, hc22⟩
        have hz22 := hc22.size
        (try simp at hz22)
        have hF22 : Blk v22 (v21.heap.size) 36 #[.int .i64 f.a, .int .i64 f.b, .int .i64 f.c] := Blk.call (by (repeat (first | with_reducible assumption | (with_reducible apply Blk.new_at; (first | rfl | (simp; done))) | with_reducible apply Blk.store3 | with_reducible apply Blk.store4 | (with_reducible apply Blk.farp; (first | omega | (simp <;> omega))) | with_reducible apply Blk.allocp | with_reducible apply Blk.drew | with_reducible apply Blk.drewN))) hc22
        have cF22 := hF22.cell; have fF22 := hF22.frozen; have lF22 := hF22.lt; have mF22 := Nat.ne_of_gt lF22; have nF22 := Nat.ne_of_lt lF22
        have hL22 : Blk v22 (v21.heap.size + 1) 32 #[.int .i64 A, .int .i64 B, .int .i64 D] := Blk.call (by (repeat (first | with_reducible assumption | (with_reducible apply Blk.new_at; (first | rfl | (simp; done))) | with_reducible apply Blk.store3 | with_reducible apply Blk.store4 | (with_reducible apply Blk.farp; (first | omega | (simp <;> omega))) | with_reducible apply Blk.allocp | with_reducible apply Blk.drew | with_reducible apply Blk.drewN))) hc22
        have cL22 := hL22.cell; have fL22 := hL22.frozen; have lL22 := hL22.lt; have mL22 := Nat.ne_of_gt lL22; have nL22 := Nat.ne_of_lt lL22
        have hb22 : Below w.heap.size w v22 := (by repeat (first | with_reducible exact Below.refl _ _ | with_reducible assumption | with_reducible apply Below.drew | with_reducible apply below_drewN | (with_reducible apply below_setp; (first | omega | (simp <;> omega))) | (with_reducible apply below_allocp; (first | omega | (simp <;> omega))) | (with_reducible refine below_viap (by assumption) ?_ ?_; (first | omega | (simp <;> omega)))))
        obtain ⟨bp, cp, rfl⟩ := own_shape hp22
        go_wp2_with fail
        refine (HS.out _).mono ?_
        rintro e v23 ⟨K2, vs, rfl, hK2, hs23, hc23⟩
        have hz23 := hc23.size
        (try simp at hz23)
        have hF23 : Blk v23 (v21.heap.size) 36 #[.int .i64 f.a, .int .i64 f.b, .int .i64 f.c] := Blk.call (by (repeat (first | with_reducible assumption | (with_reducible apply Blk.new_at; (first | rfl | (simp; done))) | with_reducible apply Blk.store3 | with_reducible apply Blk.store4 | (with_reducible apply Blk.farp; (first | omega | (simp <;> omega))) | with_reducible apply Blk.allocp | with_reducible apply Blk.drew | with_reducible apply Blk.drewN))) hc23
        have cF23 := hF23.cell; have fF23 := hF23.frozen; have lF23 := hF23.lt; have mF23 := Nat.ne_of_gt lF23; have nF23 := Nat.ne_of_lt lF23
        have hL23 : Blk v23 (v21.heap.size + 1) 32 #[.int .i64 A, .int .i64 B, .int .i64 D] := Blk.call (by (repeat (first | with_reducible assumption | (with_reducible apply Blk.new_at; (first | rfl | (simp; done))) | with_reducible apply Blk.store3 | with_reducible apply Blk.store4 | (with_reducible apply Blk.farp; (first | omega | (simp <;> omega))) | with_reducible apply Blk.allocp | with_reducible apply Blk.drew | with_reducible apply Blk.drewN))) hc23
        have cL23 := hL23.cell; have fL23 := hL23.frozen; have lL23 := hL23.lt; have mL23 := Nat.ne_of_gt lL23; have nL23 := Nat.ne_of_lt lL23
        have hp23 := own_call hc23 hp22
        have hb23 : Below w.heap.size w v23 := (by repeat (first | with_reducible exact Below.refl _ _ | with_reducible assumption | with_reducible apply Below.drew | with_reducible apply below_drewN | (with_reducible apply below_setp; (first | omega | (simp <;> omega))) | (with_reducible apply below_allocp; (first | omega | (simp <;> omega))) | (with_reducible refine below_viap (by assumption) ?_ ?_; (first | omega | (simp <;> omega)))))
        clear hF22 cF22 fF22 lF22 mF22 nF22 hL22 cL22 fL22 lL22 mL22 nL22 hp22
        obtain rfl := bxS_uniq hK hK2
        obtain ⟨bs, cs, rfl⟩ := own_shape hs23
        have HKx := Lib.hid hK
        have hlen := bxS_len hK
        have h2 := HT.out K hK
        have HPK := Lib.hid (HP.out K hK)
        clear hK hK2 HT HP HI HS
        go_wp2_with fail
        refine (pSamePoints_same _ _ _ _ K _ (by omega) hp23 hs23).mono ?_
        rintro e v24 ⟨rfl, hc24⟩
        have hz24 := hc24.size
        (try simp at hz24)
        have hF24 : Blk v24 (v21.heap.size) 36 #[.int .i64 f.a, .int .i64 f.b, .int .i64 f.c] := Blk.call (by (repeat (first | with_reducible assumption | (with_reducible apply Blk.new_at; (first | rfl | (simp; done))) | with_reducible apply Blk.store3 | with_reducible apply Blk.store4 | (with_reducible apply Blk.farp; (first | omega | (simp <;> omega))) | with_reducible apply Blk.allocp | with_reducible apply Blk.drew | with_reducible apply Blk.drewN))) hc24
        have cF24 := hF24.cell; have fF24 := hF24.frozen; have lF24 := hF24.lt; have mF24 := Nat.ne_of_gt lF24; have nF24 := Nat.ne_of_lt lF24
        have hL24 : Blk v24 (v21.heap.size + 1) 32 #[.int .i64 A, .int .i64 B, .int .i64 D] := Blk.call (by (repeat (first | with_reducible assumption | (with_reducible apply Blk.new_at; (first | rfl | (simp; done))) | with_reducible apply Blk.store3 | with_reducible apply Blk.store4 | (with_reducible apply Blk.farp; (first | omega | (simp <;> omega))) | with_reducible apply Blk.allocp | with_reducible apply Blk.drew | with_reducible apply Blk.drewN))) hc24
        have cL24 := hL24.cell; have fL24 := hL24.frozen; have lL24 := hL24.lt; have mL24 := Nat.ne_of_gt lL24; have nL24 := Nat.ne_of_lt lL24
        have hp24 := own_call hc24 hp23
        have hs24 := own_call hc24 hs23
        have hb24 : Below w.heap.size w v24 := (by repeat (first | with_reducible exact Below.refl _ _ | with_reducible assumption | with_reducible apply Below.drew | with_reducible apply below_drewN | (with_reducible apply below_setp; (first | omega | (simp <;> omega))) | (with_reducible apply below_allocp; (first | omega | (simp <;> omega))) | (with_reducible refine below_viap (by assumption) ?_ ?_; (first | omega | (simp <;> omega)))))
        clear hF23 cF23 fF23 lF23 mF23 nF23 hL23 cL23 fL23 lL23 mL23 nL23 hp23 hs23
        clear hs24
        go_wp2_with fail
        refine (HF.out _).mono ?_
        rintro e v25 ⟨rfl, hc25⟩
        have hz25 := hc25.size
        (try simp at hz25)
        have hF25 : Blk v25 (v21.heap.size) 36 #[.int .i64 f.a, .int .i64 f.b, .int .i64 f.c] := Blk.call (by (repeat (first | with_reducible assumption | (with_reducible apply Blk.new_at; (first | rfl | (simp; done))) | with_reducible apply Blk.store3 | with_reducible apply Blk.store4 | (with_reducible apply Blk.farp; (first | omega | (simp <;> omega))) | with_reducible apply Blk.allocp | with_reducible apply Blk.drew | with_reducible apply Blk.drewN))) hc25
        have cF25 := hF25.cell; have fF25 := hF25.frozen; have lF25 := hF25.lt; have mF25 := Nat.ne_of_gt lF25; have nF25 := Nat.ne_of_lt lF25
        have hL25 : Blk v25 (v21.heap.size + 1) 32 #[.int .i64 A, .int .i64 B, .int .i64 D] := Blk.call (by (repeat (first | with_reducible assumption | (with_reducible apply Blk.new_at; (first | rfl | (simp; done))) | with_reducible apply Blk.store3 | with_reducible apply Blk.store4 | (with_reducible apply Blk.farp; (first | omega | (simp <;> omega))) | with_reducible apply Blk.allocp | with_reducible apply Blk.drew | with_reducible apply Blk.drewN))) hc25
        have cL25 := hL25.cell; have fL25 := hL25.frozen; have lL25 := hL25.lt; have mL25 := Nat.ne_of_gt lL25; have nL25 := Nat.ne_of_lt lL25
        have hp25 := own_call hc25 hp24
        have hb25 : Below w.heap.size w v25 := (by repeat (first | with_reducible exact Below.refl _ _ | with_reducible assumption | with_reducible apply Below.drew | with_reducible apply below_drewN | (with_reducible apply below_setp; (first | omega | (simp <;> omega))) | (with_reducible apply below_allocp; (first | omega | (simp <;> omega))) | (with_reducible refine below_viap (by assumption) ?_ ?_; (first | omega | (simp <;> omega)))))
        clear hF24 cF24 fF24 lF24 mF24 nF24 hL24 cL24 fL24 lL24 mL24 nL24 hp24
        go_wp2_with fail
        refine (HR.out _).mono ?_
        rintro e v26 ⟨rfl, hc26⟩
        have hz26 := hc26.size
        (try simp at hz26)
        have hF26 : Blk v26 (v21.heap.size) 36 #[.int .i64 f.a, .int .i64 f.b, .int .i64 f.c] := Blk.call (by (repeat (first | with_reducible assumption | (with_reducible apply Blk.new_at; (first | rfl | (simp; done))) | with_reducible apply Blk.store3 | with_reducible apply Blk.store4 | (with_reducible apply Blk.farp; (first | omega | (simp <;> omega))) | with_reducible apply Blk.allocp | with_reducible apply Blk.drew | with_reducible apply Blk.drewN))) hc26
        have cF26 := hF26.cell; have fF26 := hF26.frozen; have lF26 := hF26.lt; have mF26 := Nat.ne_of_gt lF26; have nF26 := Nat.ne_of_lt lF26
        have hL26 : Blk v26 (v21.heap.size + 1) 32 #[.int .i64 A, .int .i64 B, .int .i64 D] := Blk.call (by (repeat (first | with_reducible assumption | (with_reducible apply Blk.new_at; (first | rfl | (simp; done))) | with_reducible apply Blk.store3 | with_reducible apply Blk.store4 | (with_reducible apply Blk.farp; (first | omega | (simp <;> omega))) | with_reducible apply Blk.allocp | with_reducible apply Blk.drew | with_reducible apply Blk.drewN))) hc26
        have cL26 := hL26.cell; have fL26 := hL26.frozen; have lL26 := hL26.lt; have mL26 := Nat.ne_of_gt lL26; have nL26 := Nat.ne_of_lt lL26
        have hG26 : Blk v26 (v25.heap.size) 36 #[.int .i64 g.a, .int .i64 g.b, .int .i64 g.c] := Blk.call (by (repeat (first | with_reducible assumption | (with_reducible apply Blk.new_at; (first | rfl | (simp; done))) | with_reducible apply Blk.store3 | with_reducible apply Blk.store4 | (with_reducible apply Blk.farp; (first | omega | (simp <;> omega))) | with_reducible apply Blk.allocp | with_reducible apply Blk.drew | with_reducible apply Blk.drewN))) hc26
        have cG26 := hG26.cell; have fG26 := hG26.frozen; have lG26 := hG26.lt; have mG26 := Nat.ne_of_gt lG26; have nG26 := Nat.ne_of_lt lG26
        have hp26 := own_call hc26 (by have := hp25; exact (by repeat (first | with_reducible assumption | with_reducible apply own_alloc | with_reducible apply own_drew | with_reducible apply own_drewN | (with_reducible refine own_setp (by assumption) ?_ ?_; (first | omega | (simp <;> omega))) | (with_reducible refine own_call (by assumption) ?_))))
        have hb26 : Below w.heap.size w v26 := (by repeat (first | with_reducible exact Below.refl _ _ | with_reducible assumption | with_reducible apply Below.drew | with_reducible apply below_drewN | (with_reducible apply below_setp; (first | omega | (simp <;> omega))) | (with_reducible apply below_allocp; (first | omega | (simp <;> omega))) | (with_reducible refine below_viap (by assumption) ?_ ?_; (first | omega | (simp <;> omega)))))
        clear hF25 cF25 fF25 lF25 mF25 nF25 hL25 cL25 fL25 lL25 mL25 nL25 hp25
        go_wp2_with fail
        refine (HG.out _).mono ?_
        rintro e v27 ⟨rfl, hc27⟩
        have hz27 := hc27.size
        (try simp at hz27)
        have hF27 : Blk v27 (v21.heap.size) 36 #[.int .i64 f.a, .int .i64 f.b, .int .i64 f.c] := Blk.call (by (repeat (first | with_reducible assumption | (with_reducible apply Blk.new_at; (first | rfl | (simp; done))) | with_reducible apply Blk.store3 | with_reducible apply Blk.store4 | (with_reducible apply Blk.farp; (first | omega | (simp <;> omega))) | with_reducible apply Blk.allocp | with_reducible apply Blk.drew | with_reducible apply Blk.drewN))) hc27
        have cF27 := hF27.cell; have fF27 := hF27.frozen; have lF27 := hF27.lt; have mF27 := Nat.ne_of_gt lF27; have nF27 := Nat.ne_of_lt lF27
        have hL27 : Blk v27 (v21.heap.size + 1) 32 #[.int .i64 A, .int .i64 B, .int .i64 D] := Blk.call (by (repeat (first | with_reducible assumption | (with_reducible apply Blk.new_at; (first | rfl | (simp; done))) | with_reducible apply Blk.store3 | with_reducible apply Blk.store4 | (with_reducible apply Blk.farp; (first | omega | (simp <;> omega))) | with_reducible apply Blk.allocp | with_reducible apply Blk.drew | with_reducible apply Blk.drewN))) hc27
        have cL27 := hL27.cell; have fL27 := hL27.frozen; have lL27 := hL27.lt; have mL27 := Nat.ne_of_gt lL27; have nL27 := Nat.ne_of_lt lL27
        have hG27 : Blk v27 (v25.heap.size) 36 #[.int .i64 g.a, .int .i64 g.b, .int .i64 g.c] := Blk.call (by (repeat (first | with_reducible assumption | (with_reducible apply Blk.new_at; (first | rfl | (simp; done))) | with_reducible apply Blk.store3 | with_reducible apply Blk.store4 | (with_reducible apply Blk.farp; (first | omega | (simp <;> omega))) | with_reducible apply Blk.allocp | with_reducible apply Blk.drew | with_reducible apply Blk.drewN))) hc27
        have cG27 := hG27.cell; have fG27 := hG27.frozen; have lG27 := hG27.lt; have mG27 := Nat.ne_of_gt lG27; have nG27 := Nat.ne_of_lt lG27
        have hR27 : Blk v27 (v26.heap.size) 36 #[.int .i64 r.a, .int .i64 r.b, .int .i64 r.c] := Blk.call (by (repeat (first | with_reducible assumption | (with_reducible apply Blk.new_at; (first | rfl | (simp; done))) | with_reducible apply Blk.store3 | with_reducible apply Blk.store4 | (with_reducible apply Blk.farp; (first | omega | (simp <;> omega))) | with_reducible apply Blk.allocp | with_reducible apply Blk.drew | with_reducible apply Blk.drewN))) hc27
        have cR27 := hR27.cell; have fR27 := hR27.frozen; have lR27 := hR27.lt; have mR27 := Nat.ne_of_gt lR27; have nR27 := Nat.ne_of_lt lR27
        have hM27 : Blk v27 (v26.heap.size + 1) 46 #[.int .i64 m.p, .int .i64 m.q, .int .i64 m.r, .int .i64 m.s] := Blk.call (by (repeat (first | with_reducible assumption | (with_reducible apply Blk.new_at; (first | rfl | (simp; done))) | with_reducible apply Blk.store3 | with_reducible apply Blk.store4 | (with_reducible apply Blk.farp; (first | omega | (simp <;> omega))) | with_reducible apply Blk.allocp | with_reducible apply Blk.drew | with_reducible apply Blk.drewN))) hc27
        have cM27 := hM27.cell; have fM27 := hM27.frozen; have lM27 := hM27.lt; have mM27 := Nat.ne_of_gt lM27; have nM27 := Nat.ne_of_lt lM27
        have hp27 := own_call hc27 (by have := hp26; exact (by repeat (first | with_reducible assumption | with_reducible apply own_alloc | with_reducible apply own_drew | with_reducible apply own_drewN | (with_reducible refine own_setp (by assumption) ?_ ?_; (first | omega | (simp <;> omega))) | (with_reducible refine own_call (by assumption) ?_))))
        have hb27 : Below w.heap.size w v27 := (by repeat (first | with_reducible exact Below.refl _ _ | with_reducible assumption | with_reducible apply Below.drew | with_reducible apply below_drewN | (with_reducible apply below_setp; (first | omega | (simp <;> omega))) | (with_reducible apply below_allocp; (first | omega | (simp <;> omega))) | (with_reducible refine below_viap (by assumption) ?_ ?_; (first | omega | (simp <;> omega)))))
        clear hF26 cF26 fF26 lF26 mF26 nF26 hL26 cL26 fL26 lL26 mL26 nL26 hG26 cG26 fG26 lG26 mG26 nG26 hp26
        go_wp2_with fail
        refine (HQ.out _).mono ?_
        rintro e v28 ⟨rfl, hc28⟩
        have hz28 := hc28.size
        (try simp at hz28)
        have hF28 : Blk v28 (v21.heap.size) 36 #[.int .i64 f.a, .int .i64 f.b, .int .i64 f.c] := Blk.call (by (repeat (first | with_reducible assumption | (with_reducible apply Blk.new_at; (first | rfl | (simp; done))) | with_reducible apply Blk.store3 | with_reducible apply Blk.store4 | (with_reducible apply Blk.farp; (first | omega | (simp <;> omega))) | with_reducible apply Blk.allocp | with_reducible apply Blk.drew | with_reducible apply Blk.drewN))) hc28
        have cF28 := hF28.cell; have fF28 := hF28.frozen; have lF28 := hF28.lt; have mF28 := Nat.ne_of_gt lF28; have nF28 := Nat.ne_of_lt lF28
        have hL28 : Blk v28 (v21.heap.size + 1) 32 #[.int .i64 A, .int .i64 B, .int .i64 D] := Blk.call (by (repeat (first | with_reducible assumption | (with_reducible apply Blk.new_at; (first | rfl | (simp; done))) | with_reducible apply Blk.store3 | with_reducible apply Blk.store4 | (with_reducible apply Blk.farp; (first | omega | (simp <;> omega))) | with_reducible apply Blk.allocp | with_reducible apply Blk.drew | with_reducible apply Blk.drewN))) hc28
        have cL28 := hL28.cell; have fL28 := hL28.frozen; have lL28 := hL28.lt; have mL28 := Nat.ne_of_gt lL28; have nL28 := Nat.ne_of_lt lL28
        have hG28 : Blk v28 (v25.heap.size) 36 #[.int .i64 g.a, .int .i64 g.b, .int .i64 g.c] := Blk.call (by (repeat (first | with_reducible assumption | (with_reducible apply Blk.new_at; (first | rfl | (simp; done))) | with_reducible apply Blk.store3 | with_reducible apply Blk.store4 | (with_reducible apply Blk.farp; (first | omega | (simp <;> omega))) | with_reducible apply Blk.allocp | with_reducible apply Blk.drew | with_reducible apply Blk.drewN))) hc28
        have cG28 := hG28.cell; have fG28 := hG28.frozen; have lG28 := hG28.lt; have mG28 := Nat.ne_of_gt lG28; have nG28 := Nat.ne_of_lt lG28
        have hR28 : Blk v28 (v26.heap.size) 36 #[.int .i64 r.a, .int .i64 r.b, .int .i64 r.c] := Blk.call (by (repeat (first | with_reducible assumption | (with_reducible apply Blk.new_at; (first | rfl | (simp; done))) | with_reducible apply Blk.store3 | with_reducible apply Blk.store4 | (with_reducible apply Blk.farp; (first | omega | (simp <;> omega))) | with_reducible apply Blk.allocp | with_reducible apply Blk.drew | with_reducible apply Blk.drewN))) hc28
        have cR28 := hR28.cell; have fR28 := hR28.frozen; have lR28 := hR28.lt; have mR28 := Nat.ne_of_gt lR28; have nR28 := Nat.ne_of_lt lR28
        have hM28 : Blk v28 (v26.heap.size + 1) 46 #[.int .i64 m.p, .int .i64 m.q, .int .i64 m.r, .int .i64 m.s] := Blk.call (by (repeat (first | with_reducible assumption | (with_reducible apply Blk.new_at; (first | rfl | (simp; done))) | with_reducible apply Blk.store3 | with_reducible apply Blk.store4 | (with_reducible apply Blk.farp; (first | omega | (simp <;> omega))) | with_reducible apply Blk.allocp | with_reducible apply Blk.drew | with_reducible apply Blk.drewN))) hc28
        have cM28 := hM28.cell; have fM28 := hM28.frozen; have lM28 := hM28.lt; have mM28 := Nat.ne_of_gt lM28; have nM28 := Nat.ne_of_lt lM28
        have hp28 := own_call hc28 hp27
        have hb28 : Below w.heap.size w v28 := (by repeat (first | with_reducible exact Below.refl _ _ | with_reducible assumption | with_reducible apply Below.drew | with_reducible apply below_drewN | (with_reducible apply below_setp; (first | omega | (simp <;> omega))) | (with_reducible apply below_allocp; (first | omega | (simp <;> omega))) | (with_reducible refine below_viap (by assumption) ?_ ?_; (first | omega | (simp <;> omega)))))
        clear hF27 cF27 fF27 lF27 mF27 nF27 hL27 cL27 fL27 lL27 mL27 nL27 hG27 cG27 fG27 lG27 mG27 nG27 hR27 cR27 fR27 lR27 mR27 nR27 hM27 cM27 fM27 lM27 mM27 nM27 hp27
        go_wp2_with fail
        refine (HK.out _).mono ?_
        rintro e v29 ⟨rfl, hc29⟩
        have hz29 := hc29.size
        (try simp at hz29)
        have hF29 : Blk v29 (v21.heap.size) 36 #[.int .i64 f.a, .int .i64 f.b, .int .i64 f.c] := Blk.call (by (repeat (first | with_reducible assumption | (with_reducible apply Blk.new_at; (first | rfl | (simp; done))) | with_reducible apply Blk.store3 | with_reducible apply Blk.store4 | (with_reducible apply Blk.farp; (first | omega | (simp <;> omega))) | with_reducible apply Blk.allocp | with_reducible apply Blk.drew | with_reducible apply Blk.drewN))) hc29
        have cF29 := hF29.cell; have fF29 := hF29.frozen; have lF29 := hF29.lt; have mF29 := Nat.ne_of_gt lF29; have nF29 := Nat.ne_of_lt lF29
        have hL29 : Blk v29 (v21.heap.size + 1) 32 #[.int .i64 A, .int .i64 B, .int .i64 D] := Blk.call (by (repeat (first | with_reducible assumption | (with_reducible apply Blk.new_at; (first | rfl | (simp; done))) | with_reducible apply Blk.store3 | with_reducible apply Blk.store4 | (with_reducible apply Blk.farp; (first | omega | (simp <;> omega))) | with_reducible apply Blk.allocp | with_reducible apply Blk.drew | with_reducible apply Blk.drewN))) hc29
        have cL29 := hL29.cell; have fL29 := hL29.frozen; have lL29 := hL29.lt; have mL29 := Nat.ne_of_gt lL29; have nL29 := Nat.ne_of_lt lL29
        have hG29 : Blk v29 (v25.heap.size) 36 #[.int .i64 g.a, .int .i64 g.b, .int .i64 g.c] := Blk.call (by (repeat (first | with_reducible assumption | (with_reducible apply Blk.new_at; (first | rfl | (simp; done))) | with_reducible apply Blk.store3 | with_reducible apply Blk.store4 | (with_reducible apply Blk.farp; (first | omega | (simp <;> omega))) | with_reducible apply Blk.allocp | with_reducible apply Blk.drew | with_reducible apply Blk.drewN))) hc29
        have cG29 := hG29.cell; have fG29 := hG29.frozen; have lG29 := hG29.lt; have mG29 := Nat.ne_of_gt lG29; have nG29 := Nat.ne_of_lt lG29
        have hR29 : Blk v29 (v26.heap.size) 36 #[.int .i64 r.a, .int .i64 r.b, .int .i64 r.c] := Blk.call (by (repeat (first | with_reducible assumption | (with_reducible apply Blk.new_at; (first | rfl | (simp; done))) | with_reducible apply Blk.store3 | with_reducible apply Blk.store4 | (with_reducible apply Blk.farp; (first | omega | (simp <;> omega))) | with_reducible apply Blk.allocp | with_reducible apply Blk.drew | with_reducible apply Blk.drewN))) hc29
        have cR29 := hR29.cell; have fR29 := hR29.frozen; have lR29 := hR29.lt; have mR29 := Nat.ne_of_gt lR29; have nR29 := Nat.ne_of_lt lR29
        have hM29 : Blk v29 (v26.heap.size + 1) 46 #[.int .i64 m.p, .int .i64 m.q, .int .i64 m.r, .int .i64 m.s] := Blk.call (by (repeat (first | with_reducible assumption | (with_reducible apply Blk.new_at; (first | rfl | (simp; done))) | with_reducible apply Blk.store3 | with_reducible apply Blk.store4 | (with_reducible apply Blk.farp; (first | omega | (simp <;> omega))) | with_reducible apply Blk.allocp | with_reducible apply Blk.drew | with_reducible apply Blk.drewN))) hc29
        have cM29 := hM29.cell; have fM29 := hM29.frozen; have lM29 := hM29.lt; have mM29 := Nat.ne_of_gt lM29; have nM29 := Nat.ne_of_lt lM29
        have hp29 := own_call hc29 hp28
        have hb29 : Below w.heap.size w v29 := (by repeat (first | with_reducible exact Below.refl _ _ | with_reducible assumption | with_reducible apply Below.drew | with_reducible apply below_drewN | (with_reducible apply below_setp; (first | omega | (simp <;> omega))) | (with_reducible apply below_allocp; (first | omega | (simp <;> omega))) | (with_reducible refine below_viap (by assumption) ?_ ?_; (first | omega | (simp <;> omega)))))
        clear hF28 cF28 fF28 lF28 mF28 nF28 hL28 cL28 fL28 lL28 mL28 nL28 hG28 cG28 fG28 lG28 mG28 nG28 hR28 cR28 fR28 lR28 mR28 nR28 hM28 cM28 fM28 lM28 mM28 nM28 hp28
        have hb29w := hb29
        have Hp := Lib.hid hp29
        have hrr : (r.a != r.a) = false := by simp
        obtain ⟨N, hN⟩ : ∃ N, K.length = N := ⟨_, rfl⟩
        have HN := Lib.hid hN
        rw [hN] at h2 hlen ⊢
        clear hN hp29 HF HR HG HQ HK
        have k2 : ¬ (N : Int) < 2 := by omega
        go_upto_region 36 with (fail)
        skip
        skip
        have hkk : (k < 1000 ∧ wrap64 (d * k) = d * k ∧ wrap64 (d * k * k) = d * k * k ∧ (d * k * k != d * k * k) = false) ∨ ¬ k < 1000 := by
          by_cases h : k < 1000
          · exact .inl ⟨h, IntWalk.wrap64_in _ (by have := HBk.out; omega), IntWalk.wrap64_in _ (by have := HB.out; omega), by simp⟩
          · exact .inr h
        clear HB HBk
        rcases hkk with ⟨q1, q2, q3, q4⟩ | q1
        · go_wp2
          go_loopw [226] (fun vi wr => ∃ k : Nat, vi = .int .i64 k ∧ k ≤ N ∧ Below v29.heap.size v29 wr) (fun vi _ => N - (intOf vi).toNat)
          case atStart => exact ⟨0, rfl, Nat.zero_le _, Below.refl _ _⟩
          case round =>
            obtain ⟨j, rfl, hj, hbel⟩ := hrel
            have hzr := hbel.size
            have hF30 := hF29.call hbel; have hL30 := hL29.call hbel
            have cF30 := hF30.cell; have fF30 := hF30.frozen; have lF30 := hF30.lt; have cL30 := hL30.cell; have fL30 := hL30.frozen; have lL30 := hL30.lt
            have bel30 : Below w.heap.size w wr := below_via hb29w hbel (by omega)
            by_cases hlt : j < N
            · have hjK : j < K.length := by rw [HN.out]; exact hlt
              obtain ⟨gp, egp, lg, c1, c2⟩ := own_elemP (own_call hbel Hp.out) hjK
              subst egp
              obtain ⟨uu, vv, hq1, hq2, hb1, hb2, hat⟩ := HPK.out _ (List.getElem_mem hjK)
              generalize K[j] = q at *
              obtain ⟨X, Y⟩ := q
              dsimp only at hq1 hq2 hb1 hb2 hat c1 c2
              have HVA := Lib.hid (fun w => implVA_g f.a f.b f.c X Y r.a w HFm.out hat)
              have HIn := Lib.hid (fun w => isIn_any A B D uu vv X Y w HV.out hq1 hq2 (by omega) (by omega))
              have ng := Nat.ne_of_lt lg
              have nl := Nat.ne_of_lt lL30; have nf := Nat.ne_of_lt lF30
              have kI : (j : Int) < (N : Int) := by omega
              clear hq1 hq2 hb1 hb2 hat
              go_wp2_with fail
              refine (HVA.out _).mono ?_
              rintro e v31 ⟨hres, hc31⟩
              have hz31 := hc31.size
              simp at hz31
              have hP31 : Blk v31 wr.heap.size 51 #[.int .i64 X, .int .i64 Y] := Blk.call (by (repeat (first | with_reducible assumption | (with_reducible apply Blk.new_at; (first | rfl | (simp; done))) | with_reducible apply Blk.store3 | with_reducible apply Blk.store4 | (with_reducible apply Blk.farp; (first | omega | (simp <;> omega))) | with_reducible apply Blk.allocp | with_reducible apply Blk.drew | with_reducible apply Blk.drewN))) hc31
              have hL31 : Blk v31 (v21.heap.size + 1) 32 #[.int .i64 A, .int .i64 B, .int .i64 D] := Blk.call (by (repeat (first | with_reducible assumption | (with_reducible apply Blk.new_at; (first | rfl | (simp; done))) | with_reducible apply Blk.store3 | with_reducible apply Blk.store4 | (with_reducible apply Blk.farp; (first | omega | (simp <;> omega))) | with_reducible apply Blk.allocp | with_reducible apply Blk.drew | with_reducible apply Blk.drewN))) hc31
              have cP31 := hP31.cell; have fP31 := hP31.frozen; have lP31 := hP31.lt; have cL31 := hL31.cell; have fL31 := hL31.frozen; have lL31 := hL31.lt
              have bel31 : Below v29.heap.size v29 v31 := (by repeat (first | with_reducible exact Below.refl _ _ | with_reducible assumption | with_reducible apply Below.drew | with_reducible apply below_drewN | (with_reducible apply below_setp; (first | omega | (simp <;> omega))) | (with_reducible apply below_allocp; (first | omega | (simp <;> omega))) | (with_reducible refine below_viap (by assumption) ?_ ?_; (first | omega | (simp <;> omega)))))
              clear hc31 c1 c2 cL30 fL30 lL30 cF30 fF30 lF30 nl nf ng lg
              rcases hres with rfl | rfl
              all_goals
                go_wp2_with fail
                refine (HIn.out _).mono ?_
                rintro e v32 ⟨⟨b, rfl⟩, hc32⟩
                have hz32 := hc32.size
                (try simp at hz32)
                have bel32 : Below v29.heap.size v29 v32 := (by repeat (first | with_reducible exact Below.refl _ _ | with_reducible assumption | with_reducible apply Below.drew | with_reducible apply below_drewN | (with_reducible apply below_setp; (first | omega | (simp <;> omega))) | (with_reducible apply below_allocp; (first | omega | (simp <;> omega))) | (with_reducible refine below_viap (by assumption) ?_ ?_; (first | omega | (simp <;> omega)))))
                clear hc32
                cases b
                all_goals
                  go_wp2
                  go_roundw
                  case rel => exact ⟨j + 1, by go_num, hlt, bel32⟩
                  case measure => (first | (simp [intOf]; done) | (simp [intOf]; omega))
            · obtain rfl : j = N := by omega
              go_wp2
              go_ret
              exact ⟨rfl, bel30⟩
        · go_wp2
          go_loopw [226] (fun vi wr => ∃ k : Nat, vi = .int .i64 k ∧ k ≤ N ∧ Below v29.heap.size v29 wr) (fun vi _ => N - (intOf vi).toNat)
          case atStart => exact ⟨0, rfl, Nat.zero_le _, Below.refl _ _⟩
          case round =>
            obtain ⟨j, rfl, hj, hbel⟩ := hrel
            have hzr := hbel.size
            have hF30 := hF29.call hbel; have hL30 := hL29.call hbel
            have cF30 := hF30.cell; have fF30 := hF30.frozen; have lF30 := hF30.lt; have cL30 := hL30.cell; have fL30 := hL30.frozen; have lL30 := hL30.lt
            have bel30 : Below w.heap.size w wr := below_via hb29w hbel (by omega)
            by_cases hlt : j < N
            · have hjK : j < K.length := by rw [HN.out]; exact hlt
              obtain ⟨gp, egp, lg, c1, c2⟩ := own_elemP (own_call hbel Hp.out) hjK
              subst egp
              obtain ⟨uu, vv, hq1, hq2, hb1, hb2, hat⟩ := HPK.out _ (List.getElem_mem hjK)
              generalize K[j] = q at *
              obtain ⟨X, Y⟩ := q
              dsimp only at hq1 hq2 hb1 hb2 hat c1 c2
              have HVA := Lib.hid (fun w => implVA_g f.a f.b f.c X Y r.a w HFm.out hat)
              have HIn := Lib.hid (fun w => isIn_any A B D uu vv X Y w HV.out hq1 hq2 (by omega) (by omega))
              have ng := Nat.ne_of_lt lg
              have nl := Nat.ne_of_lt lL30; have nf := Nat.ne_of_lt lF30
              have kI : (j : Int) < (N : Int) := by omega
              clear hq1 hq2 hb1 hb2 hat
              go_wp2_with fail
              refine (HVA.out _).mono ?_
              rintro e v31 ⟨hres, hc31⟩
              have hz31 := hc31.size
              simp at hz31
              have hP31 : Blk v31 wr.heap.size 51 #[.int .i64 X, .int .i64 Y] := Blk.call (by (repeat (first | with_reducible assumption | (with_reducible apply Blk.new_at; (first | rfl | (simp; done))) | with_reducible apply Blk.store3 | with_reducible apply Blk.store4 | (with_reducible apply Blk.farp; (first | omega | (simp <;> omega))) | with_reducible apply Blk.allocp | with_reducible apply Blk.drew | with_reducible apply Blk.drewN))) hc31
              have hL31 : Blk v31 (v21.heap.size + 1) 32 #[.int .i64 A, .int .i64 B, .int .i64 D] := Blk.call (by (repeat (first | with_reducible assumption | (with_reducible apply Blk.new_at; (first | rfl | (simp; done))) | with_reducible apply Blk.store3 | with_reducible apply Blk.store4 | (with_reducible apply Blk.farp; (first | omega | (simp <;> omega))) | with_reducible apply Blk.allocp | with_reducible apply Blk.drew | with_reducible apply Blk.drewN))) hc31
              have cP31 := hP31.cell; have fP31 := hP31.frozen; have lP31 := hP31.lt; have cL31 := hL31.cell; have fL31 := hL31.frozen; have lL31 := hL31.lt
              have bel31 : Below v29.heap.size v29 v31 := (by repeat (first | with_reducible exact Below.refl _ _ | with_reducible assumption | with_reducible apply Below.drew | with_reducible apply below_drewN | (with_reducible apply below_setp; (first | omega | (simp <;> omega))) | (with_reducible apply below_allocp; (first | omega | (simp <;> omega))) | (with_reducible refine below_viap (by assumption) ?_ ?_; (first | omega | (simp <;> omega)))))
              clear hc31 c1 c2 cL30 fL30 lL30 cF30 fF30 lF30 nl nf ng lg
              rcases hres with rfl | rfl
              all_goals
                go_wp2_with fail
                refine (HIn.out _).mono ?_
                rintro e v32 ⟨⟨b, rfl⟩, hc32⟩
                have hz32 := hc32.size
                (try simp at hz32)
                have bel32 : Below v29.heap.size v29 v32 := (by repeat (first | with_reducible exact Below.refl _ _ | with_reducible assumption | with_reducible apply Below.drew | with_reducible apply below_drewN | (with_reducible apply below_setp; (first | omega | (simp <;> omega))) | (with_reducible apply below_allocp; (first | omega | (simp <;> omega))) | (with_reducible refine below_viap (by assumption) ?_ ?_; (first | omega | (simp <;> omega)))))
                clear hc32
                cases b
                all_goals
                  go_wp2
                  go_roundw
                  case rel => exact ⟨j + 1, by go_num, hlt, bel32⟩
                  case measure => (first | (simp [intOf]; done) | (simp [intOf]; omega))
            · obtain rfl : j = N := by omega
              go_wp2
              go_ret
              exact ⟨rfl, bel30⟩
      · have HI := Lib.hid (fun w => implSP_no f A B D w hA)
        have HS := Lib.hid (fun w => specSP_no f A B D w hA)
        clear hA
        go_wp2_with fail
        refine (HI.out _).mono ?_
        rintro e v22 ⟨vp, rfl, hp22, hc22⟩
        have hz22 := hc22.size
        (try simp at hz22)
        have hF22 : Blk v22 (v21.heap.size) 36 #[.int .i64 f.a, .int .i64 f.b, .int .i64 f.c] := Blk.call (by (repeat (first | with_reducible assumption | (with_reducible apply Blk.new_at; (first | rfl | (simp; done))) | with_reducible apply Blk.store3 | with_reducible apply Blk.store4 | (with_reducible apply Blk.farp; (first | omega | (simp <;> omega))) | with_reducible apply Blk.allocp | with_reducible apply Blk.drew | with_reducible apply Blk.drewN))) hc22
        have cF22 := hF22.cell; have fF22 := hF22.frozen; have lF22 := hF22.lt; have mF22 := Nat.ne_of_gt lF22; have nF22 := Nat.ne_of_lt lF22
        have hL22 : Blk v22 (v21.heap.size + 1) 32 #[.int .i64 A, .int .i64 B, .int .i64 D] := Blk.call (by (repeat (first | with_reducible assumption | (with_reducible apply Blk.new_at; (first | rfl | (simp; done))) | with_reducible apply Blk.store3 | with_reducible apply Blk.store4 | (with_reducible apply Blk.farp; (first | omega | (simp <;> omega))) | with_reducible apply Blk.allocp | with_reducible apply Blk.drew | with_reducible apply Blk.drewN))) hc22
        have cL22 := hL22.cell; have fL22 := hL22.frozen; have lL22 := hL22.lt; have mL22 := Nat.ne_of_gt lL22; have nL22 := Nat.ne_of_lt lL22
        have hb22 : Below w.heap.size w v22 := (by repeat (first | with_reducible exact Below.refl _ _ | with_reducible assumption | with_reducible apply Below.drew | with_reducible apply below_drewN | (with_reducible apply below_setp; (first | omega | (simp <;> omega))) | (with_reducible apply below_allocp; (first | omega | (simp <;> omega))) | (with_reducible refine below_viap (by assumption) ?_ ?_; (first | omega | (simp <;> omega)))))
        go_wp2_with fail
        refine (HS.out _).mono ?_
        rintro e v23 ⟨rfl, hc23⟩
        have hz23 := hc23.size
        (try simp at hz23)
        have hF23 : Blk v23 (v21.heap.size) 36 #[.int .i64 f.a, .int .i64 f.b, .int .i64 f.c] := Blk.call (by (repeat (first | with_reducible assumption | (with_reducible apply Blk.new_at; (first | rfl | (simp; done))) | with_reducible apply Blk.store3 | with_reducible apply Blk.store4 | (with_reducible apply Blk.farp; (first | omega | (simp <;> omega))) | with_reducible apply Blk.allocp | with_reducible apply Blk.drew | with_reducible apply Blk.drewN))) hc23
        have cF23 := hF23.cell; have fF23 := hF23.frozen; have lF23 := hF23.lt; have mF23 := Nat.ne_of_gt lF23; have nF23 := Nat.ne_of_lt lF23
        have hL23 : Blk v23 (v21.heap.size + 1) 32 #[.int .i64 A, .int .i64 B, .int .i64 D] := Blk.call (by (repeat (first | with_reducible assumption | (with_reducible apply Blk.new_at; (first | rfl | (simp; done))) | with_reducible apply Blk.store3 | with_reducible apply Blk.store4 | (with_reducible apply Blk.farp; (first | omega | (simp <;> omega))) | with_reducible apply Blk.allocp | with_reducible apply Blk.drew | with_reducible apply Blk.drewN))) hc23
        have cL23 := hL23.cell; have fL23 := hL23.frozen; have lL23 := hL23.lt; have mL23 := Nat.ne_of_gt lL23; have nL23 := Nat.ne_of_lt lL23
        have hp23 := own_call hc23 hp22
        have hb23 : Below w.heap.size w v23 := (by repeat (first | with_reducible exact Below.refl _ _ | with_reducible assumption | with_reducible apply Below.drew | with_reducible apply below_drewN | (with_reducible apply below_setp; (first | omega | (simp <;> omega))) | (with_reducible apply below_allocp; (first | omega | (simp <;> omega))) | (with_reducible refine below_viap (by assumption) ?_ ?_; (first | omega | (simp <;> omega)))))
        clear hF22 cF22 fF22 lF22 mF22 nF22 hL22 cL22 fL22 lL22 mL22 nL22 hp22
        have h00 : ((0 : Int) != 0) = false := rfl
        go_wp2_with fail
        refine (pSamePoints_same _ _ w.heap.size w.heap.size [] _ (by simp) (own_base (by first | omega | (simp <;> omega)) hp23) ⟨rfl, .inl ⟨rfl, rfl⟩⟩).mono ?_
        rintro e v24 ⟨rfl, hc24⟩
        have hz24 := hc24.size
        (try simp at hz24)
        have hF24 : Blk v24 (v21.heap.size) 36 #[.int .i64 f.a, .int .i64 f.b, .int .i64 f.c] := Blk.call (by (repeat (first | with_reducible assumption | (with_reducible apply Blk.new_at; (first | rfl | (simp; done))) | with_reducible apply Blk.store3 | with_reducible apply Blk.store4 | (with_reducible apply Blk.farp; (first | omega | (simp <;> omega))) | with_reducible apply Blk.allocp | with_reducible apply Blk.drew | with_reducible apply Blk.drewN))) hc24
        have cF24 := hF24.cell; have fF24 := hF24.frozen; have lF24 := hF24.lt; have mF24 := Nat.ne_of_gt lF24; have nF24 := Nat.ne_of_lt lF24
        have hL24 : Blk v24 (v21.heap.size + 1) 32 #[.int .i64 A, .int .i64 B, .int .i64 D] := Blk.call (by (repeat (first | with_reducible assumption | (with_reducible apply Blk.new_at; (first | rfl | (simp; done))) | with_reducible apply Blk.store3 | with_reducible apply Blk.store4 | (with_reducible apply Blk.farp; (first | omega | (simp <;> omega))) | with_reducible apply Blk.allocp | with_reducible apply Blk.drew | with_reducible apply Blk.drewN))) hc24
        have cL24 := hL24.cell; have fL24 := hL24.frozen; have lL24 := hL24.lt; have mL24 := Nat.ne_of_gt lL24; have nL24 := Nat.ne_of_lt lL24
        have hp24 := own_call hc24 hp23
        have hb24 : Below w.heap.size w v24 := (by repeat (first | with_reducible exact Below.refl _ _ | with_reducible assumption | with_reducible apply Below.drew | with_reducible apply below_drewN | (with_reducible apply below_setp; (first | omega | (simp <;> omega))) | (with_reducible apply below_allocp; (first | omega | (simp <;> omega))) | (with_reducible refine below_viap (by assumption) ?_ ?_; (first | omega | (simp <;> omega)))))
        clear hF23 cF23 fF23 lF23 mF23 nF23 hL23 cL23 fL23 lL23 mL23 nL23 hp23
        go_wp2
        go_ret
        exact ⟨rfl, (by repeat (first | with_reducible exact Below.refl _ _ | with_reducible assumption | with_reducible apply Below.drew | with_reducible apply below_drewN | (with_reducible apply below_setp; (first | omega | (simp <;> omega))) | (with_reducible apply below_allocp; (first | omega | (simp <;> omega))) | (with_reducible refine below_viap (by assumption) ?_ ?_; (first | omega | (simp <;> omega)))))⟩
  · have Hb := Lib.hid (fun w => big_yes A0 A2 zs.length es.length c1' c2' w hbig)
    clear HZ HY hbig
    go_enter Tryz.func3, Tryz.ntmps3
    go_wp2_with (go_at_call 4; (with_reducible refine (Hb.out _).mono ?_); rintro e v ⟨rfl, rfl⟩)
    go_ret
    exact ⟨rfl, (by repeat (first | with_reducible exact Below.refl _ _ | with_reducible assumption | with_reducible apply Below.drew | with_reducible apply below_drewN | (with_reducible apply below_setp; (first | omega | (simp <;> omega))) | (with_reducible apply below_allocp; (first | omega | (simp <;> omega))) | (with_reducible refine below_viap (by assumption) ?_ ?_; (first | omega | (simp <;> omega)))))⟩
theorem own_FnSublattices : ownKnob Tryz.prog.godebug = none := by kernel_rfl

set_option maxRecDepth 100000 in
theorem lifted_FnSublattices (os : Os) (started : os.Started) (H : Type) (enc : TypeId × Value → H) :
    ReturnsInHanded {} Tryz.checked os 3 .any (Rows.fnSublatticesSpec.pre6 enc Tryz.prog Tryz.f3 Rows.fnSublatticesRow.domain false) (Rows.fnSublatticesSpec.post enc Tryz.prog Tryz.f3 false true false false) := by
  refine returnsInHanded_of_change (C := Tryz.checked) own_FnSublattices started (by kernel_rfl) Tryz.func3
    (ChangeSpec.witness6 (enc := enc) (C := Tryz.checked) false ⟨#[], #[.slice none 0 0, .slice none 0 0], []⟩ 8 (by kernel_rfl) (by kernel_rfl) (by kernel_rfl) (by kernel_rfl)) ?_
  intro W base args ds gs before hval0 hW hcnd _
  have hval : ∀ (j : Nat) t v, Tryz.f3.params[j]? = some t → args[j]? = some v → Value.okWide Tryz.prog W .any base t v := hval0
  have hW' := hW
  obtain ⟨p, q, hA0, hV, rfl, hfz, hnd⟩ := hW
  have hA : DataW.TrodAll enc Tryz.prog W 0 (fun _ => true) true Tryz.f3.params.toList args.toList ds p := hA0
  rw [Tryz.params3] at hA hval
  obtain ⟨v1, vs1, d1, ds1, p1, q1, hargs, rfl, rfl, h1, r1⟩ := trodAll_cons hA
  obtain ⟨v2, vs2, d2, ds2, p2, q2, rfl, rfl, rfl, h2, r2⟩ := trodAll_cons r1
  obtain ⟨rfl, rfl, rfl⟩ := trodAll_nil r2
  obtain rfl : args = #[v1, v2] := by cases args; simp_all
  obtain ⟨rfl, rfl⟩ := trodVars_none hV
  obtain ⟨zs, hrd⟩ := open_reB (hval 0 22 v1 rfl rfl) h1
  obtain ⟨es, hre⟩ := open_reB (hval 1 22 v2 rfl rfl) h2
  have hlt1 : ∀ x ∈ p1, x.block < W.heap.size := fun x hx => hW'.lt x (by simp [hx])
  have hlt2 : ∀ x ∈ p2, x.block < W.heap.size := fun x hx => hW'.lt x (by simp [hx])
  clear hA0 hval0
  refine (walk_FnSublattices zs es v1 v2 W hrd hre).mono fun e W' ⟨he, hg⟩ => ?_
  subst he
  exact ⟨_, rfl, post_of_below (pa := p1 ++ (p2 ++ [])) (pv := []) hW' (fun _ _ _ => (trodAll_cons_mk (shut_bool Tryz.underlying4 _) trodAll_mk0)) (fun sp hsp => (trodAll_cons_mk (WideElems.Trod_stays laid_D3 (by kernel_rfl) (of_decide_eq_true (by kernel_rfl)) h1 (fun x hx => hg.same (hlt1 x hx)) (fun x hx => hsp x (by simp [hx]))) (trodAll_cons_mk (WideElems.Trod_stays laid_D3 (by kernel_rfl) (of_decide_eq_true (by kernel_rfl)) h2 (fun x hx => hg.same (hlt2 x hx)) (fun x hx => hsp x (by simp [hx]))) trodAll_mk0))) (fun _ _ => rfl) rfl
    hg (ok_one (by kernel_rfl) rfl (okWide_bool_mk Tryz.underlying4 _))⟩

theorem and2_FnSublattices {a b : Bool} (h : a = true) (k : b = true) : (a && b) = true := by rw [h, k]; rfl
set_option maxRecDepth 100000 in
theorem cl0_FnSublattices : (Rows.fnSublatticesRow.wf (OpenSpec.ofChange Rows.fnSublatticesSpec)) = true := by kernel_rfl
set_option maxRecDepth 100000 in
theorem cl1_FnSublattices : (laidOutB Tryz.pinned.checked.prog) = true := by kernel_rfl
set_option maxRecDepth 100000 in
theorem cl2_FnSublattices : (mapsRowed Tryz.pinned.checked.prog) = true := by kernel_rfl
set_option maxRecDepth 100000 in
theorem cl3_FnSublattices : (Tryz.f3.params.all (Tryz.pinned.checked.prog.readableRec ·)) = true := by kernel_rfl
set_option maxRecDepth 100000 in
theorem cl4_FnSublattices : (namedTie Tryz.pinned.checked.prog Rows.fnSublatticesRow.named Rows.fnSublatticesSpec.vars) = true := by kernel_rfl
set_option maxRecDepth 100000 in
theorem cl5_FnSublattices : (Rows.fnSublatticesRow.stops == []) = true := by kernel_rfl
set_option maxRecDepth 100000 in
theorem cl6_FnSublattices : (Tryz.pinned.checked.prog.stops == []) = true := by kernel_rfl
set_option maxRecDepth 100000 in
theorem cl7_FnSublattices : (Rows.fnSublatticesRow.knobs == []) = true := by kernel_rfl
set_option maxRecDepth 100000 in
theorem cl8_FnSublattices : (Tryz.pinned.checked.prog.stopKnobs == []) = true := by kernel_rfl
set_option maxRecDepth 100000 in
theorem cl9_FnSublattices : (Rows.fnSublatticesRow.inPlace == Tryz.pinned.checked.prog.inPlace 3) = true := by kernel_rfl
set_option maxRecDepth 100000 in
theorem cl10_FnSublattices : (Rows.fnSublatticesRow.unfollowed == Tryz.pinned.checked.prog.unfollowed 3) = true := by kernel_rfl
set_option maxRecDepth 100000 in
theorem cl11_FnSublattices : (Rows.fnSublatticesRow.recurses == Tryz.pinned.checked.prog.recurses 3) = true := by kernel_rfl
set_option maxRecDepth 100000 in
theorem cl12_FnSublattices : (Rows.fnSublatticesRow.named == Tryz.pinned.checked.prog.varsNamed 3) = true := by kernel_rfl
set_option maxRecDepth 100000 in
theorem cl13_FnSublattices : (Rows.fnSublatticesRow.maps == (Tryz.f3.params.toList ++ Rows.fnSublatticesSpec.plain.varTypes Tryz.pinned.checked.prog).any (Tryz.pinned.checked.prog.mapsRec ·)) = true := by kernel_rfl
set_option maxRecDepth 100000 in
theorem cl14_FnSublattices : (Rows.fnSublatticesRow.ifaces == (Tryz.f3.params.toList ++ Rows.fnSublatticesSpec.plain.varTypes Tryz.pinned.checked.prog).any (Tryz.pinned.checked.prog.ifacesRec ·)) = true := by kernel_rfl
set_option maxRecDepth 100000 in
theorem cl15_FnSublattices : (Rows.fnSublatticesRow.mapsOut == Tryz.pinned.checked.prog.mapsAmong Tryz.f3.resultTypes.toList) = true := by kernel_rfl
set_option maxRecDepth 100000 in
theorem cl16_FnSublattices : (Rows.fnSublatticesRow.loops == (Tryz.f3.params.toList ++ Rows.fnSublatticesSpec.plain.varTypes Tryz.pinned.checked.prog).any (Tryz.pinned.checked.prog.loopsFrom ·)) = true := by kernel_rfl
set_option maxRecDepth 100000 in
theorem cl17_FnSublattices : (Rows.fnSublatticesRow.wideKeys == (Tryz.f3.params.toList ++ Rows.fnSublatticesSpec.plain.varTypes Tryz.pinned.checked.prog ++ Tryz.f3.resultTypes.toList).any (Tryz.pinned.checked.prog.wideKeysFrom ·)) = true := by kernel_rfl
set_option maxRecDepth 100000 in
theorem cl18_FnSublattices : (Rows.fnSublatticesSpec.vars.all (Tryz.pinned.checked.prog.varReadable ·)) = true := by kernel_rfl
set_option maxRecDepth 100000 in
theorem cl19_FnSublattices : (Tryz.f3.resultTypes.all (fun t => Tryz.pinned.checked.prog.readableRec t && decide (t < Tryz.pinned.checked.prog.types.size))) = true := by kernel_rfl
set_option maxRecDepth 100000 in
theorem cl20_FnSublattices : (Rows.fnSublatticesRow.ifacesOut == Tryz.f3.resultTypes.toList.any (Tryz.pinned.checked.prog.ifacesRec ·)) = true := by kernel_rfl
set_option maxRecDepth 100000 in
theorem cl21_FnSublattices : (Rows.fnSublatticesRow.loopsOut == Tryz.f3.resultTypes.toList.any (Tryz.pinned.checked.prog.loopsFrom ·)) = true := by kernel_rfl
set_option maxRecDepth 100000 in
theorem cl22_FnSublattices : (Rows.fnSublatticesRow.plainKeys == Tryz.pinned.checked.prog.plainKeys) = true := by kernel_rfl
set_option maxRecDepth 100000 in
theorem cl23_FnSublattices : (Rows.fnSublatticesRow.shortTexts.isNone) = true := by kernel_rfl
set_option maxRecDepth 100000 in
theorem cl24_FnSublattices : (Tryz.pinned.checked.prog.stopsHeard) = true := by kernel_rfl
set_option maxRecDepth 100000 in
theorem cl25_FnSublattices : (Tryz.pinned.checked.prog.mayEnter) = true := by kernel_rfl
set_option maxRecDepth 100000 in
theorem cl26_FnSublattices : (Rows.fnSublatticesRow.lifted == Tryz.pinned.checked.prog.liftsFinal) = true := by kernel_rfl
set_option maxRecDepth 100000 in
theorem cl27_FnSublattices : (Tryz.pinned.checked.prog.make == some Rows.fnSublatticesRow.make) = true := by kernel_rfl
set_option maxRecDepth 100000 in
theorem cl28_FnSublattices : (Rows.fnSublatticesRow.kinds == (if Rows.fnSublatticesRow.domain.isEmpty then [] else Tryz.f3.params.toList.map fun t => match Tryz.pinned.checked.prog.underlying t with | some (.int k) => some k | _ => none)) = true := by kernel_rfl
set_option maxRecDepth 100000 in
theorem cl29_FnSublattices : (Rows.fnSublatticesRow.pinned == Rows.fnSublatticesRow.pinnedBy) = true := by kernel_rfl
set_option maxRecDepth 100000 in
theorem cl30_FnSublattices : (Rows.fnSublatticesRow.veiled == (Tryz.f3.params.toList ++ Rows.fnSublatticesSpec.plain.varTypes Tryz.pinned.checked.prog ++ Tryz.f3.resultTypes.toList).any (Tryz.pinned.checked.prog.veiledRec ·)) = true := by kernel_rfl
set_option maxRecDepth 100000 in
theorem cl31_FnSublattices : (Rows.fnSublatticesRow.veiledFits Tryz.pinned.checked.prog Tryz.f3.params.toList (Tryz.f3.params.toList ++ Rows.fnSublatticesSpec.plain.varTypes Tryz.pinned.checked.prog ++ Tryz.f3.resultTypes.toList)) = true := by kernel_rfl
set_option maxRecDepth 100000 in
theorem closed_FnSublattices : joinedFacts Tryz.pinned.checked.prog 3 Tryz.f3 Rows.fnSublatticesSpec Rows.fnSublatticesRow = true := (and2_FnSublattices (and2_FnSublattices (and2_FnSublattices (and2_FnSublattices (and2_FnSublattices (and2_FnSublattices (and2_FnSublattices (and2_FnSublattices (and2_FnSublattices (and2_FnSublattices (and2_FnSublattices (and2_FnSublattices (and2_FnSublattices (and2_FnSublattices (and2_FnSublattices (and2_FnSublattices (and2_FnSublattices (and2_FnSublattices (and2_FnSublattices (and2_FnSublattices (and2_FnSublattices (and2_FnSublattices (and2_FnSublattices (and2_FnSublattices (and2_FnSublattices (and2_FnSublattices (and2_FnSublattices (and2_FnSublattices (and2_FnSublattices (and2_FnSublattices (and2_FnSublattices cl0_FnSublattices cl1_FnSublattices) cl2_FnSublattices) cl3_FnSublattices) cl4_FnSublattices) cl5_FnSublattices) cl6_FnSublattices) cl7_FnSublattices) cl8_FnSublattices) cl9_FnSublattices) cl10_FnSublattices) cl11_FnSublattices) cl12_FnSublattices) cl13_FnSublattices) cl14_FnSublattices) cl15_FnSublattices) cl16_FnSublattices) cl17_FnSublattices) cl18_FnSublattices) cl19_FnSublattices) cl20_FnSublattices) cl21_FnSublattices) cl22_FnSublattices) cl23_FnSublattices) cl24_FnSublattices) cl25_FnSublattices) cl26_FnSublattices) cl27_FnSublattices) cl28_FnSublattices) cl29_FnSublattices) cl30_FnSublattices) cl31_FnSublattices)


/-- The statement. -/
theorem holds_FnSublattices : Rows.FnSublatticesSaid :=
  OpenClaim.holds_of_wide 3 Tryz.f3 rfl rfl rfl rfl rfl rfl rfl ⟨rfl, rfl, rfl, rfl, rfl⟩ rfl rfl rfl rfl rfl (by kernel_rfl) Tryz.func3 closed_FnSublattices
    (of_decide_eq_true (by kernel_rfl)) (by unfold Func.isWrapper; first | (rw [if_pos (by decide +kernel)]; kernel_rfl) | (rw [if_neg (by decide +kernel)]; exact ⟨rfl, rfl⟩))
    (fun os started H enc _ => lifted_FnSublattices os started H enc)
#print axioms holds_FnSublattices
end Go.Proofs.YtblcmkhkbgikoaaGreat
