/- Contracts of WalkComponents, of the reference: the walk. -/
import Derived.Test.YtcijjnjgifoipaaHH
namespace Go.Proofs.Ytcijjnjgifoipaa
open Go.RowKit Go.Maps

set_option maxHeartbeats 400000 in
theorem l1Least_any (x y : Int) (w : World) : Calls Try.prog 55 #[.int .i64 x, .int .i64 y] w fun e w' => e = .returned (.int .i64 (min x y)) ∧ w = w' := by
  by_cases h : x < y
  · have e : min x y = x := by omega
    rw [e]; clear e
    go_enter Try.func55, Try.ntmps55
    go_wp2
    go_ret
    exact ⟨rfl, rfl⟩
  · have e : min x y = y := by omega
    rw [e]; clear e
    go_enter Try.func55, Try.ntmps55
    go_wp2
    go_ret
    exact ⟨rfl, rfl⟩
theorem mtL_pos {L : List Fm} {p : Int} : ∀ g ∈ mtL L p, ∀ x ∈ g, 0 ≤ x := by
  intro g hg x hx
  obtain ⟨f, _, rfl⟩ := List.mem_map.1 hg
  unfold ctR at hx
  obtain ⟨k, _, rfl⟩ := List.mem_map.1 hx
  omega

set_option maxRecDepth 100000 in
set_option maxHeartbeats 12800000 in
theorem specWc_any (d : Int) (v : Value) (B : Nat) (Z : List Int) (Gr : List (List Fm)) (ok : Bool) (w : World) (hlz : Z.length ≤ 10000000) (h : WcP d Z Gr ok) (ho : w.ownsRow B 3 1 v Z.length (cellsI Z)) :
    Calls Try.prog 22 #[.int .i64 d, v] w (RetWc Gr ok w) := by
  have hIx := Lib.hid (fun w ho => hkPrimes_any v B Z w hlz ho)
  obtain ⟨bz, cz, rfl⟩ := own_shape ho
  have HO := Lib.hid ho
  clear ho
  rcases h with ⟨hb, rfl, rfl⟩ | ⟨hc, hi, rfl, rfl⟩
  · rcases hb with hc | ⟨hc, hi⟩
    · go_enter Try.func22, Try.ntmps22
      go_wp2_with (go_at_call 29; (with_reducible refine (rDisc_eq d false _ hc).mono ?_); rintro e v ⟨rfl, rfl⟩)
      go_ret2
      exact ⟨_, rfl, NestF.nil, (by repeat (first | with_reducible exact Below.refl _ _ | with_reducible assumption | with_reducible apply Below.drew | with_reducible apply below_drewN | (with_reducible apply below_setp; (first | omega | (simp <;> omega))) | (with_reducible apply below_allocp; (first | omega | (simp <;> omega))) | (with_reducible refine below_viap (by assumption) ?_ ?_; (first | omega | (simp <;> omega)))))⟩
    · rw [hi] at hIx
      go_enter Try.func22, Try.ntmps22
      go_wp2_with (first | (go_at_call 29; (with_reducible refine (rDisc_eq d true _ hc).mono ?_); rintro e v ⟨rfl, rfl⟩) | (go_at_call 51; (with_reducible refine (hIx.out _ HO.out).mono ?_); rintro e v ⟨rfl, rfl⟩))
      go_ret2
      exact ⟨_, rfl, NestF.nil, (by repeat (first | with_reducible exact Below.refl _ _ | with_reducible assumption | with_reducible apply Below.drew | with_reducible apply below_drewN | (with_reducible apply below_setp; (first | omega | (simp <;> omega))) | (with_reducible apply below_allocp; (first | omega | (simp <;> omega))) | (with_reducible refine below_viap (by assumption) ?_ ?_; (first | omega | (simp <;> omega)))))⟩
  · have D := dsc_of hc
    obtain ⟨hZ, hZ6⟩ := ixs_mem hi
    rw [hi] at hIx
    obtain ⟨i0, hi0, hz0, hz1, hz2⟩ := info_parts infoForm
    obtain ⟨j0, hj0, hy0, hy1, hy2⟩ := info_parts infoSlF
    have hG := Lib.hid (fun w => reList_any d w D.lo D.hi)
    have hMt := Lib.hid (fun p (hp : 2 ≤ p ∧ p ≤ 43) w => hkMatrix_any d p w D hp)
    have hl := clsL_len d
    have hl1 : 0 < (clsL d).length := List.length_pos_of_mem D.one
    generalize clsL d = L at *
    have hmk2 := run_make_row' (P := Try.prog) 25 3 (.int .i64 0) 8 Try.underlying25 infoInt rfl .i64 .i64 L.length (by omega) (by omega)
    have HZ := Lib.hid hZ
    clear D hi hZ
    go_enter Try.func22, Try.ntmps22
    go_wp2_with (first
      | (go_at_call 29; (with_reducible refine (rDisc_eq d true _ hc).mono ?_); rintro e v ⟨rfl, rfl⟩)
      | (go_at_call 51; (with_reducible refine (hIx.out _ HO.out).mono ?_); rintro e v ⟨rfl, rfl⟩)
      | (go_at_call 52; refine (hG.out _).mono ?_; rintro e w1 ⟨vl, rfl, howl, hb1⟩; have hz1' := hb1.size; obtain ⟨base, cap, rfl⟩ := own_shape howl))
    have HL := Lib.hid howl
    have hrm := World.rowIs_made w1 (.int .i64 0) L.length 3
    have hR0 : Hid (rowC (w1.alloc (.cells (madeCells #[.int .i64 0] L.length) 3)) w1.heap.size L.length (fun j => if j < 0 then (j : Int) else 0)) := Lib.hid (hrm.congr (fun j _ => by simp))
    clear hrm howl
    go_loopw [38] (fun vi wr => W1St w1.heap.size L.length (w1.alloc (.cells (madeCells #[.int .i64 0] L.length) 3)) vi wr) (fun vi _ => L.length - (intOf vi).toNat)
    case atStart => exact ⟨0, rfl, Nat.zero_le _, hR0, Lib.hid (grown_below _ (Below.refl _ _))⟩
    case round =>
      clear hR0
      obtain ⟨q, rfl, hq, hR, hgr⟩ := hrel
      by_cases hlt : q < L.length
      · have cR := hR.out.cell hlt
        have fR := hR.out.frozen q
        have lR := hR.out.lt
        have hR2 := Lib.hid ((hR.out.set q (.int .i64 (q : Int))).congr (g := fun j => .int .i64 (if j < q + 1 then (j : Int) else 0)) (fun j _ => by
          by_cases e : j = q
          · subst e; simp
          · dsimp only
            by_cases h2 : j < q
            · rw [if_neg e, if_pos h2, if_pos (by omega)]
            · rw [if_neg e, if_neg h2, if_neg (by omega)]))
        have hg2 := Lib.hid (grown_set1' (n := q) (u := .int .i64 (q : Int)) hgr.out)
        simp only [Nat.lt_irrefl, if_false] at cR
        clear hR hgr
        go_wp2
        go_roundw
        case rel => exact ⟨q + 1, rfl, hlt, hR2, hg2⟩
        case measure => simp [intOf]; omega
      · have e : q = L.length := by omega
        subst e
        have hRs : Hid (rowC wr w1.heap.size L.length (prC L Z 0)) := Lib.hid (hR.out.congr (fun j hj => by dsimp only; rw [if_pos hj]; rfl))
        clear hR
        go_wp2
        go_loopw [48] (fun vi wr => W2St (prC L Z) Z.length w1.heap.size L.length (w1.alloc (.cells (madeCells #[.int .i64 0] L.length) 3)) vi wr) (fun vi _ => Z.length - (intOf vi).toNat)
        case atStart => exact ⟨0, rfl, Nat.zero_le _, hRs, hgr⟩
        case round =>
          clear hRs hgr
          obtain ⟨t, rfl, ht, hR, hgr⟩ := hrel
          have hsz := hgr.out.size
          simp at hsz
          have hbA : Below w.heap.size w (w1.alloc (.cells (madeCells #[.int .i64 0] L.length) 3)) := (by repeat (first | with_reducible exact Below.refl _ _ | with_reducible assumption | with_reducible apply Below.drew | with_reducible apply below_drewN | (with_reducible apply below_setp; (first | omega | (simp <;> omega))) | (with_reducible apply below_allocp; (first | omega | (simp <;> omega))) | (with_reducible refine below_viap (by assumption) ?_ ?_; (first | omega | (simp <;> omega)))))
          have hbw : Below w.heap.size w wr := hbA.grown hgr.out (by simp; omega) (fun b hb => by injection hb with hb; omega)
          by_cases htt : t < Z.length
          · obtain ⟨gz, rfl, lz, z1⟩ := own_elemI (own_call hbw HO.out) htt
            have hzz : Z.getD t 0 = Z[t] := by simp [List.getD_eq_getElem?_getD, htt]
            have hpp := HZ.out _ (List.getElem_mem htt)
            have hM2 := Lib.hid (fun w => hMt.out Z[t] hpp w)
            have hnx : Hid (prC L Z (t + 1) = rwC (mtL L Z[t]) (prC L Z t) L.length) := Lib.hid (by rw [← hzz]; rfl)
            have hrw := mtL_rows (L := L) (p := Z[t])
            have hps := mtL_pos (L := L) (p := Z[t])
            have hcok := prC_ok (L := L) (Z := Z) hl t
            generalize Z[t] = p at z1 hpp hM2 hnx hrw hps
            generalize mtL L p = Gm at hM2 hnx hrw hps
            have Hrw := Lib.hid hrw
            have Hps := Lib.hid hps
            have Hcok := Lib.hid hcok
            have hgl := hrw.2
            clear hzz hrw hcok hps
            go_wp2_with (go_at_call 53; refine (hM2.out _).mono ?_; rintro e w3 ⟨vM, rfl, hNe, hb3⟩; have hz3 := hb3.size; obtain ⟨bM, cM, rfl⟩ := hNe.shape)
            have lR := hR.out.lt
            have hR3 : Hid (rowC w3 w1.heap.size L.length (rwC Gm (prC L Z t) 0)) := Lib.hid (hR.out.of_block (hb3.block _ lR))
            have HNe := Lib.hid hNe
            have hgr3 : Hid ((w1.alloc (.cells (madeCells #[.int .i64 0] L.length) 3)).grownBy w3 (some w1.heap.size)) := Lib.hid (hgr.out.trans (grown_below _ hb3))
            have lR3 : w1.heap.size < w3.heap.size := by omega
            have hwq1 : w1.heap.size < wr.heap.size := lR
            obtain ⟨c0, hc0⟩ : ∃ c0, prC L Z t = c0 := ⟨_, rfl⟩
            rw [hc0] at hnx hR3 Hcok
            obtain ⟨wq, rfl⟩ : ∃ wq : World, wq = wr := ⟨_, rfl⟩
            clear hR hgr hNe hb3 hc0
            go_loopw [56] (fun vi wr => W2St (rwC Gm c0) L.length w1.heap.size L.length w3 vi wr) (fun vi _ => L.length - (intOf vi).toNat)
            case atStart => exact ⟨0, rfl, Nat.zero_le _, hR3, Lib.hid (grown_below _ (Below.refl _ _))⟩
            case round =>
              clear hR3
              obtain ⟨i, rfl, hii, hR, hgr⟩ := hrel
              by_cases hit : i < L.length
              · obtain ⟨vs, hne⟩ := HNe.out
                have hne2 := hne.grown hgr.out hwq1
                obtain ⟨u, hu1, hu2, _⟩ := hne2.2.1 i (by omega)
                obtain ⟨gM, hgM, lM, _, cM1⟩ := own_val hne2.1 hu1
                obtain ⟨Rw, hRw⟩ : ∃ Rw, Gm[i]'(by omega) = Rw := ⟨_, rfl⟩
                rw [hRw] at hu2
                have hRl : Rw.length = L.length := by rw [← hRw]; exact Hrw.out.1 _ (List.getElem_mem _)
                have hgd : Gm.getD i [] = Rw := by rw [← hRw]; simp [List.getD_eq_getElem?_getD, show i < Gm.length by omega]
                have hnxr : Hid (rwC Gm c0 (i + 1) = colC Rw i (rwC Gm c0 i) L.length) := Lib.hid (by rw [rwC, hgd, hRl])
                have hok := Lib.hid (Hcok.out.rw Hrw.out.1 Hrw.out.2 i (by omega))
                have hRp := Lib.hid (show ∀ x ∈ Rw, 0 ≤ x from by rw [← hRw]; exact Hps.out _ (List.getElem_mem _))
                clear hRw
                obtain ⟨br, cr, rfl⟩ := own_shape hu2
                have HU := Lib.hid (show wr.ownsRow wq.heap.size 3 1 (.slice br Rw.length cr) Rw.length (cellsI Rw) from hu2)
                obtain ⟨ci, hci⟩ : ∃ ci, rwC Gm c0 i = ci := ⟨_, rfl⟩
                rw [hci] at hR hok hnxr
                have hR4 : Hid (rowC wr w1.heap.size L.length (colC Rw i ci 0)) := hR
                have hgr4 := Lib.hid (hgr.out)
                have hszr := hgr.out.size
                subst hgM
                clear hne hne2 hu1 hu2 hgd hci hR
                obtain ⟨wp, rfl⟩ : ∃ wp : World, wp = wr := ⟨_, rfl⟩
                go_wp2
                go_loopw [63] (fun vi wr => W2St (colC Rw i ci) L.length w1.heap.size L.length wp vi wr) (fun vi _ => L.length - (intOf vi).toNat)
                case atStart => exact ⟨0, rfl, Nat.zero_le _, hR4, Lib.hid (grown_below _ (Below.refl _ _))⟩
                case round =>
                  clear hR4
                  obtain ⟨q, rfl, hqq, hR, hgr⟩ := hrel
                  have hszq := hgr.out.size
                  by_cases hqt : q < L.length
                  · obtain ⟨gr, rfl, lr, cR1⟩ := own_elemI (HU.out.kept hgr.out (own_ne HU.out hwq1)) (k := q) (by omega)
                    have hqd : Rw.getD q 0 = Rw[q]'(by omega) := by simp [List.getD_eq_getElem?_getD, show q < Rw.length by omega]
                    have hcol : Hid (colC Rw i ci (q + 1) = if 0 < Rw[q]'(by omega) then mrgC (colC Rw i ci q) i q else colC Rw i ci q) := Lib.hid (by rw [colC, hqd])
                    have hokq := hok.out.col (R := Rw) hit q hqq
                    have hx0 := hRp.out _ (List.getElem_mem (show q < Rw.length by omega))
                    generalize Rw[q]'(by omega) = x at cR1 hcol hx0
                    by_cases hx : 0 < x
                    · have hcl : Hid (colC Rw i ci (q + 1) = mrgC (colC Rw i ci q) i q) := Lib.hid (by rw [hcol.out, if_pos hx])
                      have hxb : (x == 0) = false := by rw [beq_eq_false_iff_ne]; omega
                      obtain ⟨c, hcE⟩ : ∃ c, colC Rw i ci q = c := ⟨_, rfl⟩
                      rw [hcE] at hR hcl hokq
                      have Hc := Lib.hid hokq
                      have HR := Lib.hid hR.out
                      have c1 := hR.out.cell hit
                      have c2 := hR.out.cell hqt
                      have lR := hR.out.lt
                      obtain ⟨x1, x2⟩ := hokq i hit
                      obtain ⟨y1, y2⟩ := hokq q hqt
                      have hM : Hid (∀ j, mrgC c i q j = if c j = max (c i) (c q) then min (c i) (c q) else c j) := Lib.hid (fun _ => rfl)
                      have Hgr := Lib.hid hgr.out
                      obtain ⟨xx, hxx⟩ : ∃ xx, c i = xx := ⟨_, rfl⟩
                      obtain ⟨yy, hyy⟩ : ∃ yy, c q = yy := ⟨_, rfl⟩
                      simp only [hxx] at c1 x1 x2 hM
                      simp only [hyy] at c2 y1 y2 hM
                      obtain ⟨hi, hhi⟩ : ∃ hi, max xx yy = hi := ⟨_, rfl⟩
                      obtain ⟨lo, hlo⟩ : ∃ lo, min xx yy = lo := ⟨_, rfl⟩
                      have hMo := Lib.hid (fun w => l1Most_any xx yy w)
                      have hLe := Lib.hid (fun w => l1Least_any xx yy w)
                      rw [hhi] at hMo
                      rw [hlo] at hLe
                      have hM3 : Hid (∀ j, mrgC c i q j = if c j = hi then lo else c j) := Lib.hid (fun j => by rw [hM.out j, hhi, hlo])
                      clear hcol hqd hokq hR hgr hxx hyy hhi hlo hcE
                      go_wp2
                      go_region
                      go_wp2
                      obtain ⟨ws, rfl⟩ : ∃ ws : World, ws = wr := ⟨_, rfl⟩
                      go_loopw [80] (fun vj wr => MgSt c i q w1.heap.size L.length ws vj wr) (fun vj _ => L.length - (intOf vj).toNat)
                      case atStart => exact ⟨0, rfl, Nat.zero_le _, Lib.hid (by rw [mrgU_zero]; exact HR.out), Lib.hid (grown_below _ (by first | exact Below.refl _ _ | exact (Below.refl _ _).drew))⟩
                      case round =>
                        obtain ⟨s, rfl, hs, hR, hgr⟩ := hrel
                        by_cases hst : s < L.length
                        · have cR := hR.out.cell hst
                          have fR := hR.out.frozen s
                          have lR := hR.out.lt
                          have hnx := mrgU_next c i q s
                          have hqv : mrgU c i q s s = c s := by unfold mrgU; rw [if_neg (by omega)]
                          have hMq := hM3.out s
                          simp only [hqv] at cR
                          obtain ⟨z, hz⟩ : ∃ z, c s = z := ⟨_, rfl⟩
                          simp only [hz] at cR hMq hqv
                          by_cases hzh : z = hi
                          · have hv : mrgC c i q s = lo := by rw [hMq, if_pos hzh]
                            have hR2 := Lib.hid ((hR.out.set s (.int .i64 lo)).congr (g := fun j => .int .i64 (mrgU c i q (s + 1) j)) (fun j _ => by
                              have hj : (if j = s then mrgC c i q s else mrgU c i q s j) = mrgU c i q (s + 1) j := congrFun hnx j
                              rw [← hj, hv]
                              by_cases e : j = s
                              · rw [if_pos e, if_pos e]
                              · rw [if_neg e, if_neg e]))
                            have hg2 := Lib.hid (grown_set1' (n := s) (u := .int .i64 lo) hgr.out)
                            have hzb : (z == hi) = true := by rw [beq_iff_eq]; exact hzh
                            clear hnx hqv hMq hz hzh hv hR hgr
                            go_wp2
                            go_region_with (go_at_call 54; (with_reducible refine (hMo.out _).mono ?_); rintro e v ⟨rfl, rfl⟩)
                            all_goals
                              go_wp2_with (go_at_call 55; (with_reducible refine (hLe.out _).mono ?_); rintro e v ⟨rfl, rfl⟩)
                              exact ⟨⟨s + 1, rfl, hst, hR2, Lib.hid ⟨hg2.out.os, hg2.out.tape, hg2.out.output, hg2.out.size, hg2.out.block⟩⟩, by simp [intOf]; omega⟩
                          · have hv : mrgC c i q s = z := by rw [hMq, if_neg hzh]
                            have hR2 : Hid (rowC wr w1.heap.size L.length (mrgU c i q (s + 1))) := Lib.hid (hR.out.congr (fun j _ => by
                              have hj : (if j = s then mrgC c i q s else mrgU c i q s j) = mrgU c i q (s + 1) j := congrFun hnx j
                              rw [← hj, hv]
                              by_cases e : j = s
                              · subst e; rw [if_pos rfl, hqv]
                              · rw [if_neg e]))
                            have hzb : (z == hi) = false := by rw [beq_eq_false_iff_ne]; exact hzh
                            clear hnx hqv hMq hz hv hR
                            go_wp2
                            go_region_with (go_at_call 54; (with_reducible refine (hMo.out _).mono ?_); rintro e v ⟨rfl, rfl⟩)
                            all_goals
                              go_wp2
                              exact ⟨⟨s + 1, rfl, hst, hR2, Lib.hid ⟨hgr.out.os, hgr.out.tape, hgr.out.output, hgr.out.size, hgr.out.block⟩⟩, by simp [intOf]; omega⟩
                        · have hfin := Lib.hid (show rowC wr w1.heap.size L.length (mrgC c i q) from hR.out.congr (fun j hj => by unfold mrgU; rw [if_pos (by omega)]))
                          clear hR
                          go_wp2
                          exact ⟨⟨q + 1, rfl, hqt, Lib.hid (by rw [hcl.out]; exact hfin.out), Lib.hid (Hgr.out.trans hgr.out)⟩, by simp [intOf]; omega⟩
                    · have hcl : Hid (colC Rw i ci (q + 1) = colC Rw i ci q) := Lib.hid (by rw [hcol.out, if_neg hx])
                      have hxz : x = 0 := by omega
                      subst hxz
                      clear hcol hqd hokq
                      go_wp2
                      go_roundw
                      case rel => exact ⟨q + 1, rfl, hqt, Lib.hid (by rw [hcl.out]; exact hR.out), hgr⟩
                      case measure => simp [intOf]; omega
                  · have e : q = L.length := by omega
                    subst e
                    have hRn : Hid (rowC wr w1.heap.size L.length (rwC Gm c0 (i + 1))) := Lib.hid (by rw [hnxr.out]; exact hR.out)
                    have hgn := Lib.hid (hgr4.out.trans hgr.out)
                    clear hR hgr
                    go_wp2
                    exact ⟨⟨i + 1, rfl, hit, hRn, hgn⟩, by simp [intOf]; omega⟩
              · have e : i = L.length := by omega
                subst e
                have hRn : Hid (rowC wr w1.heap.size L.length (prC L Z (t + 1))) := Lib.hid (by rw [hnx.out]; exact hR.out)
                have hgn := Lib.hid (hgr3.out.trans hgr.out)
                clear hR hgr
                go_wp2
                exact ⟨⟨t + 1, rfl, htt, hRn, hgn⟩, by simp [intOf]; omega⟩
          · have e : t = Z.length := by omega
            subst e
            obtain ⟨c, hcE⟩ : ∃ c, prC L Z Z.length = c := ⟨_, rfl⟩
            rw [hcE] at hR
            have HcE := Lib.hid hcE
            have hbw1 : Below w1.heap.size w1 wr := ((Below.refl w1.heap.size w1).alloc (Nat.le_refl _) (.cells (madeCells #[.int .i64 0] L.length) 3)).grown hgr.out (by simp) (fun b hb => by injection hb with hb; omega)
            have hHL := Lib.hid (own_bel hbw1 (own_lt HL.out) HL.out)
            have lO := hR.out.lt
            obtain ⟨wN, rfl⟩ : ∃ wN : World, wN = wr := ⟨_, rfl⟩
            clear hcE hgr
            go_wp2
            go_loopw [18, 103] (fun v vi wr => W5St L c wN v vi wr) (fun _ vi _ => L.length - (intOf vi).toNat)
            case atStart => exact ⟨0, rfl, Nat.zero_le _, Lib.hid NestF.nil, (by repeat (first | with_reducible exact Below.refl _ _ | with_reducible assumption | with_reducible apply Below.drew | with_reducible apply below_drewN | (with_reducible apply below_setp; (first | omega | (simp <;> omega))) | (with_reducible apply below_allocp; (first | omega | (simp <;> omega))) | (with_reducible refine below_viap (by assumption) ?_ ?_; (first | omega | (simp <;> omega)))))⟩
            case round =>
              obtain ⟨i, rfl, hii, hN, hbel⟩ := hrel
              have hz := hbel.size
              have hRr := Lib.hid (hR.out.of_block (hbel.block _ lO))
              by_cases hit : i < L.length
              · have cR := hRr.out.cell hit
                have hcm : cmpG L c (i + 1) = if c i = i then cmpG L c i ++ [partL L c i L.length] else cmpG L c i := rfl
                obtain ⟨z, hzE⟩ : ∃ z, c i = z := ⟨_, rfl⟩
                simp only [hzE] at cR hcm
                by_cases he : z = (i : Int)
                · have hcm2 : Hid (cmpG L c (i + 1) = cmpG L c i ++ [partL L c i L.length]) := Lib.hid (by rw [hcm, if_pos he])
                  have hzb : (z != (i : Int)) = false := by rw [bne_eq_false_iff_eq]; exact he
                  clear hcm hzE he
                  obtain ⟨wo, rfl⟩ : ∃ wo : World, wo = wr := ⟨_, rfl⟩
                  go_wp2
                  go_loopw [20, 114] (fun v vi wr => W6St L c i wo v vi wr) (fun _ vi _ => L.length - (intOf vi).toNat)
                  case atStart => exact ⟨0, rfl, Nat.zero_le _, World.ownsRow_nil _ _ _ _, (by repeat (first | with_reducible exact Below.refl _ _ | with_reducible assumption | with_reducible apply Below.drew | with_reducible apply below_drewN | (with_reducible apply below_setp; (first | omega | (simp <;> omega))) | (with_reducible apply below_allocp; (first | omega | (simp <;> omega))) | (with_reducible refine below_viap (by assumption) ?_ ?_; (first | omega | (simp <;> omega)))))⟩
                  case round =>
                    clear cR
                    obtain ⟨q, rfl, hqq, hown, hbel6⟩ := hrel
                    have hz6 := hbel6.size
                    have hpl := partL_len L c i q
                    by_cases hqt : q < L.length
                    · obtain ⟨gl, rfl, ll, d1, d2, d3⟩ := own_elem (own_call hbel6 (own_call hbel hHL.out)) hqt
                      have hRq := Lib.hid (hRr.out.of_block (hbel6.block w1.heap.size (by omega)))
                      have cR := hRq.out.cell hqt
                      have lR := hRq.out.lt
                      have hpn : partL L c i (q + 1) = if c q = i then partL L c i q ++ [L[q]] else partL L c i q := by rw [partL, List.getD_eq_getElem?_getD, List.getElem?_eq_getElem hqt]; rfl
                      obtain ⟨y, hyE⟩ : ∃ y, c q = y := ⟨_, rfl⟩
                      simp only [hyE] at cR hpn
                      generalize L[q] = f at d1 d2 d3 hpn
                      have m1 : ¬ w1.heap.size = wr.heap.size := by omega
                      have m2 : w1.heap.size < wr.heap.size + 1 := by omega
                      by_cases hy : y = (i : Int)
                      · have hpn2 : Hid (partL L c i (q + 1) = partL L c i q ++ [f]) := Lib.hid (by rw [hpn, if_pos hy])
                        have hyb : (y == (i : Int)) = true := by rw [beq_iff_eq]; exact hy
                        generalize partL L c i q = Q at hown hpn2 hpl
                        clear hpn hyE hy
                        go_wp2_with (at_builtin; refine wpList_append_own_at _ rfl (.tmp 125) (.tmp 127) 53 rfl wo.heap.size 32 i0 _ 3 24 Try.underlying53 hi0 hz0 hz1 hz2 rfl (by decide) u20 Q.length (cellsF Q) rfl ?_ ⟨wr.heap.size + 1, 0, none⟩ 1 1 [.int .i64 f.a, .int .i64 f.b, .int .i64 f.c] rfl rfl ?_ (one3 _ _ _) ?_ ?_ ?_ ?_; exact (by repeat (first | with_reducible assumption | with_reducible apply own_alloc | with_reducible apply own_drew | with_reducible apply own_drewN | (with_reducible refine own_setp (by assumption) ?_ ?_; (first | omega | (simp <;> omega))) | (with_reducible refine own_call (by assumption) ?_))); exact cells3 (Blk.new_at (by simp)); (unfold maxLen; omega); omega; (simp; omega); intro x2 w2 hown2 hgr2 _ hloc)
                        have hb2 : Below wo.heap.size wo w2 := below_grown (own_ge hown) (by simp; omega) hgr2 (by repeat (first | with_reducible exact Below.refl _ _ | with_reducible assumption | with_reducible apply Below.drew | with_reducible apply below_drewN | (with_reducible apply below_setp; (first | omega | (simp <;> omega))) | (with_reducible apply below_allocp; (first | omega | (simp <;> omega))) | (with_reducible refine below_viap (by assumption) ?_ ?_; (first | omega | (simp <;> omega)))))
                        have ho2 := own_snoc hpn2.out hown2
                        clear hgr2 hown2 hown hbel6 hloc
                        go_wp2
                        go_roundw
                        case rel => exact ⟨q + 1, rfl, hqt, ho2, hb2⟩
                        case measure => simp [intOf]; omega
                      · have hpn2 : Hid (partL L c i (q + 1) = partL L c i q) := Lib.hid (by rw [hpn, if_neg hy])
                        have hyb : (y == (i : Int)) = false := by rw [beq_eq_false_iff_ne]; exact hy
                        clear hpn hyE
                        go_wp2
                        go_roundw
                        case rel => exact ⟨q + 1, rfl, hqt, by rw [hpn2.out]; exact own_alloc hown, (by repeat (first | with_reducible exact Below.refl _ _ | with_reducible assumption | with_reducible apply Below.drew | with_reducible apply below_drewN | (with_reducible apply below_setp; (first | omega | (simp <;> omega))) | (with_reducible apply below_allocp; (first | omega | (simp <;> omega))) | (with_reducible refine below_viap (by assumption) ?_ ?_; (first | omega | (simp <;> omega)))))⟩
                        case measure => simp [intOf]; omega
                    · have e : q = L.length := by omega
                      subst e
                      obtain ⟨vs, hnest⟩ := hN.out
                      have hGl := (cmpG_len L c i).1
                      generalize cmpG L c i = Gk at hnest hGl hcm2
                      generalize partL L c i L.length = Q at hown hcm2 hpl
                      have hno := own_call hbel6 hnest.1
                      have hgn := Lib.hid hnest
                      obtain ⟨rb, rc, rfl⟩ := own_shape hown
                      have hb6 := Lib.hid hbel6
                      clear hnest hN
                      go_wp2_with (at_builtin; refine wpList_append_own_at _ rfl (.tmp 130) (.tmp 132) 40 rfl wN.heap.size 53 j0 _ 1 24 Try.underlying40 hj0 hy0 hy1 hy2 rfl (by decide) u18 Gk.length vs rfl ?_ ⟨wr.heap.size, 0, none⟩ 1 1 [.slice rb Q.length rc] rfl rfl ?_ (oneSl2 _) ?_ ?_ ?_ ?_; exact own_alloc hno; exact cells1 (Blk.new_at (by simp)); (unfold maxLen; omega); omega; (simp; omega); intro x2 w2 hown2 hgr2 _ hloc)
                      have hwA : Below wo.heap.size wo (wr.alloc (.cells #[.slice rb Q.length rc] 53)) := hb6.out.alloc (by omega) _
                      have hnN := hgn.out.snoc hwA (own_alloc hown) hz hown2 hgr2 hloc
                      rw [← hcm2.out] at hnN
                      have HnN := Lib.hid hnN
                      have hbN : Below wN.heap.size wN w2 := below_grown (own_ge hno) (by simp; omega) hgr2 (below_via hbel hwA hz)
                      clear hgr2 hown2 hown hno hnN hloc
                      go_wp2
                      exact ⟨⟨i + 1, rfl, hit, HnN, hbN⟩, by simp [intOf]; omega⟩
                · have hcm2 : Hid (cmpG L c (i + 1) = cmpG L c i) := Lib.hid (by rw [hcm, if_neg he])
                  have hzb : (z != (i : Int)) = true := by rw [bne_iff_ne]; exact he
                  clear hcm hzE
                  go_wp2
                  go_roundw
                  case rel => exact ⟨i + 1, rfl, hit, Lib.hid (by rw [hcm2.out]; exact hN.out), hbel⟩
                  case measure => simp [intOf]; omega
              · have e : i = L.length := by omega
                subst e
                have hNf := Lib.hid (hN.out.base (B' := w.heap.size) hbw.size)
                clear hN
                go_wp2
                go_ret2
                exact ⟨_, rfl, by rw [HcE.out]; exact hNf.out, below_via hbw hbel hbw.size⟩
end Go.Proofs.Ytcijjnjgifoipaa
