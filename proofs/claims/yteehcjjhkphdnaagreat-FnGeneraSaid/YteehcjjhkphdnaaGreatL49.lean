/- FnGenera returns true: for every drawn discriminant, genera are cosets of the squares, all of one size, and their number is a power of two by the ambiguous classes. Conditions: none. -/
import Derived.Test.YteehcjjhkphdnaaGreatDX
import Derived.Test.YteehcjjhkphdnaaGreatDA
import Derived.Test.YteehcjjhkphdnaaGreatDE
import Derived.Test.YteehcjjhkphdnaaGreatGR
import Derived.Test.YteehcjjhkphdnaaGreatSX
import Derived.Test.YteehcjjhkphdnaaGreatRX
import Derived.Test.YteehcjjhkphdnaaGreatQX
import Derived.Test.YteehcjjhkphdnaaGreatY4
import Derived.Test.YteehcjjhkphdnaaGreatW2
namespace Go.Proofs.YteehcjjhkphdnaaGreat
open Go.RowKit Go.ChangeShapes Go.WideShapes Go.ChangeAt Go.Joins

/-- A row of a list of lists. -/
theorem NestV.row_ {B cap : Nat} {ob : Option Addr} {G : List (List Fm)} {vs : List Value} {w : World} (h : NestV B G (.slice ob G.length cap) vs w) {i : Nat} (hi : i < G.length) :
    ∃ O bu cu, ob = some ⟨O, 0, none⟩ ∧ O < w.heap.size ∧ w.cell? ⟨O, i, none⟩ = some (.slice bu G[i].length cu) ∧ w.ownsRow B 36 3 (.slice bu G[i].length cu) G[i].length (cellsF G[i]) := by
  obtain ⟨u, hu, ho, _⟩ := h.2.1 i hi
  obtain ⟨O, hO, l1, e1⟩ := ownV_at h.1 hi hu
  obtain ⟨bu, cu, rfl⟩ := own_shape ho
  exact ⟨O, bu, cu, hO, l1, e1, ho⟩

/-- The loop over the genera. -/
def GenSt (P m : Nat) (w4 : World) (vc vi : Value) (wr : World) : Prop :=
  ∃ (k : Nat) (c : Int), vi = .int .i64 k ∧ k ≤ m ∧ vc = .int .i64 c ∧ Hid (c = P * k) ∧ Below w4.heap.size w4 wr

set_option maxRecDepth 100000 in
set_option maxHeartbeats 6400000 in
theorem walk_FnGenera (zs es : List Int) (v u : Value) (w : World) (hz : ReB zs v w) (he : ReB es u w) :
    Calls Tryz.prog 5 #[v, u] w fun e w' => e = .returned (.bool true) ∧ Below w.heap.size w w' := by
  have HZ := Lib.hid hz
  obtain ⟨A, c, rfl⟩ := hz.shape
  obtain ⟨A2, c2, rfl⟩ := he.shape
  clear hz he
  by_cases hbig : zs.length ≤ 1048576 ∧ es.length ≤ 1048576 - zs.length
  · have Hb := Lib.hid (fun w => big_no A A2 zs.length es.length c c2 w hbig.1 hbig.2)
    have HR := Lib.hid (HZ.out.rd hbig.1)
    clear HZ hbig
    go_enter Tryz.func5, Tryz.ntmps5
    go_wp2_with (go_at_call 10; (with_reducible refine (Hb.out _).mono ?_); rintro e v ⟨rfl, rfl⟩)
    refine (drawGenera_any zs _ _ _ HR.out (Nat.le_refl _)).mono ?_
    rintro e w1 ⟨d, rfl, hd, hb1⟩
    have hz1 := hb1.size
    clear hd
    cases hc : isDisc d with
    | false =>
      have HS := Lib.hid (fun w => specGen_any d [] false w (.inl ⟨hc, rfl, rfl⟩))
      have HI := Lib.hid (fun w => implGen_any d [] false w (.inl ⟨hc, rfl, rfl⟩))
      clear hc
      go_wp2_with fail
      refine (HI.out _).mono ?_
      rintro e w2 ⟨vi, rfl, hi2, hb2⟩
      have hz2 := hb2.size
      go_wp2_with fail
      refine (HS.out _).mono ?_
      rintro e w3 ⟨vs, rfl, hs3, hb3⟩
      have hz3 := hb3.size
      have hi3 := hi2.call hb3
      have hb13 := below_via hb1 (below_via hb2 hb3 hz2) hz1
      go_wp2_with (go_at_call 36; refine (qGroups_same vi vs _ _ [] _ (by simp) (by simp) hi3 hs3).mono ?_; rintro e w4 ⟨rfl, hb4⟩)
      go_ret
      exact ⟨rfl, below_via hb13 hb4 hb13.size⟩
    | true =>
      have D := dsc_of hc
      obtain ⟨j, hj, hj20⟩ := am_pow D
      have hcls := h_pg D
      have hgc := gen_count D
      have HS := Lib.hid (fun w => specGen_any d _ true w (.inr ⟨hc, rfl, rfl⟩))
      have HI := Lib.hid (fun w => implGen_any d _ true w (.inr ⟨hc, rfl, rfl⟩))
      have HT := Lib.hid (fun w => implTR_any d (j : Nat) true w (.inr ⟨hc, by
        show (j : Int) = expo 2 ((amL d).length : Nat)
        rw [hj]
        exact (expo_pow (p := 2) (by omega) j).symm, rfl⟩))
      have HF := Lib.hid (fun w => implRF_any d _ true w (.inr ⟨hc, rfl, rfl⟩))
      have HW := Lib.hid (fun i (h : i < (genL d).length) => gen_row D h)
      have hcl := clsL_len d
      have hpl : (pgL d).length ≤ 1640 := Nat.le_trans (List.length_filter_le _ _) (clsL_len _)
      have hpp := pg_pos D
      have hal : (amL d).length ≤ 1640 := Nat.le_trans (List.length_filter_le _ _) (clsL_len _)
      have hap := am_pos D
      rw [← hgc] at hj hcls hal hap
      have hgr : ∀ g ∈ genL d, g.length ≤ 100000 := fun g hg => by
        obtain ⟨i, hi, rfl⟩ := List.getElem_of_mem hg
        rw [(HW.out i hi).len]; omega
      obtain ⟨p, hP⟩ : ∃ p, (pgL d).length = p + 1 := ⟨(pgL d).length - 1, by omega⟩
      have HWl := Lib.hid (fun i (h : i < (genL d).length) => hP ▸ (HW.out i h).len)
      rw [hP] at hcls hpl hpp
      obtain ⟨C, hC⟩ : ∃ C, clsL d = C := ⟨_, rfl⟩
      rw [hC] at hcl hcls HF
      clear hgc
      generalize genL d = G at *
      obtain ⟨N, hN⟩ : ∃ N : Nat, G.length = N := ⟨_, rfl⟩
      have hN0 := hN
      rw [hN] at hj hcls hal hap
      have hN1 : wrap64 ((2 : Int) ^ j) = (N : Int) := by
        rw [hj, IntWalk.wrap64_in _ (by
          have h2 : ((2 ^ j : Nat) : Int) = (2 : Int) ^ j := by simp
          rw [← h2, ← hj]
          omega)]
        simp
      have HN1 := Lib.hid hN1
      have hj1 : IntKind.u64.wrap (j : Int) = j := wraps_u63 _ (by omega) (by omega)
      clear hc D hP hC hj hN1
      go_wp2_with fail
      refine (HI.out _).mono ?_
      rintro e w2 ⟨vi, rfl, hi2, hb2⟩
      have hz2 := hb2.size
      go_wp2_with fail
      refine (HS.out _).mono ?_
      rintro e w3 ⟨vs, rfl, hs3, hb3⟩
      have hz3 := hb3.size
      have hi3 := hi2.call hb3
      have hb13 := below_via hb1 (below_via hb2 hb3 hz2) hz1
      clear hi2 hb1 hb2 hb3
      go_wp2_with (go_at_call 36; refine (qGroups_same vi vs _ _ G _ (by omega) hgr hi3 hs3).mono ?_; rintro e w4 ⟨rfl, hb4⟩)
      have hz4 := hb4.size
      have hi4 := hi3.call hb4
      have hb14 := below_via hb13 hb4 hb13.size
      clear hi3 hs3 hb13 hb4
      refine (HT.out _).mono ?_
      rintro e w5 ⟨rfl, hb5⟩
      have hz5 := hb5.size
      have hi5 := hi4.call hb5
      have hb15 := below_via hb14 hb5 hb14.size
      clear hi4 hb14 hb5
      go_wp2_with fail
      refine (HF.out _).mono ?_
      rintro e w6 ⟨vf, rfl, hf6, hb6⟩
      have hz6 := hb6.size
      have hi6 := hi5.call hb6
      have hb16 := below_via hb15 hb6 hb15.size
      obtain ⟨bf, cf, rfl⟩ := own_shape hf6
      obtain ⟨bi, ci, rfl⟩ := hi6.shape
      have hN1 := HN1.out
      obtain ⟨vv, n6⟩ := hi6
      have H6 := Lib.hid n6
      clear hi5 hb15 hb6 hf6 n6 HI HS HT HF
      go_wp2
      clear hN1
      go_loopw [14, 73] (fun vc vi wr => GenSt (p + 1) N w6 vc vi wr) (fun _ i _ => N - (intOf i).toNat)
      case atStart => exact ⟨0, 0, rfl, Nat.zero_le _, rfl, Lib.hid (by simp), (by repeat (first | with_reducible exact Below.refl _ _ | with_reducible assumption | with_reducible apply Below.drew | with_reducible apply below_drewN | (with_reducible apply below_setp; (first | omega | (simp <;> omega))) | (with_reducible apply below_allocp; (first | omega | (simp <;> omega))) | (with_reducible refine below_viap (by assumption) ?_ ?_; (first | omega | (simp <;> omega)))))⟩
      case round =>
        obtain ⟨k, c, rfl, hk, rfl, hcP, hbel⟩ := hrel
        have hzr := hbel.size
        by_cases hlt : k < N
        · have hk0 : k < G.length := by omega
          have h00 : 0 < G.length := by omega
          have m1 := H6.out.call hbel
          obtain ⟨O, bx, cx, rfl, lO, cO, hxo⟩ := m1.row_ hk0
          obtain ⟨O', by0, cy0, hO', _, cO0, hyo⟩ := m1.row_ h00
          clear hyo
          injection hO' with hO'; injection hO' with hO'
          subst hO'
          have hr := HW.out k hk0
          have hPk := HWl.out k hk0
          have hP0 := HWl.out 0 h00
          generalize G[k] = g at hr hxo hPk cO
          rw [hP0] at cO0
          have gP : 0 < g.length := by omega
          have gp : p < g.length := by omega
          obtain ⟨O1, rfl, lO1, d1, d2, d3⟩ := own_elem hxo gP
          obtain ⟨O2, hO2, _, e1, e2, e3⟩ := own_elem hxo gp
          injection hO2 with hO2; injection hO2 with hO2
          subst hO2
          have HSc := Lib.hid (fun w => implSC_any g[0].a g[0].b g[0].c g true w (hr.sc _ (List.getElem_mem gP)))
          have HGo := Lib.hid (fun w => implGO_any g[p].a g[p].b g[p].c g true w (hr.go _ (List.getElem_mem gp)))
          rw [hPk] at cO hxo
          have HX := Lib.hid hxo
          have HQ := Lib.hid (fun v B B2 w (h1 : w.ownsRow B 36 3 v g.length (cellsF g)) (h2 : w.ownsRow B2 36 3 (.slice (some ⟨O1, 0, none⟩) (p + 1) cx) (p + 1) (cellsF g)) => qForms_same v (.slice (some ⟨O1, 0, none⟩) (p + 1) cx) B B2 g w (by omega) h1 (by rw [hPk]; exact h2))
          generalize g[0] = f0 at d1 d2 d3 HSc
          generalize g[p] = f1 at e1 e2 e3 HGo
          have hHG := Lib.hid hPk
          clear hxo hr m1 hPk gP gp hP0 h00 hk0
          go_wp2_with fail
          refine (HSc.out _).mono ?_
          rintro e wa ⟨va, rfl, hoa, hba⟩
          have hza := hba.size
          have e1' := (hba.cell (p := ⟨O1, p * 3, none⟩) lO1).trans e1
          have e2' := (hba.cell (p := ⟨O1, p * 3 + 1, none⟩) lO1).trans e2
          have e3' := (hba.cell (p := ⟨O1, p * 3 + 2, none⟩) lO1).trans e3
          have HX1 := Lib.hid (own_call hba HX.out)
          have HA := Lib.hid hoa
          have cOa := (hba.cell (p := ⟨O, 0, none⟩) lO).trans cO0
          have hbel2 := below_via hbel hba hzr
          clear d1 d2 d3 e1 e2 e3 hoa cO cO0 hbel HX HSc
          go_wp2_with fail
          refine (HGo.out _).mono ?_
          rintro e wb ⟨vb, rfl, hob, hbb⟩
          have hzb := hbb.size
          have cOb := (hbb.cell (p := ⟨O, 0, none⟩) (show O < wa.heap.size by omega)).trans cOa
          have HX2 := Lib.hid (own_call hbb HX1.out)
          have HA2 := Lib.hid (own_call hbb HA.out)
          have HB2 := Lib.hid hob
          have hbel3 := below_via hbel2 hbb (by omega)
          clear e1' e2' e3' hob cOa hbel2 HX1 HA HGo hbb hba
          have hcc : wrap64 (c + ((p : Int) + 1)) = c + ((p : Int) + 1) := by
            have h1 := hcP.out
            have h2 : (p + 1) * k ≤ 1640 * 1640 := Nat.mul_le_mul hpl (by omega)
            rw [← Int.natCast_mul] at h1
            exact IntWalk.wrap64_in _ (by omega)
          go_wp2_with fail
          refine (HQ.out _ _ _ _ HA2.out HX2.out).mono ?_
          rintro e wc ⟨rfl, hbc⟩
          have hzc := hbc.size
          have HX3 := Lib.hid (own_call hbc HX2.out)
          have HB3 := Lib.hid (own_call hbc HB2.out)
          have hbel4 := below_via hbel3 hbc (by omega)
          clear hbel3 HX2 HA2 HB2 hbc cOb
          go_wp2_with fail
          refine (HQ.out _ _ _ _ HB3.out HX3.out).mono ?_
          rintro e wd ⟨rfl, hbd⟩
          have hbel5 := below_via hbel4 hbd (by omega)
          clear hbel4 HX3 HB3 hbd
          go_wp2
          go_roundw
          case rel => exact ⟨k + 1, _, by simp, by omega, rfl, Lib.hid (by have := hcP.out; rw [this]; simp; rw [Int.mul_add]; simp), hbel5⟩
          case measure => simp [intOf]; omega
        · have hkN : k = N := by omega
          subst hkN
          have hfin : c = ((p : Int) + 1) * k := by have := hcP.out; simpa using this
          go_wp2
          go_ret
          exact ⟨rfl, below_via hb16 hbel hb16.size⟩
  · have Hb := Lib.hid (fun w => big_yes A A2 zs.length es.length c c2 w hbig)
    clear HZ hbig
    go_enter Tryz.func5, Tryz.ntmps5
    go_wp2_with (go_at_call 10; (with_reducible refine (Hb.out _).mono ?_); rintro e v ⟨rfl, rfl⟩)
    go_ret
    exact ⟨rfl, (by repeat (first | with_reducible exact Below.refl _ _ | with_reducible assumption | with_reducible apply Below.drew | with_reducible apply below_drewN | (with_reducible apply below_setp; (first | omega | (simp <;> omega))) | (with_reducible apply below_allocp; (first | omega | (simp <;> omega))) | (with_reducible refine below_viap (by assumption) ?_ ?_; (first | omega | (simp <;> omega)))))⟩
theorem own_FnGenera : ownKnob Tryz.prog.godebug = none := by kernel_rfl

set_option maxRecDepth 100000 in
theorem lifted_FnGenera (os : Os) (started : os.Started) (H : Type) (enc : TypeId × Value → H) :
    ReturnsInHanded {} Tryz.checked os 5 .any (Rows.fnGeneraSpec.pre6 enc Tryz.prog Tryz.f5 Rows.fnGeneraRow.domain false) (Rows.fnGeneraSpec.post enc Tryz.prog Tryz.f5 false true false false) := by
  refine returnsInHanded_of_change (C := Tryz.checked) own_FnGenera started (by kernel_rfl) Tryz.func5
    (ChangeSpec.witness6 (enc := enc) (C := Tryz.checked) false ⟨#[], #[.slice none 0 0, .slice none 0 0], []⟩ 8 (by kernel_rfl) (by kernel_rfl) (by kernel_rfl) (by kernel_rfl)) ?_
  intro W base args ds gs before hval0 hW hcnd _
  have hval : ∀ (j : Nat) t v, Tryz.f5.params[j]? = some t → args[j]? = some v → Value.okWide Tryz.prog W .any base t v := hval0
  have hW' := hW
  obtain ⟨p, q, hA0, hV, rfl, hfz, hnd⟩ := hW
  have hA : DataW.TrodAll enc Tryz.prog W 0 (fun _ => true) true Tryz.f5.params.toList args.toList ds p := hA0
  rw [Tryz.params5] at hA hval
  obtain ⟨v1, vs1, d1, ds1, p1, q1, hargs, rfl, rfl, h1, r1⟩ := trodAll_cons hA
  obtain ⟨v2, vs2, d2, ds2, p2, q2, rfl, rfl, rfl, h2, r2⟩ := trodAll_cons r1
  obtain ⟨rfl, rfl, rfl⟩ := trodAll_nil r2
  obtain rfl : args = #[v1, v2] := by cases args; simp_all
  obtain ⟨rfl, rfl⟩ := trodVars_none hV
  obtain ⟨zs, hrd⟩ := open_reB (hval 0 22 v1 rfl rfl) h1
  obtain ⟨es, hre⟩ := open_reB (hval 1 22 v2 rfl rfl) h2
  have hlt1 : ∀ x ∈ p1, x.block < W.heap.size := fun x hx => hW'.lt x (by simp [hx])
  have hlt2 : ∀ x ∈ p2, x.block < W.heap.size := fun x hx => hW'.lt x (by simp [hx])
  clear hA0 hval0
  refine (walk_FnGenera zs es v1 v2 W hrd hre).mono fun e W' ⟨he, hg⟩ => ?_
  subst he
  exact ⟨_, rfl, post_of_below (pa := p1 ++ (p2 ++ [])) (pv := []) hW' (fun _ _ _ => (trodAll_cons_mk (shut_bool Tryz.underlying4 _) trodAll_mk0)) (fun sp hsp => (trodAll_cons_mk (WideElems.Trod_stays laid_D3 (by kernel_rfl) (of_decide_eq_true (by kernel_rfl)) h1 (fun x hx => hg.same (hlt1 x hx)) (fun x hx => hsp x (by simp [hx]))) (trodAll_cons_mk (WideElems.Trod_stays laid_D3 (by kernel_rfl) (of_decide_eq_true (by kernel_rfl)) h2 (fun x hx => hg.same (hlt2 x hx)) (fun x hx => hsp x (by simp [hx]))) trodAll_mk0))) (fun _ _ => rfl) rfl
    hg (ok_one (by kernel_rfl) rfl (okWide_bool_mk Tryz.underlying4 _))⟩

/-- The statement. -/
theorem holds_FnGenera : Rows.FnGeneraSaid :=
  OpenClaim.holds_of_wide 5 Tryz.f5 rfl rfl rfl rfl rfl rfl rfl ⟨rfl, rfl, rfl, rfl, rfl⟩ rfl rfl rfl rfl rfl (by kernel_rfl) Tryz.func5 (by kernel_rfl)
    (of_decide_eq_true (by kernel_rfl)) (by unfold Func.isWrapper; first | (rw [if_pos (by decide +kernel)]; kernel_rfl) | (rw [if_neg (by decide +kernel)]; exact ⟨rfl, rfl⟩))
    (fun os started H enc _ => lifted_FnGenera os started H enc)
#print axioms holds_FnGenera
end Go.Proofs.YteehcjjhkphdnaaGreat
