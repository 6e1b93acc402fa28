/- For every form and number of terms, the program's GenusSum returns what the reference's returns, in a list of its own that a second call leaves alone (the law FnExactGenusSum returns true and leaves its arguments alone). Conditions: none. -/
import Derived.Test.YtjfcaafmlghjlaaTE
import Derived.Test.YtjfcaafmlghjlaaN11
import Derived.Test.YtjfcaafmlghjlaaW2
namespace Go.Proofs.Ytjfcaafmlghjlaa
open Go.RowKit Go.ChangeShapes Go.WideShapes Go.ChangeAt Go.Joins

set_option maxRecDepth 100000 in
set_option maxHeartbeats 3200000 in
theorem walk_FnExactGenusSum (a b c k1 : Int) (w : World) :
    Calls Try.prog 12 #[.agg #[.int .i64 a, .int .i64 b, .int .i64 c], .int .i64 k1] w fun e w' => e = .returned (.bool true) ∧ Below w.heap.size w w' := by
  obtain ⟨L, ok, hL, hl⟩ := gsL_ex a b c k1
  have HS := Lib.hid (fun w => specGS_any a b c k1 L ok w hL)
  have HI := Lib.hid (fun w => implGS_any a b c k1 L ok w hL)
  clear hL
  go_enter Try.func12, Try.ntmps12
  cases ok
  all_goals
    go_wp2_with fail
    refine (toForm_any a b c _).mono ?_
    rintro e v1 ⟨rfl, hb1⟩
    have hz1 := hb1.size
    (try simp at hz1)
    have hA1 : Blk v1 w.heap.size 110 #[.int .i64 a, .int .i64 b, .int .i64 c] := Blk.call (by (repeat (first | with_reducible assumption | (with_reducible apply Blk.new_at; (first | rfl | (simp; done))) | with_reducible apply Blk.store3 | with_reducible apply Blk.store4 | (with_reducible apply Blk.farp; (first | omega | (simp <;> omega))) | with_reducible apply Blk.allocp | with_reducible apply Blk.drew | with_reducible apply Blk.drewN))) hb1
    have cA1 := hA1.cell; have fA1 := hA1.frozen; have lA1 := hA1.lt
    have hbel1 : Below w.heap.size w v1 := by first | exact hb1 | exact (by repeat (first | with_reducible exact Below.refl _ _ | with_reducible assumption | with_reducible apply Below.drew | with_reducible apply below_drewN | (with_reducible apply below_setp; (first | omega | (simp <;> omega))) | (with_reducible apply below_allocp; (first | omega | (simp <;> omega))) | (with_reducible refine below_viap (by assumption) ?_ ?_; (first | omega | (simp <;> omega)))))
    go_wp2_with fail
    refine (HS.out _).mono ?_
    rintro e v2 ⟨vs, rfl, hs2, hb2⟩
    have hz2 := hb2.size
    (try simp at hz2)
    have hA2 : Blk v2 w.heap.size 110 #[.int .i64 a, .int .i64 b, .int .i64 c] := Blk.call hA1 hb2
    have cA2 := hA2.cell; have fA2 := hA2.frozen; have lA2 := hA2.lt
    clear cA1 fA1
    have hbel2 : Below w.heap.size w v2 := below_via hbel1 hb2 hbel1.size
    go_wp2_with fail
    refine (toForm_any a b c _).mono ?_
    rintro e v3 ⟨rfl, hb3⟩
    have hz3 := hb3.size
    (try simp at hz3)
    have hA3 : Blk v3 w.heap.size 110 #[.int .i64 a, .int .i64 b, .int .i64 c] := Blk.call hA2 hb3
    have cA3 := hA3.cell; have fA3 := hA3.frozen; have lA3 := hA3.lt
    clear cA2 fA2
    have hbel3 : Below w.heap.size w v3 := below_via hbel2 hb3 hbel2.size
    have hs3 := own_call hb3 hs2
    go_wp2_with fail
    refine (HI.out _).mono ?_
    rintro e v4 ⟨vi, rfl, hi4, hb4⟩
    have hz4 := hb4.size
    (try simp at hz4)
    have hA4 : Blk v4 w.heap.size 110 #[.int .i64 a, .int .i64 b, .int .i64 c] := Blk.call hA3 hb4
    have cA4 := hA4.cell; have fA4 := hA4.frozen; have lA4 := hA4.lt
    clear cA3 fA3
    have hbel4 : Below w.heap.size w v4 := below_via hbel3 hb4 hbel3.size
    have hs4 := own_call hb4 hs3
    have hap := apart_ltI hs2 hi4 (by omega)
    go_wp2_with fail
    refine (eqIntS_same vi vs _ _ L _ hl hi4 hs4).mono ?_
    rintro e v5 ⟨rfl, hb5⟩
    have hz5 := hb5.size
    (try simp at hz5)
    have hA5 : Blk v5 w.heap.size 110 #[.int .i64 a, .int .i64 b, .int .i64 c] := Blk.call hA4 hb5
    have cA5 := hA5.cell; have fA5 := hA5.frozen; have lA5 := hA5.lt
    clear cA4 fA4
    have hbel5 : Below w.heap.size w v5 := below_via hbel4 hb5 hbel4.size
    have hs5 := own_call hb5 hs4
    have hi5 := own_call hb5 hi4
    go_wp2_with fail
    refine (markIntS_any vi _ L.length _ _ hl hi5).mono ?_
    rintro e v6 ⟨rfl, hm6, hg6⟩
    have hs6 := hs5.kept hg6 hap
    have hge := own_ge hi5
    have hbel6 : Below w.heap.size w v6 := hbel5.grown hg6 hbel5.size (fun q hq => Nat.le_trans (by omega) (hge q hq))
    have hA6 : Blk v6 w.heap.size 110 #[.int .i64 a, .int .i64 b, .int .i64 c] := hA5.grown hg6 (fun he => by have := hge _ he.symm; omega)
    have cA6 := hA6.cell; have fA6 := hA6.frozen; have lA6 := hA6.lt
    clear cA5 fA5
    go_wp2_with fail
    refine (heldIntS_any vi _ L.length _ hl hm6).mono ?_
    rintro e u7 ⟨rfl, rfl⟩
    go_wp2_with fail
    refine (toForm_any a b c _).mono ?_
    rintro e v8 ⟨rfl, hb8⟩
    have hz8 := hb8.size
    (try simp at hz8)
    have hA8 : Blk v8 w.heap.size 110 #[.int .i64 a, .int .i64 b, .int .i64 c] := Blk.call hA6 hb8
    have cA8 := hA8.cell; have fA8 := hA8.frozen; have lA8 := hA8.lt
    clear cA6 fA6
    have hbel8 : Below w.heap.size w v8 := below_via hbel6 hb8 hbel6.size
    have hs8 := own_call hb8 hs6
    have hm8 := hm6.kept hb8
    go_wp2_with fail
    refine (HI.out _).mono ?_
    rintro e v9 ⟨vj, rfl, hj9, hb9⟩
    have hz9 := hb9.size
    (try simp at hz9)
    have hA9 : Blk v9 w.heap.size 110 #[.int .i64 a, .int .i64 b, .int .i64 c] := Blk.call hA8 hb9
    have cA9 := hA9.cell; have fA9 := hA9.frozen; have lA9 := hA9.lt
    clear cA8 fA8
    have hbel9 : Below w.heap.size w v9 := below_via hbel8 hb9 hbel8.size
    have hs9 := own_call hb9 hs8
    have hm9 := hm8.kept hb9
    go_wp2_with fail
    refine (eqIntS_same vj vs _ _ L _ hl hj9 hs9).mono ?_
    rintro e v10 ⟨rfl, hb10⟩
    have hz10 := hb10.size
    (try simp at hz10)
    have hA10 : Blk v10 w.heap.size 110 #[.int .i64 a, .int .i64 b, .int .i64 c] := Blk.call hA9 hb10
    have cA10 := hA10.cell; have fA10 := hA10.frozen; have lA10 := hA10.lt
    clear cA9 fA9
    have hbel10 : Below w.heap.size w v10 := below_via hbel9 hb10 hbel9.size
    have hs10 := own_call hb10 hs9
    have hm10 := hm9.kept hb10
    go_wp2_with fail
    refine (heldIntS_any vi _ L.length _ hl hm10).mono ?_
    rintro e u11 ⟨rfl, rfl⟩
    go_wp2
    go_ret
    exact ⟨rfl, hbel10⟩

theorem own_FnExactGenusSum : ownKnob Try.prog.godebug = none := by kernel_rfl

set_option maxRecDepth 100000 in
theorem lifted_FnExactGenusSum (os : Os) (started : os.Started) (H : Type) (enc : TypeId × Value → H) :
    ReturnsInHanded {} Try.checked os 12 .any (Rows.fnExactGenusSumSpec.pre6 enc Try.prog Try.f12 Rows.fnExactGenusSumRow.domain false) (Rows.fnExactGenusSumSpec.post enc Try.prog Try.f12 false true false false) := by
  refine returnsInHanded_of_change (C := Try.checked) own_FnExactGenusSum started (by kernel_rfl) Try.func12
    (ChangeSpec.witness6 (enc := enc) (C := Try.checked) false ⟨#[], #[.agg #[.int .i64 0, .int .i64 0, .int .i64 0], .int .i64 0], []⟩ 8 (by kernel_rfl) (by kernel_rfl) (by kernel_rfl) (by kernel_rfl)) ?_
  intro W base args ds gs before hval0 hW hcnd _
  have hval : ∀ (j : Nat) t v, Try.f12.params[j]? = some t → args[j]? = some v → Value.okWide Try.prog W .any base t v := hval0
  have hW' := hW
  obtain ⟨p, q, hA0, hV, rfl, hfz, hnd⟩ := hW
  have hA : DataW.TrodAll enc Try.prog W 0 (fun _ => true) true Try.f12.params.toList args.toList ds p := hA0
  rw [Try.params12] at hA hval
  obtain ⟨v0, vs0, d0, ds0, p0, q0, hargs, rfl, rfl, h0, r0⟩ := trodAll_cons hA
  obtain ⟨v1, vs1, d1, ds1, p1, q1, rfl, rfl, rfl, h1, r1⟩ := trodAll_cons r0
  obtain ⟨rfl, rfl, rfl⟩ := trodAll_nil r1
  obtain rfl : args = #[v0, v1] := by cases args; simp_all
  obtain ⟨rfl, rfl⟩ := trodVars_none hV
  obtain ⟨c0_0, c0_1, c0_2, y0_0, y0_1, y0_2, m0, rfl, rfl, rfl, g0_0, g0_1, g0_2⟩ := open_agg3 Try.underlying110 (by kernel_rfl) (show Try.prog.cellsOf 110 = 3 by kernel_rfl) (hval 0 110 v0 rfl rfl) h0
  obtain ⟨a0_0, e0_0, rfl, w0_0⟩ := DataW.trod_int Try.underlying3 g0_0
  obtain ⟨a0_1, e0_1, rfl, w0_1⟩ := DataW.trod_int Try.underlying3 g0_1
  obtain ⟨a0_2, e0_2, rfl, w0_2⟩ := DataW.trod_int Try.underlying3 g0_2
  simp at e0_0 e0_1 e0_2
  subst e0_0 e0_1 e0_2
  obtain ⟨a1, rfl, rfl, rfl, w1⟩ := open_int Try.underlying3 (hval 1 3 v1 rfl rfl) h1
  clear hA0 hval0
  simp only [List.append_nil] at hW'
  refine (walk_FnExactGenusSum a0_0 a0_1 a0_2 a1 W).mono fun e W' ⟨he, hg⟩ => ?_
  subst he
  exact ⟨_, rfl, post_of_below (pa := []) (pv := []) hW' (fun _ _ _ => (trodAll_cons_mk (shut_bool Try.underlying4 _) trodAll_mk0)) (fun sp _ => (trodAll_cons_mk (shut_agg3 (y0 := (.lit (.int .i64 a0_0), [])) (y1 := (.lit (.int .i64 a0_1), [])) (y2 := (.lit (.int .i64 a0_2), [])) Try.underlying110 (by kernel_rfl) (show Try.prog.cellsOf 110 = 3 by kernel_rfl) ⟨1, by simp [DataW.trod, Try.underlying3, w0_0]⟩ ⟨1, by simp [DataW.trod, Try.underlying3, w0_1]⟩ ⟨1, by simp [DataW.trod, Try.underlying3, w0_2]⟩) (trodAll_cons_mk (shut_int Try.underlying3 w1) trodAll_mk0))) (fun _ _ => rfl) rfl
    hg (ok_one (by kernel_rfl) rfl (okWide_bool_mk Try.underlying4 _))⟩

theorem and2_FnExactGenusSum {a b : Bool} (h : a = true) (k : b = true) : (a && b) = true := by rw [h, k]; rfl
set_option maxRecDepth 100000 in
theorem cl0_FnExactGenusSum : (Rows.fnExactGenusSumRow.wf (OpenSpec.ofChange Rows.fnExactGenusSumSpec)) = true := by kernel_rfl
set_option maxRecDepth 100000 in
theorem cl1_FnExactGenusSum : (laidOutB Try.pinned.checked.prog) = true := by kernel_rfl
set_option maxRecDepth 100000 in
theorem cl2_FnExactGenusSum : (mapsRowed Try.pinned.checked.prog) = true := by kernel_rfl
set_option maxRecDepth 100000 in
theorem cl3_FnExactGenusSum : (Try.f12.params.all (Try.pinned.checked.prog.readableRec ·)) = true := by kernel_rfl
set_option maxRecDepth 100000 in
theorem cl4_FnExactGenusSum : (namedTie Try.pinned.checked.prog Rows.fnExactGenusSumRow.named Rows.fnExactGenusSumSpec.vars) = true := by kernel_rfl
set_option maxRecDepth 100000 in
theorem cl5_FnExactGenusSum : (Rows.fnExactGenusSumRow.stops == []) = true := by kernel_rfl
set_option maxRecDepth 100000 in
theorem cl6_FnExactGenusSum : (Try.pinned.checked.prog.stops == []) = true := by kernel_rfl
set_option maxRecDepth 100000 in
theorem cl7_FnExactGenusSum : (Rows.fnExactGenusSumRow.knobs == []) = true := by kernel_rfl
set_option maxRecDepth 100000 in
theorem cl8_FnExactGenusSum : (Try.pinned.checked.prog.stopKnobs == []) = true := by kernel_rfl
set_option maxRecDepth 100000 in
theorem cl9_FnExactGenusSum : (Rows.fnExactGenusSumRow.inPlace == Try.pinned.checked.prog.inPlace 12) = true := by kernel_rfl
set_option maxRecDepth 100000 in
theorem cl10_FnExactGenusSum : (Rows.fnExactGenusSumRow.unfollowed == Try.pinned.checked.prog.unfollowed 12) = true := by kernel_rfl
set_option maxRecDepth 100000 in
theorem cl11_FnExactGenusSum : (Rows.fnExactGenusSumRow.recurses == Try.pinned.checked.prog.recurses 12) = true := by kernel_rfl
set_option maxRecDepth 100000 in
theorem cl12_FnExactGenusSum : (Rows.fnExactGenusSumRow.named == Try.pinned.checked.prog.varsNamed 12) = true := by kernel_rfl
set_option maxRecDepth 100000 in
theorem cl13_FnExactGenusSum : (Rows.fnExactGenusSumRow.maps == (Try.f12.params.toList ++ Rows.fnExactGenusSumSpec.plain.varTypes Try.pinned.checked.prog).any (Try.pinned.checked.prog.mapsRec ·)) = true := by kernel_rfl
set_option maxRecDepth 100000 in
theorem cl14_FnExactGenusSum : (Rows.fnExactGenusSumRow.ifaces == (Try.f12.params.toList ++ Rows.fnExactGenusSumSpec.plain.varTypes Try.pinned.checked.prog).any (Try.pinned.checked.prog.ifacesRec ·)) = true := by kernel_rfl
set_option maxRecDepth 100000 in
theorem cl15_FnExactGenusSum : (Rows.fnExactGenusSumRow.mapsOut == Try.pinned.checked.prog.mapsAmong Try.f12.resultTypes.toList) = true := by kernel_rfl
set_option maxRecDepth 100000 in
theorem cl16_FnExactGenusSum : (Rows.fnExactGenusSumRow.loops == (Try.f12.params.toList ++ Rows.fnExactGenusSumSpec.plain.varTypes Try.pinned.checked.prog).any (Try.pinned.checked.prog.loopsFrom ·)) = true := by kernel_rfl
set_option maxRecDepth 100000 in
theorem cl17_FnExactGenusSum : (Rows.fnExactGenusSumRow.wideKeys == (Try.f12.params.toList ++ Rows.fnExactGenusSumSpec.plain.varTypes Try.pinned.checked.prog ++ Try.f12.resultTypes.toList).any (Try.pinned.checked.prog.wideKeysFrom ·)) = true := by kernel_rfl
set_option maxRecDepth 100000 in
theorem cl18_FnExactGenusSum : (Rows.fnExactGenusSumSpec.vars.all (Try.pinned.checked.prog.varReadable ·)) = true := by kernel_rfl
set_option maxRecDepth 100000 in
theorem cl19_FnExactGenusSum : (Try.f12.resultTypes.all (fun t => Try.pinned.checked.prog.readableRec t && decide (t < Try.pinned.checked.prog.types.size))) = true := by kernel_rfl
set_option maxRecDepth 100000 in
theorem cl20_FnExactGenusSum : (Rows.fnExactGenusSumRow.ifacesOut == Try.f12.resultTypes.toList.any (Try.pinned.checked.prog.ifacesRec ·)) = true := by kernel_rfl
set_option maxRecDepth 100000 in
theorem cl21_FnExactGenusSum : (Rows.fnExactGenusSumRow.loopsOut == Try.f12.resultTypes.toList.any (Try.pinned.checked.prog.loopsFrom ·)) = true := by kernel_rfl
set_option maxRecDepth 100000 in
theorem cl22_FnExactGenusSum : (Rows.fnExactGenusSumRow.plainKeys == Try.pinned.checked.prog.plainKeys) = true := by kernel_rfl
set_option maxRecDepth 100000 in
theorem cl23_FnExactGenusSum : (Rows.fnExactGenusSumRow.shortTexts.isNone) = true := by kernel_rfl
set_option maxRecDepth 100000 in
theorem cl24_FnExactGenusSum : (Try.pinned.checked.prog.stopsHeard) = true := by kernel_rfl
set_option maxRecDepth 100000 in
theorem cl25_FnExactGenusSum : (Try.pinned.checked.prog.mayEnter) = true := by kernel_rfl
set_option maxRecDepth 100000 in
theorem cl26_FnExactGenusSum : (Rows.fnExactGenusSumRow.lifted == Try.pinned.checked.prog.liftsFinal) = true := by kernel_rfl
set_option maxRecDepth 100000 in
theorem cl27_FnExactGenusSum : (Try.pinned.checked.prog.make == some Rows.fnExactGenusSumRow.make) = true := by kernel_rfl
set_option maxRecDepth 100000 in
theorem cl28_FnExactGenusSum : (Rows.fnExactGenusSumRow.kinds == (if Rows.fnExactGenusSumRow.domain.isEmpty then [] else Try.f12.params.toList.map fun t => match Try.pinned.checked.prog.underlying t with | some (.int k) => some k | _ => none)) = true := by kernel_rfl
set_option maxRecDepth 100000 in
theorem cl29_FnExactGenusSum : (Rows.fnExactGenusSumRow.pinned == Rows.fnExactGenusSumRow.pinnedBy) = true := by kernel_rfl
set_option maxRecDepth 100000 in
theorem cl30_FnExactGenusSum : (Rows.fnExactGenusSumRow.veiled == (Try.f12.params.toList ++ Rows.fnExactGenusSumSpec.plain.varTypes Try.pinned.checked.prog ++ Try.f12.resultTypes.toList).any (Try.pinned.checked.prog.veiledRec ·)) = true := by kernel_rfl
set_option maxRecDepth 100000 in
theorem cl31_FnExactGenusSum : (Rows.fnExactGenusSumRow.veiledFits Try.pinned.checked.prog Try.f12.params.toList (Try.f12.params.toList ++ Rows.fnExactGenusSumSpec.plain.varTypes Try.pinned.checked.prog ++ Try.f12.resultTypes.toList)) = true := by kernel_rfl
set_option maxRecDepth 100000 in
theorem closed_FnExactGenusSum : joinedFacts Try.pinned.checked.prog 12 Try.f12 Rows.fnExactGenusSumSpec Rows.fnExactGenusSumRow = true := (and2_FnExactGenusSum (and2_FnExactGenusSum (and2_FnExactGenusSum (and2_FnExactGenusSum (and2_FnExactGenusSum (and2_FnExactGenusSum (and2_FnExactGenusSum (and2_FnExactGenusSum (and2_FnExactGenusSum (and2_FnExactGenusSum (and2_FnExactGenusSum (and2_FnExactGenusSum (and2_FnExactGenusSum (and2_FnExactGenusSum (and2_FnExactGenusSum (and2_FnExactGenusSum (and2_FnExactGenusSum (and2_FnExactGenusSum (and2_FnExactGenusSum (and2_FnExactGenusSum (and2_FnExactGenusSum (and2_FnExactGenusSum (and2_FnExactGenusSum (and2_FnExactGenusSum (and2_FnExactGenusSum (and2_FnExactGenusSum (and2_FnExactGenusSum (and2_FnExactGenusSum (and2_FnExactGenusSum (and2_FnExactGenusSum (and2_FnExactGenusSum cl0_FnExactGenusSum cl1_FnExactGenusSum) cl2_FnExactGenusSum) cl3_FnExactGenusSum) cl4_FnExactGenusSum) cl5_FnExactGenusSum) cl6_FnExactGenusSum) cl7_FnExactGenusSum) cl8_FnExactGenusSum) cl9_FnExactGenusSum) cl10_FnExactGenusSum) cl11_FnExactGenusSum) cl12_FnExactGenusSum) cl13_FnExactGenusSum) cl14_FnExactGenusSum) cl15_FnExactGenusSum) cl16_FnExactGenusSum) cl17_FnExactGenusSum) cl18_FnExactGenusSum) cl19_FnExactGenusSum) cl20_FnExactGenusSum) cl21_FnExactGenusSum) cl22_FnExactGenusSum) cl23_FnExactGenusSum) cl24_FnExactGenusSum) cl25_FnExactGenusSum) cl26_FnExactGenusSum) cl27_FnExactGenusSum) cl28_FnExactGenusSum) cl29_FnExactGenusSum) cl30_FnExactGenusSum) cl31_FnExactGenusSum)


/-- The statement. -/
theorem holds_FnExactGenusSum : Rows.FnExactGenusSumSaid :=
  OpenClaim.holds_of_wide 12 Try.f12 rfl rfl rfl rfl rfl rfl rfl ⟨rfl, rfl, rfl, rfl, rfl⟩ rfl rfl rfl rfl rfl (by kernel_rfl) Try.func12 closed_FnExactGenusSum
    (of_decide_eq_true (by kernel_rfl)) (by unfold Func.isWrapper; first | (rw [if_pos (by decide +kernel)]; kernel_rfl) | (rw [if_neg (by decide +kernel)]; exact ⟨rfl, rfl⟩))
    (fun os started H enc _ => lifted_FnExactGenusSum os started H enc)
#print axioms holds_FnExactGenusSum
end Go.Proofs.Ytjfcaafmlghjlaa
