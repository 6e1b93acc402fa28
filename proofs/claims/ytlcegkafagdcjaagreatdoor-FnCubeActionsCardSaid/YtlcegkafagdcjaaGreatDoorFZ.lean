/- FnCubeActions returns true, as a row and as a tied card: what the library's tables and errors hold when the call begins is what the program's text lays. Conditions: none beyond the row's own list of variables, which the card ties to the program's text. -/
import Derived.Test.YtlcegkafagdcjaaGreatDoorL57
import Derived.Test.YtlcegkafagdcjaaGreatDoorRows
import Derived.Test.YtlcegkafagdcjaaGreatDoorTie
import Derived.Test.YtlcegkafagdcjaaGreatDoorCards
import Derived.LaidMore
import Derived.Stop.Joined
import Derived.Stop.LaidErr
import Derived.Lib.LaidTab
import Derived.SevenTiedAt
namespace Go.Proofs.YtlcegkafagdcjaaGreatDoor
open Go.RowKit Go.ChangeShapes Go.WideShapes Go.ChangeAt Go.Joins

theorem pow_g : Tryz.prog.globalNamed "internal/strconv.uint64pow10" = some 2 := by kernel_rfl
theorem pow_t : (Tryz.prog.globals[2]?).map (·.type) = some 159 := by kernel_rfl
/-- The door's own heap meets the condition. -/
theorem door_met (os : Os) (args : Array Value) : laidMetH Tryz.prog Rows.fnCubeActionsRow.laid ((World.doorLaid Tryz.prog 62 os).forCall (fun _ _ => 0) ⟨#[], args, []⟩).memory :=
  laidMetH_of_parts3 (fuel := 8) (laidMet_of_run' 8 (by kernel_rfl) (by kernel_rfl)) (by kernel_rfl) (by kernel_rfl)
/-- What the condition gives the walk. -/
theorem pow_of_laid {W : World} (h : laidMetH Tryz.prog Rows.fnCubeActionsRow.laid W) : PowT W := by
  rw [MakeChecks.laidMetH_plain _ _ _ (by kernel_rfl)] at h
  have h2 := (laidMet.tail (laidMet.tail h))
  have e : (Rows.laid_internal_strconv_uint64pow10 : DataW Unit) = Lib.tabData .u64 Lib.pow10Tab := by kernel_rfl
  rw [e] at h2
  exact Lib.tabIs_of_head pow_g pow_t Tryz.underlying159 Tryz.underlying49 (by kernel_rfl) (by kernel_rfl) h2
theorem own_FnCubeActions : ownKnob Tryz.prog.godebug = none := by kernel_rfl
set_option maxRecDepth 100000 in
theorem lifted_FnCubeActions (os : Os) (started : os.Started) (H : Type) (enc : TypeId × Value → H) :
    ReturnsInHanded {} Tryz.checked os 3 .any (fun w args => (Rows.fnCubeActionsSpec.pre enc Tryz.prog Tryz.f3 [] false w args ∧ laidMetH Tryz.prog Rows.fnCubeActionsRow.laid w) ∧ sizedMet enc Tryz.prog Tryz.f3 (OpenSpec.ofChange Rows.fnCubeActionsSpec) false w args)
      (Rows.fnCubeActionsSpec.post enc Tryz.prog Tryz.f3 false true false false) := by
  refine returnsInHanded_of_change_and (C := Tryz.checked) (X := fun w _ => laidMetH Tryz.prog Rows.fnCubeActionsRow.laid w) (fun _ _ _ hh h => h.of_heap hh) own_FnCubeActions started (by kernel_rfl) Tryz.func3
    (ChangeSpec.witness_shaped (enc := enc) (C := Tryz.checked) (os := os) (X := fun w _ => laidMetH Tryz.prog Rows.fnCubeActionsRow.laid w) false (World.doorLaid Tryz.prog 62 os) #[.slice none 0 0, .slice none 0 0] 8 rfl (World.shaped_of_RefB (by kernel_rfl) (by kernel_rfl)) (by kernel_rfl) (by kernel_rfl) (by kernel_rfl) (door_met os _)) ?_
  intro W base args ds gs before hval0 hW _ _ hL _
  have hval : ∀ (j : Nat) t v, Tryz.f3.params[j]? = some t → args[j]? = some v → Value.okWide Tryz.prog W .any base t v := hval0
  have hW' := hW
  obtain ⟨p, q, hA0, hV, rfl, hfz, hnd⟩ := hW
  have hA : DataW.TrodAll enc Tryz.prog W 0 (fun _ => true) true Tryz.f3.params.toList args.toList ds p := hA0
  rw [Tryz.params3] at hA hval
  obtain ⟨v1, vs1, d1, ds1, p1, q1, hargs, rfl, rfl, h1, r1⟩ := trodAll_cons hA
  obtain ⟨v2, vs2, d2, ds2, p2, q2, rfl, rfl, rfl, h2, r2⟩ := trodAll_cons r1
  obtain ⟨rfl, rfl, rfl⟩ := trodAll_nil r2
  obtain rfl : args = #[v1, v2] := by cases args; simp_all
  obtain ⟨rfl, rfl⟩ := trodVars_none hV
  obtain ⟨zs, hrd⟩ := open_reB (hval 0 22 v1 rfl rfl) h1
  obtain ⟨es, hre⟩ := open_reB (hval 1 22 v2 rfl rfl) h2
  have hlt1 : ∀ x ∈ p1, x.block < W.heap.size := fun x hx => hW'.lt x (by simp [hx])
  have hlt2 : ∀ x ∈ p2, x.block < W.heap.size := fun x hx => hW'.lt x (by simp [hx])
  clear hA0 hval0
  refine (walk_FnCubeActions zs es v1 v2 W hrd hre (pow_of_laid hL)).mono fun e W' ⟨he, hg⟩ => ?_
  subst he
  exact ⟨_, rfl, post_of_below (pa := p1 ++ (p2 ++ [])) (pv := []) hW' (fun _ _ _ => (trodAll_cons_mk (shut_bool Tryz.underlying4 _) trodAll_mk0)) (fun sp hsp => (trodAll_cons_mk (WideElems.Trod_stays laid_D3 (by kernel_rfl) (of_decide_eq_true (by kernel_rfl)) h1 (fun x hx => hg.same (hlt1 x hx)) (fun x hx => hsp x (by simp [hx]))) (trodAll_cons_mk (WideElems.Trod_stays laid_D3 (by kernel_rfl) (of_decide_eq_true (by kernel_rfl)) h2 (fun x hx => hg.same (hlt2 x hx)) (fun x hx => hsp x (by simp [hx]))) trodAll_mk0))) (fun _ _ => rfl) rfl
    hg (ok_one (by kernel_rfl) rfl (okWide_bool_mk Tryz.underlying4 _))⟩

theorem and2_FnCubeActions {a b : Bool} (h : a = true) (k : b = true) : (a && b) = true := by rw [h, k]; rfl
set_option maxRecDepth 100000 in
theorem cl0_FnCubeActions : (Rows.fnCubeActionsRow.wf (OpenSpec.ofChange Rows.fnCubeActionsSpec)) = true := by kernel_rfl
set_option maxRecDepth 100000 in
theorem cl1_FnCubeActions : (laidOutB Tryz.pinned.checked.prog) = true := by kernel_rfl
set_option maxRecDepth 100000 in
theorem cl2_FnCubeActions : (mapsRowed Tryz.pinned.checked.prog) = true := by kernel_rfl
set_option maxRecDepth 100000 in
theorem cl3_FnCubeActions : (Tryz.f3.params.all (Tryz.pinned.checked.prog.readableRec ·)) = true := by kernel_rfl
set_option maxRecDepth 100000 in
theorem cl4_FnCubeActions : (namedTie Tryz.pinned.checked.prog Rows.fnCubeActionsRow.named Rows.fnCubeActionsSpec.vars) = true := by kernel_rfl
set_option maxRecDepth 100000 in
theorem cl5_FnCubeActions : (Rows.fnCubeActionsRow.stops == []) = true := by kernel_rfl
set_option maxRecDepth 100000 in
theorem cl6_FnCubeActions : (Tryz.pinned.checked.prog.stops == []) = true := by kernel_rfl
set_option maxRecDepth 100000 in
theorem cl7_FnCubeActions : (Rows.fnCubeActionsRow.knobs == []) = true := by kernel_rfl
set_option maxRecDepth 100000 in
theorem cl8_FnCubeActions : (Tryz.pinned.checked.prog.stopKnobs == []) = true := by kernel_rfl
set_option maxRecDepth 100000 in
theorem cl9_FnCubeActions : (Rows.fnCubeActionsRow.inPlace == Tryz.pinned.checked.prog.inPlace 3) = true := by kernel_rfl
set_option maxRecDepth 100000 in
theorem cl10_FnCubeActions : (Rows.fnCubeActionsRow.unfollowed == Tryz.pinned.checked.prog.unfollowed 3) = true := by kernel_rfl
set_option maxRecDepth 100000 in
theorem cl11_FnCubeActions : (Rows.fnCubeActionsRow.recurses == Tryz.pinned.checked.prog.recurses 3) = true := by kernel_rfl
set_option maxRecDepth 100000 in
theorem cl12_FnCubeActions : (Rows.fnCubeActionsRow.named == Tryz.pinned.checked.prog.varsNamed 3) = true := by kernel_rfl
set_option maxRecDepth 100000 in
theorem cl13_FnCubeActions : (Rows.fnCubeActionsRow.maps == (Tryz.f3.params.toList ++ Rows.fnCubeActionsSpec.plain.varTypes Tryz.pinned.checked.prog).any (Tryz.pinned.checked.prog.mapsRec ·)) = true := by kernel_rfl
set_option maxRecDepth 100000 in
theorem cl14_FnCubeActions : (Rows.fnCubeActionsRow.ifaces == (Tryz.f3.params.toList ++ Rows.fnCubeActionsSpec.plain.varTypes Tryz.pinned.checked.prog).any (Tryz.pinned.checked.prog.ifacesRec ·)) = true := by kernel_rfl
set_option maxRecDepth 100000 in
theorem cl15_FnCubeActions : (Rows.fnCubeActionsRow.mapsOut == Tryz.pinned.checked.prog.mapsAmong Tryz.f3.resultTypes.toList) = true := by kernel_rfl
set_option maxRecDepth 100000 in
theorem cl16_FnCubeActions : (Rows.fnCubeActionsRow.loops == (Tryz.f3.params.toList ++ Rows.fnCubeActionsSpec.plain.varTypes Tryz.pinned.checked.prog).any (Tryz.pinned.checked.prog.loopsFrom ·)) = true := by kernel_rfl
set_option maxRecDepth 100000 in
theorem cl17_FnCubeActions : (Rows.fnCubeActionsRow.wideKeys == (Tryz.f3.params.toList ++ Rows.fnCubeActionsSpec.plain.varTypes Tryz.pinned.checked.prog ++ Tryz.f3.resultTypes.toList).any (Tryz.pinned.checked.prog.wideKeysFrom ·)) = true := by kernel_rfl
set_option maxRecDepth 100000 in
theorem cl18_FnCubeActions : (Rows.fnCubeActionsSpec.vars.all (Tryz.pinned.checked.prog.varReadable ·)) = true := by kernel_rfl
set_option maxRecDepth 100000 in
theorem cl19_FnCubeActions : (Tryz.f3.resultTypes.all (fun t => Tryz.pinned.checked.prog.readableRec t && decide (t < Tryz.pinned.checked.prog.types.size))) = true := by kernel_rfl
set_option maxRecDepth 100000 in
theorem cl20_FnCubeActions : (Rows.fnCubeActionsRow.ifacesOut == Tryz.f3.resultTypes.toList.any (Tryz.pinned.checked.prog.ifacesRec ·)) = true := by kernel_rfl
set_option maxRecDepth 100000 in
theorem cl21_FnCubeActions : (Rows.fnCubeActionsRow.loopsOut == Tryz.f3.resultTypes.toList.any (Tryz.pinned.checked.prog.loopsFrom ·)) = true := by kernel_rfl
set_option maxRecDepth 100000 in
theorem cl22_FnCubeActions : (Rows.fnCubeActionsRow.plainKeys == Tryz.pinned.checked.prog.plainKeys) = true := by kernel_rfl
set_option maxRecDepth 100000 in
theorem cl23_FnCubeActions : (Rows.fnCubeActionsRow.shortTexts.isNone) = true := by kernel_rfl
set_option maxRecDepth 100000 in
theorem cl24_FnCubeActions : (Tryz.pinned.checked.prog.stopsHeard) = true := by kernel_rfl
set_option maxRecDepth 100000 in
theorem cl25_FnCubeActions : (Tryz.pinned.checked.prog.mayEnter) = true := by kernel_rfl
set_option maxRecDepth 100000 in
theorem cl26_FnCubeActions : (Rows.fnCubeActionsRow.lifted == Tryz.pinned.checked.prog.liftsFinal) = true := by kernel_rfl
set_option maxRecDepth 100000 in
theorem cl27_FnCubeActions : (Tryz.pinned.checked.prog.make == some Rows.fnCubeActionsRow.make) = true := by kernel_rfl
set_option maxRecDepth 100000 in
theorem cl28_FnCubeActions : (Rows.fnCubeActionsRow.kinds == (if Rows.fnCubeActionsRow.domain.isEmpty then [] else Tryz.f3.params.toList.map fun t => match Tryz.pinned.checked.prog.underlying t with | some (.int k) => some k | _ => none)) = true := by kernel_rfl
set_option maxRecDepth 100000 in
theorem cl29_FnCubeActions : (Rows.fnCubeActionsRow.pinned == Rows.fnCubeActionsRow.pinnedBy) = true := by kernel_rfl
set_option maxRecDepth 100000 in
theorem cl30_FnCubeActions : (Rows.fnCubeActionsRow.veiled == (Tryz.f3.params.toList ++ Rows.fnCubeActionsSpec.plain.varTypes Tryz.pinned.checked.prog ++ Tryz.f3.resultTypes.toList).any (Tryz.pinned.checked.prog.veiledRec ·)) = true := by kernel_rfl
set_option maxRecDepth 100000 in
theorem cl31_FnCubeActions : (Rows.fnCubeActionsRow.veiledFits Tryz.pinned.checked.prog Tryz.f3.params.toList (Tryz.f3.params.toList ++ Rows.fnCubeActionsSpec.plain.varTypes Tryz.pinned.checked.prog ++ Tryz.f3.resultTypes.toList)) = true := by kernel_rfl
set_option maxRecDepth 100000 in
theorem closed_FnCubeActions : joinedFacts Tryz.pinned.checked.prog 3 Tryz.f3 Rows.fnCubeActionsSpec Rows.fnCubeActionsRow = true := (and2_FnCubeActions (and2_FnCubeActions (and2_FnCubeActions (and2_FnCubeActions (and2_FnCubeActions (and2_FnCubeActions (and2_FnCubeActions (and2_FnCubeActions (and2_FnCubeActions (and2_FnCubeActions (and2_FnCubeActions (and2_FnCubeActions (and2_FnCubeActions (and2_FnCubeActions (and2_FnCubeActions (and2_FnCubeActions (and2_FnCubeActions (and2_FnCubeActions (and2_FnCubeActions (and2_FnCubeActions (and2_FnCubeActions (and2_FnCubeActions (and2_FnCubeActions (and2_FnCubeActions (and2_FnCubeActions (and2_FnCubeActions (and2_FnCubeActions (and2_FnCubeActions (and2_FnCubeActions (and2_FnCubeActions (and2_FnCubeActions cl0_FnCubeActions cl1_FnCubeActions) cl2_FnCubeActions) cl3_FnCubeActions) cl4_FnCubeActions) cl5_FnCubeActions) cl6_FnCubeActions) cl7_FnCubeActions) cl8_FnCubeActions) cl9_FnCubeActions) cl10_FnCubeActions) cl11_FnCubeActions) cl12_FnCubeActions) cl13_FnCubeActions) cl14_FnCubeActions) cl15_FnCubeActions) cl16_FnCubeActions) cl17_FnCubeActions) cl18_FnCubeActions) cl19_FnCubeActions) cl20_FnCubeActions) cl21_FnCubeActions) cl22_FnCubeActions) cl23_FnCubeActions) cl24_FnCubeActions) cl25_FnCubeActions) cl26_FnCubeActions) cl27_FnCubeActions) cl28_FnCubeActions) cl29_FnCubeActions) cl30_FnCubeActions) cl31_FnCubeActions)


/-- The row's statement. -/
theorem holds_FnCubeActions : Rows.FnCubeActionsSaid :=
  OpenClaim.holds_of_wide 3 Tryz.f3 rfl rfl rfl rfl rfl rfl rfl ⟨rfl, rfl, rfl, rfl, rfl⟩ rfl rfl rfl rfl rfl (by kernel_rfl) Tryz.func3 closed_FnCubeActions
    (of_decide_eq_true (by kernel_rfl)) (by unfold Func.isWrapper; first | (rw [if_pos (by decide +kernel)]; kernel_rfl) | (rw [if_neg (by decide +kernel)]; exact ⟨rfl, rfl⟩))
    (fun os started H enc _ => lifted_FnCubeActions os started H enc)
/-- The statement: the tied card. -/
theorem card_FnCubeActions : Rows.FnCubeActionsCardSaid :=
  Claim7.holds_tied_plain_at .later [] [.data, .data, .data, .sentinel, .sentinel] true (true, "8eafbcbd1f23ee547cca3c42acd2e3132f00d86a160e7d2a4bcf8586c3e59701") true
    holds_FnCubeActions (fun _ h => by cases h) (by kernel_rfl) (fun _ h => by cases h) fnCubeActions_row_tie rfl ⟨rfl, rfl⟩ (by kernel_rfl) rfl
    (fun f fn hf hfn => by
      obtain rfl : f = 3 := Option.some.inj ((show Tryz.prog.funcNamed "loop.example/g01066/laws.FnCubeActions" = some 3 by kernel_rfl).symm.trans hf) |>.symm
      obtain rfl : fn = Tryz.f3 := (Option.some.inj (Tryz.func3.symm.trans hfn)).symm
      exact ⟨by kernel_rfl, fun j t ht => by
        rw [Tryz.params3] at ht
        have hm : t ∈ [22, 22] := by simpa using Array.mem_of_getElem? ht
        have hall : ([22, 22].all fun u => !Tryz.prog.wantsStandIn u) = true := by kernel_rfl
        exact (show Tryz.prog.wantsStandIn t = false by simpa using List.all_eq_true.1 hall t hm)⟩)
    (by kernel_rfl)
#print axioms card_FnCubeActions
end Go.Proofs.YtlcegkafagdcjaaGreatDoor
