/- Parts K1 K2 laid together by tp.py. -/
import Derived.Maps.OwnSet
import Derived.DeepKeys4
import Derived.Test.YtlcegkafagdcjaaGreatDoorUB
import Derived.Test.YtlcegkafagdcjaaGreatDoorGG
namespace Go.Proofs.YtlcegkafagdcjaaGreatDoor
section
open Go.RowKit Go.Maps

theorem laid_K1 : laidOutB Tryz.prog = true := by kernel_rfl
theorem row_K1 : (33 : TypeId) < Tryz.prog.types.size := of_decide_eq_true (by kernel_rfl)
theorem cells_K1 : Tryz.prog.cellsOf 33 = 3 := by kernel_rfl
theorem cellsInt_K1 : Tryz.prog.cellsOf 3 = 1 := by kernel_rfl
theorem keyType_K1 : Tryz.prog.keyType 33 = true := by kernel_rfl
theorem wide_K1 : (match Tryz.prog.underlying 33 with | some (.array _ _) | some (.struct _) => true | _ => false) = true := by rw [Tryz.underlying33]
set_option maxRecDepth 100000 in
theorem law_K1 : Keyed Tryz.prog 33 := Keyed.of_law (deep_law_laid laid_K1 (m := 2) (by omega) row_K1 (by kernel_rfl) wide_K1)
/-- A form as a value. -/
abbrev valF (f : Fm) : Value := .agg #[.int .i64 f.a, .int .i64 f.b, .int .i64 f.c]
/-- A form whose numbers are ints. -/
def WfF (f : Fm) : Prop := (Lit.int .i64 f.a).wf = true ∧ (Lit.int .i64 f.b).wf = true ∧ (Lit.int .i64 f.c).wf = true
theorem keyF_ex {f : Fm} (h : WfF f) : ∃ kl, keyOf Tryz.prog 33 (valF f) = some kl := by
  obtain ⟨h1, h2, h3⟩ := h
  obtain ⟨n, hn⟩ : ∃ n, Tryz.prog.types.size = n + 1 := Nat.exists_eq_succ_of_ne_zero (Nat.ne_of_gt (Nat.lt_of_le_of_lt (Nat.zero_le _) row_K1))
  have hfo : (valF f).formed Tryz.prog 33 = true := by simp [Value.formed, Tryz.underlying33, cells_K1]
  unfold keyOf
  rw [Tryz.underlying33]
  simp only [keyType_K1, hfo, Bool.and_self, if_true]
  rw [hn]
  simp [Program.keyLits, Tryz.underlying33, Tryz.underlying3, cells_K1, cellsInt_K1, Value.cells, h1, h2, h3]

/-- The key of a form. -/
noncomputable def klF (f : Fm) : Lit := (keyOf Tryz.prog 33 (valF f)).getD (.bool false)
theorem key_klF {f : Fm} (h : WfF f) : keyOf Tryz.prog 33 (valF f) = some (klF f) := by
  obtain ⟨kl, e⟩ := keyF_ex h
  unfold klF; rw [e]; rfl
set_option maxRecDepth 100000 in
theorem isKey_klF {f : Fm} (h : WfF f) : WideAt.IsKeyLit (klF f) := law_K1.key (key_klF h)
set_option maxRecDepth 100000 in
theorem klF_inj {f g : Fm} (hf : WfF f) (hg : WfF g) (h : klF f = klF g) : f = g := by
  have := law_K1.inj (key_klF hf) ((key_klF hg).trans (by rw [h]))
  simp only [valF, Value.agg.injEq] at this
  have e := congrArg Array.toList this
  simp at e
  exact fm_eq e.1 e.2.1 e.2.2
/-- The datum of a map is the set of the forms that p tells. -/
def SetF (D : DataW Unit) (p : Fm → Bool) : Prop := IsMap D ∧ ∀ f, WfF f → D.atKey (klF f) (.lit (.bool false)) = .lit (.bool (p f))
theorem SetF.made : SetF (.map []) (fun _ => false) := ⟨isMap_empty, fun _ _ => rfl⟩
set_option maxRecDepth 100000 in
theorem SetF.put {D : DataW Unit} {p : Fm → Bool} (h : SetF D p) {g : Fm} (hg : WfF g) : SetF (D.put (klF g) (.lit (.bool true))) (fun f => p f || fmEq f g) := by
  refine ⟨h.1.put _ _, fun f hf => ?_⟩
  by_cases e : f = g
  · subst e
    have e3 : (p f || fmEq f f) = true := by rw [(fmEq_iff f f).2 rfl, Bool.or_true]
    exact (atKey_put_same h.1 (isKey_klF hf) _ _).trans (by simp only [e3])
  · have e2 : klF f ≠ klF g := fun he => e (klF_inj hf hg he)
    have e3 : (p f || fmEq f g) = p f := by rw [(fmEq_no f g).2 e, Bool.or_false]
    exact (atKey_put_other e2 _ _).trans ((h.2 f hf).trans (by simp only [e3]))

end

section
open Go.RowKit

end
end Go.Proofs.YtlcegkafagdcjaaGreatDoor
