/- Parts K1 K2 laid together by tp.py. -/
import Derived.Maps.OwnSet
import Derived.DeepKeys4
import Derived.Test.YtdhennlanngjgaaUB
import Derived.Test.YtdhennlanngjgaaGG
namespace Go.Proofs.Ytdhennlanngjgaa
section
open Go.RowKit Go.Maps

theorem laid_K1 : laidOutB Try.prog = true := by kernel_rfl
theorem cellsInt_K1 : Try.prog.cellsOf 3 = 1 := by kernel_rfl
theorem zeroBool_K1 (w : World) : (zeroValue 4).run Try.prog w = .ok (.bool false) w := by kernel_rfl

/-- A form as a value. -/
abbrev valF (f : Fm) : Value := .agg #[.int .i64 f.a, .int .i64 f.b, .int .i64 f.c]
/-- A form whose numbers are ints. -/
def WfF (f : Fm) : Prop := (Lit.int .i64 f.a).wf = true ∧ (Lit.int .i64 f.b).wf = true ∧ (Lit.int .i64 f.c).wf = true
theorem plainElem_bool_inv {H : Type} {P : Program} {e : TypeId} (he : P.underlying e = some .bool) {v : Value} {z : DataW H × List MemPlace} (h : plainElem P e v = some z) : ∃ x, v = .bool x ∧ z = (.lit (.bool x), []) := by
  unfold plainElem at h
  rw [he] at h
  cases v <;> simp at h
  exact ⟨_, rfl, h.symm⟩
/-- A look-up of a bool, where it is known what the datum has at the key. -/
theorem wpList_lookup_bool {P : Program} (w : World) {ops : Array Oper} {rest : List Oper} {o : Oper} {a : Act} {Q : Exit → Act → World → Prop}
    (hg : o.guard = none) (m x : Operand) (t : TypeId) (hop : o.op = Op.lookup t m x false)
    (k e : TypeId) (K : Keyed P k) (ht : P.underlying t = some (.map k e)) (he : P.underlying e = some .bool) (hz : (zeroValue e).run P w = .ok (.bool false) w) (b n : Nat) (D : DataW Unit)
    (hm : a.eval m = .map (some b)) (hown : w.ownsMap P k (plainElem P e) b n D) (key : Value) (kl : Lit) (hx : a.eval x = key) (hkey : keyOf P k key = some kl) (y : Bool) (hat : D.atKey kl (.lit (.bool false)) = .lit (.bool y))
    (hK : wpList P ops Q rest (a.put o.dst (.bool y)) w) :
    wpList P ops Q (o :: rest) a w := by
  refine wpList_plain hg fun K' hK' => ?_
  obtain ⟨v, ps, hrun, hv⟩ := hown.lookup K ht hz (plainElem_bool he false) hkey
  obtain ⟨c, rfl, hc⟩ := plainElem_bool_inv he hv
  rw [hat] at hc
  simp only [Prod.mk.injEq, DataW.lit.injEq, Lit.bool.injEq] at hc
  obtain ⟨rfl, _⟩ := hc
  unfold Oper.wp
  simp [execOp, hop, hm, hx, hrun, Result.andThen]
  exact hK' _ _ hK
theorem wf_small {n : Int} (h1 : -1000000 ≤ n) (h2 : n ≤ 1000000) : (Lit.int .i64 n).wf = true := by
  simp [Lit.wf, IntKind.min, IntKind.max, IntKind.bits, IntKind.signed]; omega
theorem ownsMap_below {w w' : World} {k : TypeId} {R : Value → Option (DataW Unit × List MemPlace)} {b n B : Nat} {D : DataW Unit} (h : w.ownsMap Try.prog k R b n D) (hb : Below B w w') (hlt : b < B) : w'.ownsMap Try.prog k R b n D := by
  obtain ⟨es, clock, h1, h2⟩ := h
  exact ⟨es, clock, (hb.block b hlt).trans h1, h2⟩
end

section
open Go.RowKit

/-- The f that are an n-th power of a class in L. -/
noncomputable def powP (d : Int) (n : Nat) (L : List Fm) (f : Fm) : Bool := L.any fun g => fmEq f (pw d g n)
theorem powP_next {d : Int} {n k : Nat} {L : List Fm} (h : k < L.length) (f : Fm) : powP d n (L.take (k + 1)) f = (powP d n (L.take k) f || fmEq f (pw d L[k] n)) := by
  unfold powP
  rw [List.take_succ_eq_append_getElem h, List.any_append]
  simp
theorem cls_wf {d : Int} {f : Fm} (h1 : -2000 ≤ d) (hf : f ∈ clsL d) : WfF f := by
  obtain ⟨⟨a1, a2⟩, ⟨b1, b2⟩, ⟨c1, c2⟩⟩ := cls_bd h1 hf
  exact ⟨wf_small (by omega) (by omega), wf_small (by omega) (by omega), wf_small (by omega) (by omega)⟩
theorem cls_pw {d : Int} {f : Fm} (D : Dsc d) (hf : f ∈ clsL d) (n : Nat) : pw d f n ∈ clsL d := D.pwm hf n

theorem apart_new {w : World} {B : Nat} {e : TypeId} {sz n m c : Nat} {vl : Value} {xs : List Value} (h : w.ownsRow B e sz vl n xs) : Apart (.slice (some ⟨w.heap.size, 0, none⟩) m c) vl := by
  unfold Apart
  cases h2 : vl.ownBlock with
  | none => exact .inl rfl
  | some b =>
    refine .inr (fun he => ?_)
    have := (h.lt b h2).2
    simp [Value.ownBlock] at he
    omega
end
end Go.Proofs.Ytdhennlanngjgaa
