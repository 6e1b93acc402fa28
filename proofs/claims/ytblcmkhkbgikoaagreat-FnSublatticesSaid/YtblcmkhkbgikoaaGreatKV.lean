/- Parts K1 K2 laid together by tp.py. -/
import Derived.Maps.OwnSet
import Derived.DeepKeys4
import Derived.Test.YtblcmkhkbgikoaaGreatUB
import Derived.Test.YtblcmkhkbgikoaaGreatGG
namespace Go.Proofs.YtblcmkhkbgikoaaGreat
section
open Go.RowKit Go.Maps

theorem laid_K1 : laidOutB Tryz.prog = true := by kernel_rfl
theorem row_K1 : (36 : TypeId) < Tryz.prog.types.size := of_decide_eq_true (by kernel_rfl)
theorem cells_K1 : Tryz.prog.cellsOf 36 = 3 := by kernel_rfl
theorem cellsInt_K1 : Tryz.prog.cellsOf 3 = 1 := by kernel_rfl
theorem keyType_K1 : Tryz.prog.keyType 36 = true := by kernel_rfl
theorem wide_K1 : (match Tryz.prog.underlying 36 with | some (.array _ _) | some (.struct _) => true | _ => false) = true := by rw [Tryz.underlying36]
set_option maxRecDepth 100000 in
theorem law_K1 : Keyed Tryz.prog 36 := Keyed.of_law (deep_law_laid laid_K1 (m := 2) (by omega) row_K1 (by kernel_rfl) wide_K1)
theorem zeroBool_K1 (w : World) : (zeroValue 4).run Tryz.prog w = .ok (.bool false) w := by kernel_rfl

/-- A form as a value. -/
abbrev valF (f : Fm) : Value := .agg #[.int .i64 f.a, .int .i64 f.b, .int .i64 f.c]
/-- A form whose numbers are ints. -/
def WfF (f : Fm) : Prop := (Lit.int .i64 f.a).wf = true ∧ (Lit.int .i64 f.b).wf = true ∧ (Lit.int .i64 f.c).wf = true
theorem keyF_ex {f : Fm} (h : WfF f) : ∃ kl, keyOf Tryz.prog 36 (valF f) = some kl := by
  obtain ⟨h1, h2, h3⟩ := h
  obtain ⟨n, hn⟩ : ∃ n, Tryz.prog.types.size = n + 1 := Nat.exists_eq_succ_of_ne_zero (Nat.ne_of_gt (Nat.lt_of_le_of_lt (Nat.zero_le _) row_K1))
  have hfo : (valF f).formed Tryz.prog 36 = true := by simp [Value.formed, Tryz.underlying36, cells_K1]
  unfold keyOf
  rw [Tryz.underlying36]
  simp only [keyType_K1, hfo, Bool.and_self, if_true]
  rw [hn]
  simp [Program.keyLits, Tryz.underlying36, Tryz.underlying3, cells_K1, cellsInt_K1, Value.cells, h1, h2, h3]

/-- The key of a form. -/
noncomputable def klF (f : Fm) : Lit := (keyOf Tryz.prog 36 (valF f)).getD (.bool false)
theorem key_klF {f : Fm} (h : WfF f) : keyOf Tryz.prog 36 (valF f) = some (klF f) := by
  obtain ⟨kl, e⟩ := keyF_ex h
  unfold klF; rw [e]; rfl
set_option maxRecDepth 100000 in
theorem isKey_klF {f : Fm} (h : WfF f) : WideAt.IsKeyLit (klF f) := law_K1.key (key_klF h)
set_option maxRecDepth 100000 in
theorem klF_inj {f g : Fm} (hf : WfF f) (hg : WfF g) (h : klF f = klF g) : f = g := by
  have := law_K1.inj (key_klF hf) ((key_klF hg).trans (by rw [h]))
  simp only [valF, Value.agg.injEq] at this
  have e := congrArg Array.toList this
  simp at e
  exact fm_eq e.1 e.2.1 e.2.2
/-- The datum of a map is the set of the forms that p tells. -/
def SetF (D : DataW Unit) (p : Fm → Bool) : Prop := IsMap D ∧ ∀ f, WfF f → D.atKey (klF f) (.lit (.bool false)) = .lit (.bool (p f))
theorem SetF.made : SetF (.map []) (fun _ => false) := ⟨isMap_empty, fun _ _ => rfl⟩
set_option maxRecDepth 100000 in
theorem SetF.put {D : DataW Unit} {p : Fm → Bool} (h : SetF D p) {g : Fm} (hg : WfF g) : SetF (D.put (klF g) (.lit (.bool true))) (fun f => p f || fmEq f g) := by
  refine ⟨h.1.put _ _, fun f hf => ?_⟩
  by_cases e : f = g
  · subst e
    have e3 : (p f || fmEq f f) = true := by rw [(fmEq_iff f f).2 rfl, Bool.or_true]
    exact (atKey_put_same h.1 (isKey_klF hf) _ _).trans (by simp only [e3])
  · have e2 : klF f ≠ klF g := fun he => e (klF_inj hf hg he)
    have e3 : (p f || fmEq f g) = p f := by rw [(fmEq_no f g).2 e, Bool.or_false]
    exact (atKey_put_other e2 _ _).trans ((h.2 f hf).trans (by simp only [e3]))

theorem plainElem_bool_inv {H : Type} {P : Program} {e : TypeId} (he : P.underlying e = some .bool) {v : Value} {z : DataW H × List MemPlace} (h : plainElem P e v = some z) : ∃ x, v = .bool x ∧ z = (.lit (.bool x), []) := by
  unfold plainElem at h
  rw [he] at h
  cases v <;> simp at h
  exact ⟨_, rfl, h.symm⟩
/-- A look-up of a bool, where it is known what the datum has at the key. -/
theorem wpList_lookup_bool {P : Program} (w : World) {ops : Array Oper} {rest : List Oper} {o : Oper} {a : Act} {Q : Exit → Act → World → Prop}
    (hg : o.guard = none) (m x : Operand) (t : TypeId) (hop : o.op = Op.lookup t m x false)
    (k e : TypeId) (K : Keyed P k) (ht : P.underlying t = some (.map k e)) (he : P.underlying e = some .bool) (hz : (zeroValue e).run P w = .ok (.bool false) w) (b n : Nat) (D : DataW Unit)
    (hm : a.eval m = .map (some b)) (hown : w.ownsMap P k (plainElem P e) b n D) (key : Value) (kl : Lit) (hx : a.eval x = key) (hkey : keyOf P k key = some kl) (y : Bool) (hat : D.atKey kl (.lit (.bool false)) = .lit (.bool y))
    (hK : wpList P ops Q rest (a.put o.dst (.bool y)) w) :
    wpList P ops Q (o :: rest) a w := by
  refine wpList_plain hg fun K' hK' => ?_
  obtain ⟨v, ps, hrun, hv⟩ := hown.lookup K ht hz (plainElem_bool he false) hkey
  obtain ⟨c, rfl, hc⟩ := plainElem_bool_inv he hv
  rw [hat] at hc
  simp only [Prod.mk.injEq, DataW.lit.injEq, Lit.bool.injEq] at hc
  obtain ⟨rfl, _⟩ := hc
  unfold Oper.wp
  simp [execOp, hop, hm, hx, hrun, Result.andThen]
  exact hK' _ _ hK
theorem wf_small {n : Int} (h1 : -1000000 ≤ n) (h2 : n ≤ 1000000) : (Lit.int .i64 n).wf = true := by
  simp [Lit.wf, IntKind.min, IntKind.max, IntKind.bits, IntKind.signed]; omega
theorem ownsMap_below {w w' : World} {k : TypeId} {R : Value → Option (DataW Unit × List MemPlace)} {b n B : Nat} {D : DataW Unit} (h : w.ownsMap Tryz.prog k R b n D) (hb : Below B w w') (hlt : b < B) : w'.ownsMap Tryz.prog k R b n D := by
  obtain ⟨es, clock, h1, h2⟩ := h
  exact ⟨es, clock, (hb.block b hlt).trans h1, h2⟩
end

section
open Go.RowKit

/-- The f that are an n-th power of a class in L. -/
noncomputable def powP (d : Int) (n : Nat) (L : List Fm) (f : Fm) : Bool := L.any fun g => fmEq f (pw d g n)
theorem powP_next {d : Int} {n k : Nat} {L : List Fm} (h : k < L.length) (f : Fm) : powP d n (L.take (k + 1)) f = (powP d n (L.take k) f || fmEq f (pw d L[k] n)) := by
  unfold powP
  rw [List.take_succ_eq_append_getElem h, List.any_append]
  simp
theorem cls_wf {d : Int} {f : Fm} (h1 : -2000 ≤ d) (hf : f ∈ clsL d) : WfF f := by
  obtain ⟨⟨a1, a2⟩, ⟨b1, b2⟩, ⟨c1, c2⟩⟩ := cls_bd h1 hf
  exact ⟨wf_small (by omega) (by omega), wf_small (by omega) (by omega), wf_small (by omega) (by omega)⟩
theorem cls_pw {d : Int} {f : Fm} (D : Dsc d) (hf : f ∈ clsL d) (n : Nat) : pw d f n ∈ clsL d := D.pwm hf n

theorem apart_new {w : World} {B : Nat} {e : TypeId} {sz n m c : Nat} {vl : Value} {xs : List Value} (h : w.ownsRow B e sz vl n xs) : Apart (.slice (some ⟨w.heap.size, 0, none⟩) m c) vl := by
  unfold Apart
  cases h2 : vl.ownBlock with
  | none => exact .inl rfl
  | some b =>
    refine .inr (fun he => ?_)
    have := (h.lt b h2).2
    simp [Value.ownBlock] at he
    omega
/-- The state of the first loop: the map in block M. -/
def Pc1 (d : Int) (n : Nat) (L : List Fm) (M B : Nat) (vl : Value) (w : World) (vi : Value) (wr : World) : Prop :=
  ∃ (k : Nat) (D : DataW Unit), vi = .int .i64 k ∧ k ≤ L.length ∧ Hid (wr.ownsMap Tryz.prog 36 (plainElem Tryz.prog 4) M k D) ∧ Hid (SetF D (powP d n (L.take k))) ∧
    wr.ownsRow B 36 3 vl L.length (cellsF L) ∧ Below w.heap.size w wr
/-- The state of the second loop. -/
def Pc2 (p : Fm → Bool) (L : List Fm) (M B N0 : Nat) (D : DataW Unit) (vl : Value) (w : World) (v vi : Value) (wr : World) : Prop :=
  ∃ k : Nat, vi = .int .i64 k ∧ k ≤ L.length ∧ wr.ownsRow N0 36 3 v ((L.take k).filter p).length (cellsF ((L.take k).filter p)) ∧ wr.ownsRow B 36 3 vl L.length (cellsF L) ∧ Apart v vl ∧
    Hid (wr.ownsMap Tryz.prog 36 (plainElem Tryz.prog 4) M L.length D) ∧ N0 ≤ wr.heap.size ∧ Below w.heap.size w wr

end
end Go.Proofs.YtblcmkhkbgikoaaGreat
