/- A region that draws its order, whose operations each yield one and the same value in every world of a class, and leave a world of the class: one walk in the order of the text serves every order; a last part whose order is forced may follow. -/
import Derived.StillTail
import Derived.Deep.Quiet
import Derived.Tactics
import Derived.Tactics2
import Derived.KernelRfl
import Derived.Below
namespace Go.Proofs.Ytifkmjmhhklkjaa
open Go Go.RowKit

section
variable {P : Program} {ops : Array Oper} {md : Region.Mode} {C : World → Prop}

/-- What an operation has yielded: the value v and a world of the class, or a call that hands back v and leaves such a world. -/
def calmUpon (P : Program) (C : World → Prop) (v : Value) : Result Next → Prop
  | .ok (.value u) w => u = v ∧ C w
  | .ok .skip w => v = undef ∧ C w
  | .ok (.enter f args) w => Calls P f args w (fun e w' => e = .returned v ∧ C w')
  | _ => False

def Calm (P : Program) (ops : Array Oper) (C : World → Prop) (o : Oper) (v : Value) (a : Act) : Prop :=
  (Region.wanted o (yielded ops a.tmps) = true ∧ ∀ w, C w → calmUpon P C v ((execOp a.eval o).run P w)) ∨
  (Region.wanted o (yielded ops a.tmps) = false ∧ v = undef)

/-- The walk in the order of the text. -/
def wpCalm (P : Program) (ops : Array Oper) (C : World → Prop) (Q : Act → Prop) : List Oper → Act → Prop
  | [], a => Q a
  | o :: rest, a => ∃ v, Calm P ops C o v a ∧ wpCalm P ops C Q rest (a.put o.dst v)

theorem wpCalm_nil {Q : Act → Prop} {a : Act} (h : Q a) : wpCalm P ops C Q [] a := h
theorem wpCalm_on {Q : Act → Prop} {a : Act} {o : Oper} {rest : List Oper} (v : Value) (hw : Region.wanted o (yielded ops a.tmps) = true) (hv : ∀ w, C w → calmUpon P C v ((execOp a.eval o).run P w))
    (h : wpCalm P ops C Q rest (a.put o.dst v)) : wpCalm P ops C Q (o :: rest) a := ⟨v, .inl ⟨hw, hv⟩, h⟩
theorem wpCalm_off {Q : Act → Prop} {a : Act} {o : Oper} {rest : List Oper} (hw : Region.wanted o (yielded ops a.tmps) = false)
    (h : wpCalm P ops C Q rest (a.put o.dst undef)) : wpCalm P ops C Q (o :: rest) a := ⟨undef, .inr ⟨hw, rfl⟩, h⟩

theorem Calm.of_put {oi oj : Oper} {v u : Value} {a : Act} (hap : oi.apart ops oj = true) (hsj : ∀ cs b, oj.op ≠ .select cs b) (h : Calm P ops C oj u (a.put oi.dst v)) : Calm P ops C oj u a := by
  obtain ⟨h1, _, _⟩ := Oper.apart_spec hap
  unfold Calm at h ⊢
  rw [wanted_put oj a oi.dst v h1, execOp_put oj hsj a oi.dst v h1] at h
  exact h
theorem Calm.put {oi oj : Oper} {v u : Value} {a : Act} (hap : oi.apart ops oj = true) (hsi : ∀ cs b, oi.op ≠ .select cs b) (h : Calm P ops C oi v a) : Calm P ops C oi v (a.put oj.dst u) := by
  obtain ⟨_, _, h3⟩ := Oper.apart_spec hap
  unfold Calm at h ⊢
  rw [wanted_put oi a oj.dst u h3, execOp_put oi hsi a oj.dst u h3]
  exact h

/-- Whatever order is picked, till the head of n operations is through. -/
def AnyC (P : Program) (md : Region.Mode) (ops : Array Oper) (C : World → Prop) (n : Nat) (L : Array Bool → Act → Prop) : Nat → Array Bool → Act → Prop
  | 0, listed, a => L listed a
  | f + 1, listed, a => Region.ready md ops listed ≠ [] ∧ ∀ i ∈ Region.ready md ops listed, i < n ∧ ∃ o v, ops[i]? = some o ∧ Calm P ops C o v a ∧ AnyC P md ops C n L f (listed.setIfInBounds i true) (a.put o.dst v)

theorem wpOp_of_calm {i : Nat} {o : Oper} {v : Value} {a : Act} {w : World} (hi : ops[i]? = some o) (hy : Calm P ops C o v a) (hw : C w) {K : Act → World → Prop} {Q : Exit → Act → World → Prop}
    (h : ∀ w', C w' → K (a.put o.dst v) w') : wpOp P ops Q i K a w := by
  unfold wpOp
  simp only [hi]
  rcases hy with ⟨hn, hv⟩ | ⟨hn, rfl⟩
  · simp only [hn, if_true]
    refine .inl ?_
    have h1 := hv w hw
    unfold Oper.wp
    generalize (execOp a.eval o).run P w = r at *
    cases r with
    | ok n w' =>
      cases n <;> simp only [calmUpon] at h1 <;> simp only [Oper.upon]
      case value u => obtain ⟨rfl, hc⟩ := h1; exact h _ hc
      case skip => obtain ⟨rfl, hc⟩ := h1; exact h _ hc
      case enter f args => exact h1.mono fun e w'' ⟨he, hc⟩ => by subst he; exact h _ hc
    | halt x w' => simp only [calmUpon] at h1
  · simp only [hn, Bool.false_eq_true, if_false]; exact h w hw

theorem wpAny_of_AnyC {n g : Nat} {L : Array Bool → Act → Prop} {Q : Exit → Act → World → Prop} (hL : ∀ listed a w, C w → L listed a → wpAny P md ops Q g listed a w) :
    ∀ (f : Nat) (listed : Array Bool) (a : Act) (w : World), C w → AnyC P md ops C n L f listed a → wpAny P md ops Q (f + g) listed a w
  | 0, listed, a, w, hw, h => by rw [Nat.zero_add]; exact hL _ _ _ hw h
  | f + 1, listed, a, w, hw, h => by
    rw [show f + 1 + g = (f + g) + 1 by omega]
    refine ⟨fun h0 => absurd h0 h.1, fun i hi => ?_⟩
    obtain ⟨_, o, v, ho, hc, hr⟩ := h.2 i hi
    exact wpOp_of_calm ho hc hw fun w' hw' => wpAny_of_AnyC hL f _ _ w' hw' hr

/-- An operation that may come up now may be taken first. -/
theorem AnyC_first {n i : Nat} {oi : Oper} {v : Value} {L : Array Bool → Act → Prop} (hi : ops[i]? = some oi) (hsel : ∀ (j : Nat) (o : Oper) cs b, ops[j]? = some o → o.op ≠ .select cs b)
    (hblock : ∀ listed, HeadInv md ops n listed → ∀ i, i < n → listed.getD i true = false → ∀ t, n ≤ t → t ∉ Region.ready md ops listed) (hin : i < n)
    (hdone : ∀ listed a, L listed a → ∀ j ∈ Region.ready md ops listed, n ≤ j) :
    ∀ (f : Nat) (listed : Array Bool) (a : Act), HeadInv md ops n listed →
      (∀ j oj, ops[j]? = some oj → j ≠ i → listed.getD j true = false → (∀ e ∈ oj.after, Region.binds md e = true → e.on ≠ i) → oi.apart ops oj = true) →
      i ∈ Region.ready md ops listed → Calm P ops C oi v a →
      AnyC P md ops C n L f (listed.setIfInBounds i true) (a.put oi.dst v) → AnyC P md ops C n L (f + 1) listed a := by
  intro f
  induction f with
  | zero =>
    intro listed a inv _ hr hy H
    refine ⟨fun h => (by rw [h] at hr; cases hr), fun j hj => ?_⟩
    have hjn : j < n := Nat.lt_of_not_le fun h => hblock listed inv i hin (mem_ready.1 hr).1 j h hj
    refine ⟨hjn, ?_⟩
    by_cases hji : j = i
    · subst hji; exact ⟨oi, v, hi, hy, H⟩
    · have := hdone _ _ H j (ready_mono hj hji)
      omega
  | succ f ih =>
    intro listed a inv hfree hr hy H
    have hun := (mem_ready.1 hr).1
    refine ⟨fun h => (by rw [h] at hr; cases hr), fun j hj => ?_⟩
    have hjn : j < n := Nat.lt_of_not_le fun h => hblock listed inv i hin hun j h hj
    refine ⟨hjn, ?_⟩
    by_cases hji : j = i
    · subst hji; exact ⟨oi, v, hi, hy, H⟩
    · obtain ⟨_, oj, u, hoj, hcj, hrest⟩ := H.2 j (ready_mono hj hji)
      obtain ⟨hjun, oj', hoj', hall⟩ := mem_ready.1 hj
      obtain rfl : oj' = oj := Option.some.inj (hoj'.symm.trans hoj)
      have hnot : ∀ e ∈ oj'.after, Region.binds md e = true → e.on ≠ i := fun e he hb heq => by
        have h1 := hall e he hb
        rw [heq, getD_both hun] at h1
        cases h1
      have hap := hfree j oj' hoj hji hjun hnot
      obtain ⟨_, h2, _⟩ := Oper.apart_spec hap
      have hfree' : ∀ k ok, ops[k]? = some ok → k ≠ i → (listed.setIfInBounds j true).getD k true = false →
          (∀ e ∈ ok.after, Region.binds md e = true → e.on ≠ i) → oi.apart ops ok = true := fun k ok hk hki hun' hno => by
        refine hfree k ok hk hki ?_ hno
        by_cases hjk : j = k
        · subst hjk; exact hjun
        · rw [getD_set_ne true hjk] at hun'; exact hun'
      refine ⟨oj', u, hoj, hcj.of_put hap (fun cs b => hsel j oj' cs b hoj), ih (listed.setIfInBounds j true) _ (inv.set hj hjn) hfree' (ready_mono hr (Ne.symm hji)) (hy.put hap (fun cs b => hsel i oi cs b hi)) ?_⟩
      rw [Array.setIfInBounds_comm _ _ hji, ← Act.put_comm a v u h2]
      exact hrest

theorem AnyC_lex {n g : Nat} {Lq : Act → Prop} (hsel : Region.noSelect ops = true)
    (hblock : ∀ listed, HeadInv md ops n listed → ∀ i, i < n → listed.getD i true = false → ∀ t, n ≤ t → t ∉ Region.ready md ops listed) :
    ∀ (l : List Oper) (k : Nat) (listed : Array Bool) (a : Act), (∀ j, j < l.length → l[j]? = ops[k + j]?) → k + l.length = n → HeadInv md ops n listed →
    Region.lexHead md ops g l.length k listed = true → wpCalm P ops C Lq l a →
    AnyC P md ops C n (fun listed' a' => Region.seqB md ops g n listed' = true ∧ Lq a') l.length listed a
  | [], k, listed, a, _, hk, _, hB, h => by
    obtain rfl : k = n := by simpa using hk
    exact ⟨by simpa [Region.lexHead] using hB, h⟩
  | o :: l, k, listed, a, hl, hk, inv, hB, h => by
    have h0 : ops[k]? = some o := by simpa using (hl 0 (by simp)).symm
    simp only [List.length_cons, Region.lexHead, Bool.and_eq_true] at hB
    obtain ⟨⟨hr, hf⟩, hB'⟩ := hB
    have hkn : k < n := by simp only [List.length_cons] at hk; omega
    have hr' : k ∈ Region.ready md ops listed := by simpa using hr
    obtain ⟨v, hy, hK⟩ := h
    exact AnyC_first h0 (Region.noSelect_spec hsel) hblock hkn (fun listed' a' hL => seqB_ready hL.1) l.length listed a inv (Region.free_spec h0 hf) hr' hy
      (AnyC_lex hsel hblock l (k + 1) _ _ (fun j hj => by have := hl (j + 1) (by simp; omega); simpa [Nat.add_assoc, Nat.add_comm 1 j] using this) (by simp only [List.length_cons] at hk; omega) (inv.set hr' hkn) hB' hK)

/-- The check on a region: its first n operations in the order of the text, then a tail in a forced order. -/
def calmB (ops : Array Oper) (n : Nat) : Bool :=
  Region.noSelect ops && (decide (n = ops.size) || (decide (n < ops.size) && Region.sinkB .any ops n && Region.chainB .any ops n)) && Region.lexHead .any ops (ops.size - n) n 0 (Array.replicate ops.size false)

/-- One walk of the text's order serves every order. -/
theorem wp_region_calm {id : Nat} {Q : Exit → Act → World → Prop} {a : Act} {w : World} {l : List Oper} (n : Nat) (C : World → Prop) (hm : P.follows .mixedOrders = true) (hB : calmB l.toArray n = true) (hC : C w.drew)
    (h : wpCalm P l.toArray C (fun a' => ∀ w', C w' → wpList P l.toArray Q (l.drop n) a' w') (l.take n) a) : (Code.region id l.toArray true).wp P Q a w := by
  simp only [calmB, Bool.and_eq_true, Bool.or_eq_true, decide_eq_true_eq] at hB
  obtain ⟨⟨hsel, hcase⟩, hlex⟩ := hB
  have hn' : n ≤ l.length := by
    rcases hcase with h | ⟨⟨h, _⟩, _⟩
    · simp at h; omega
    · simp at h; omega
  have hblock : ∀ listed, HeadInv .any l.toArray n listed → ∀ i, i < n → listed.getD i true = false → ∀ t, n ≤ t → t ∉ Region.ready .any l.toArray listed := by
    intro listed inv i hi hun t ht htr
    rcases hcase with h | ⟨⟨h1, h2⟩, h3⟩
    · obtain ⟨_, ot, hot, _⟩ := mem_ready.1 htr
      have := (Array.getElem?_eq_some_iff.1 hot).1
      omega
    · exact tail_waits h2 h3 h1 inv _ i rfl hi hun t ht htr
  have htl : (l.take n).length = n := by simp; omega
  have hdl : (l.drop n).length = l.toArray.size - n := by simp
  have inv0 : HeadInv .any l.toArray n (Array.replicate l.toArray.size false) :=
    ⟨by simp, fun j oj _ hl => (by rw [getD_replicate_false] at hl; cases hl), fun t _ ht => getD_in (by simpa using ht) (getD_replicate_false _ _)⟩
  have H := AnyC_lex (md := .any) (g := l.toArray.size - n) hsel hblock (l.take n) 0 _ a (fun j hj => by
    have hj' : j < n := by rw [htl] at hj; exact hj
    simp [hj']) (by simpa using htl) inv0 (by rw [htl]; exact hlex) h
  refine wp_region_any hm ?_
  have := wpAny_of_AnyC (Q := Q) (g := l.toArray.size - n) (fun listed a' w' hw' hL => by
    have := wpAny_of_seq (md := .any) (Q' := Q) (l.drop n) n listed a' w' (fun j => by simp [List.getElem?_drop]) (by rw [hdl]; exact hL.1) (hL.2 w' hw')
    rwa [hdl] at this) _ _ _ _ hC H
  rw [htl, show n + (l.toArray.size - n) = l.toArray.size by omega] at this
  exact this

/-- A fact on every world of the class. -/
def Each (C : World → Prop) (p : World → Prop) : Prop := ∀ w, C w → p w
/-- One operation of the walk. -/
theorem wpCalm_step {Q : Act → Prop} {a : Act} {o : Oper} {rest : List Oper}
    (h : ∀ K : Act → Prop, (∀ a, wpCalm P ops C Q rest a → K a) → if Region.wanted o (yielded ops a.tmps) = true then ∃ v, Each C (fun w => calmUpon P C v ((execOp a.eval o).run P w)) ∧ K (a.put o.dst v) else K (a.put o.dst undef)) :
    wpCalm P ops C Q (o :: rest) a := by
  have h1 := h _ (fun _ h => h)
  by_cases hw : Region.wanted o (yielded ops a.tmps) = true
  · rw [if_pos hw] at h1
    obtain ⟨v, hv, hk⟩ := h1
    exact wpCalm_on v hw hv hk
  · rw [if_neg hw] at h1
    exact wpCalm_off (by simpa using hw) h1
attribute [go_sem] calmUpon

/-- The usual class: what was there when the region began is as it was. -/
theorem calm_cells {B : Nat} {W w : World} (h : Below B W w) : (∀ b o, b < B → w.cell? ⟨b, o, none⟩ = W.cell? ⟨b, o, none⟩) ∧ (∀ b o, b < B → w.frozen? ⟨b, o, none⟩ = W.frozen? ⟨b, o, none⟩) :=
  ⟨fun b o hb => h.cell (p := ⟨b, o, none⟩) hb, fun b o hb => h.frozen (p := ⟨b, o, none⟩) hb⟩
theorem calm_size {B : Nat} {W w : World} (h : Below B W w) : ∀ k, k < W.heap.size → k < w.heap.size := fun _ hk => Nat.lt_of_lt_of_le hk h.size
/-- One operation of the walk, over the usual class. -/
theorem wpCalm_go {B : Nat} {W : World} {Q : Act → Prop} {a : Act} {o : Oper} {rest : List Oper} {v : Value} (hw : Region.wanted o (yielded ops a.tmps) = true)
    (hv : ∀ w, Below B W w → (∀ b o, b < B → w.cell? ⟨b, o, none⟩ = W.cell? ⟨b, o, none⟩) → (∀ b o, b < B → w.frozen? ⟨b, o, none⟩ = W.frozen? ⟨b, o, none⟩) → calmUpon P (Below B W) v ((execOp a.eval o).run P w))
    (h : ∀ K : Act → Prop, (∀ a, wpCalm P ops (Below B W) Q rest a → K a) → K (a.put o.dst v)) : wpCalm P ops (Below B W) Q (o :: rest) a :=
  wpCalm_on v hw (fun w hb => hv w hb (calm_cells hb).1 (calm_cells hb).2) (h _ fun _ h => h)
theorem wpCalm_skip {Q : Act → Prop} {a : Act} {o : Oper} {rest : List Oper} (hw : Region.wanted o (yielded ops a.tmps) = false)
    (h : ∀ K : Act → Prop, (∀ a, wpCalm P ops C Q rest a → K a) → K (a.put o.dst undef)) : wpCalm P ops C Q (o :: rest) a :=
  wpCalm_off hw (h _ fun _ h => h)
/-- The class is kept behind a call. -/
theorem calm_call {B : Nat} {W w w1 : World} (hB : B ≤ W.heap.size) (h : Below B W w) (hb : Below w.heap.size w w1) : Below B W w1 := h.trans (hb.mono (Nat.le_trans hB h.size))
theorem calm_call_same {B : Nat} {W w w1 : World} (h : Below B W w) (hb : w = w1) : Below B W w1 := hb ▸ h
theorem below_via {B B' : Nat} {a b c : World} (h : Below B a b) (k : Below B' b c) (hB : B ≤ B') : Below B a c := h.trans (k.mono hB)
theorem below_viap {B B' : Nat} {a b c : World} (k : Below B' b c) (hB : B ≤ B') (h : Below B a b) : Below B a c := h.trans (k.mono hB)
theorem below_allocp {B : Nat} {a w : World} {o : Obj} (hB : B ≤ w.heap.size) (h : Below B a w) : Below B a (w.alloc o) := h.alloc hB o
theorem below_setp {B : Nat} {a w : World} {p : Addr} {u : Value} (hp : B ≤ p.block) (h : Below B a w) : Below B a (w.setCell p u) := h.setCell hp u
theorem below_drewN {B : Nat} {a w : World} (h : Below B a w) (n : Nat) : Below B a (w.drewN n) := ⟨h.os, h.tape, h.output, h.size, h.block⟩
theorem calm_call_draws {B : Nat} {W w w1 : World} (h : Below B W w) (hb : ∃ n, w1 = w.drewN n) : Below B W w1 := by
  obtain ⟨n, rfl⟩ := hb
  exact below_drewN h n
end
end Go.Proofs.Ytifkmjmhhklkjaa
