/- A region that draws its order, in which a block is made beside calls that leave what is there: one walk in the order of the text serves every order. -/
import Derived.Test.YtdhennlanngjgaaCA
namespace Go.Proofs.Ytdhennlanngjgaa
open Go Go.RowKit

section
variable {P : Program} {ops : Array Oper} {md : Region.Mode} {Y : Oper → Value → Act → Prop}

/-- A word on what an operation yields hangs on what the operation looks at alone. -/
structure Yd (ops : Array Oper) (Y : Oper → Value → Act → Prop) : Prop where
  of_put : ∀ {oi oj : Oper} {v u : Value} {a : Act}, oi.apart ops oj = true → (∀ cs b, oj.op ≠ .select cs b) → Y oj u (a.put oi.dst v) → Y oj u a
  put : ∀ {oi oj : Oper} {v u : Value} {a : Act}, oi.apart ops oj = true → (∀ cs b, oi.op ≠ .select cs b) → Y oi v a → Y oi v (a.put oj.dst u)

/-- The walk in the order of the text. -/
def wpY (Y : Oper → Value → Act → Prop) (Q : Act → Prop) : List Oper → Act → Prop
  | [], a => Q a
  | o :: rest, a => ∃ v, Y o v a ∧ wpY Y Q rest (a.put o.dst v)

/-- Whatever order is picked, till the head of n operations is through. -/
def AnyY (md : Region.Mode) (ops : Array Oper) (Y : Oper → Value → Act → Prop) (n : Nat) (L : Array Bool → Act → Prop) : Nat → Array Bool → Act → Prop
  | 0, listed, a => L listed a
  | f + 1, listed, a => Region.ready md ops listed ≠ [] ∧ ∀ i ∈ Region.ready md ops listed, i < n ∧ ∃ o v, ops[i]? = some o ∧ Y o v a ∧ AnyY md ops Y n L f (listed.setIfInBounds i true) (a.put o.dst v)

theorem AnyY_first (hY : Yd ops Y) {n i : Nat} {oi : Oper} {v : Value} {L : Array Bool → Act → Prop} (hi : ops[i]? = some oi) (hsel : ∀ (j : Nat) (o : Oper) cs b, ops[j]? = some o → o.op ≠ .select cs b)
    (hblock : ∀ listed, HeadInv md ops n listed → ∀ i, i < n → listed.getD i true = false → ∀ t, n ≤ t → t ∉ Region.ready md ops listed) (hin : i < n)
    (hdone : ∀ listed a, L listed a → ∀ j ∈ Region.ready md ops listed, n ≤ j) :
    ∀ (f : Nat) (listed : Array Bool) (a : Act), HeadInv md ops n listed →
      (∀ j oj, ops[j]? = some oj → j ≠ i → listed.getD j true = false → (∀ e ∈ oj.after, Region.binds md e = true → e.on ≠ i) → oi.apart ops oj = true) →
      i ∈ Region.ready md ops listed → Y oi v a →
      AnyY md ops Y n L f (listed.setIfInBounds i true) (a.put oi.dst v) → AnyY md ops Y n L (f + 1) listed a := by
  intro f
  induction f with
  | zero =>
    intro listed a inv _ hr hy H
    refine ⟨fun h => (by rw [h] at hr; cases hr), fun j hj => ?_⟩
    have hjn : j < n := Nat.lt_of_not_le fun h => hblock listed inv i hin (mem_ready.1 hr).1 j h hj
    refine ⟨hjn, ?_⟩
    by_cases hji : j = i
    · subst hji; exact ⟨oi, v, hi, hy, H⟩
    · have := hdone _ _ H j (ready_mono hj hji)
      omega
  | succ f ih =>
    intro listed a inv hfree hr hy H
    have hun := (mem_ready.1 hr).1
    refine ⟨fun h => (by rw [h] at hr; cases hr), fun j hj => ?_⟩
    have hjn : j < n := Nat.lt_of_not_le fun h => hblock listed inv i hin hun j h hj
    refine ⟨hjn, ?_⟩
    by_cases hji : j = i
    · subst hji; exact ⟨oi, v, hi, hy, H⟩
    · obtain ⟨_, oj, u, hoj, hcj, hrest⟩ := H.2 j (ready_mono hj hji)
      obtain ⟨hjun, oj', hoj', hall⟩ := mem_ready.1 hj
      obtain rfl : oj' = oj := Option.some.inj (hoj'.symm.trans hoj)
      have hnot : ∀ e ∈ oj'.after, Region.binds md e = true → e.on ≠ i := fun e he hb heq => by
        have h1 := hall e he hb
        rw [heq, getD_both hun] at h1
        cases h1
      have hap := hfree j oj' hoj hji hjun hnot
      obtain ⟨_, h2, _⟩ := Oper.apart_spec hap
      have hfree' : ∀ k ok, ops[k]? = some ok → k ≠ i → (listed.setIfInBounds j true).getD k true = false →
          (∀ e ∈ ok.after, Region.binds md e = true → e.on ≠ i) → oi.apart ops ok = true := fun k ok hk hki hun' hno => by
        refine hfree k ok hk hki ?_ hno
        by_cases hjk : j = k
        · subst hjk; exact hjun
        · rw [getD_set_ne true hjk] at hun'; exact hun'
      refine ⟨oj', u, hoj, hY.of_put hap (fun cs b => hsel j oj' cs b hoj) hcj, ih (listed.setIfInBounds j true) _ (inv.set hj hjn) hfree' (ready_mono hr (Ne.symm hji)) (hY.put hap (fun cs b => hsel i oi cs b hi) hy) ?_⟩
      rw [Array.setIfInBounds_comm _ _ hji, ← Act.put_comm a v u h2]
      exact hrest

theorem AnyY_lex (hY : Yd ops Y) {n g : Nat} {Lq : Act → Prop} (hsel : Region.noSelect ops = true)
    (hblock : ∀ listed, HeadInv md ops n listed → ∀ i, i < n → listed.getD i true = false → ∀ t, n ≤ t → t ∉ Region.ready md ops listed) :
    ∀ (l : List Oper) (k : Nat) (listed : Array Bool) (a : Act), (∀ j, j < l.length → l[j]? = ops[k + j]?) → k + l.length = n → HeadInv md ops n listed →
    Region.lexHead md ops g l.length k listed = true → wpY Y Lq l a →
    AnyY md ops Y n (fun listed' a' => Region.seqB md ops g n listed' = true ∧ Lq a') l.length listed a
  | [], k, listed, a, _, hk, _, hB, h => by
    obtain rfl : k = n := by simpa using hk
    exact ⟨by simpa [Region.lexHead] using hB, h⟩
  | o :: l, k, listed, a, hl, hk, inv, hB, h => by
    have h0 : ops[k]? = some o := by simpa using (hl 0 (by simp)).symm
    simp only [List.length_cons, Region.lexHead, Bool.and_eq_true] at hB
    obtain ⟨⟨hr, hf⟩, hB'⟩ := hB
    have hkn : k < n := by simp only [List.length_cons] at hk; omega
    have hr' : k ∈ Region.ready md ops listed := by simpa using hr
    obtain ⟨v, hy, hK⟩ := h
    exact AnyY_first hY h0 (Region.noSelect_spec hsel) hblock hkn (fun listed' a' hL => seqB_ready hL.1) l.length listed a inv (Region.free_spec h0 hf) hr' hy
      (AnyY_lex hY hsel hblock l (k + 1) _ _ (fun j hj => by have := hl (j + 1) (by simp; omega); simpa [Nat.add_assoc, Nat.add_comm 1 j] using this) (by simp only [List.length_cons] at hk; omega) (inv.set hr' hkn) hB' hK)

/-- What an operation has yielded: the value v and a world in which all that was there is as it was, or a call that does so. -/
def growUpon (P : Program) (v : Value) (w : World) : Result Next → Prop
  | .ok (.value u) w' => u = v ∧ Below w.heap.size w w'
  | .ok .skip w' => v = undef ∧ Below w.heap.size w w'
  | .ok (.enter f args) w' => Calls P f args w' (fun e w'' => e = .returned v ∧ Below w.heap.size w w'')
  | _ => False
def Grow (P : Program) (ops : Array Oper) (B : Nat) (W : World) (o : Oper) (v : Value) (a : Act) : Prop :=
  (Region.wanted o (yielded ops a.tmps) = true ∧ ∀ w, Below B W w → growUpon P v w ((execOp a.eval o).run P w)) ∨
  (Region.wanted o (yielded ops a.tmps) = false ∧ v = undef)
theorem Grow.of_put {B : Nat} {W : World} {oi oj : Oper} {v u : Value} {a : Act} (hap : oi.apart ops oj = true) (hsj : ∀ cs b, oj.op ≠ .select cs b) (h : Grow P ops B W oj u (a.put oi.dst v)) : Grow P ops B W oj u a := by
  obtain ⟨h1, _, _⟩ := Oper.apart_spec hap
  unfold Grow at h ⊢
  rw [wanted_put oj a oi.dst v h1, execOp_put oj hsj a oi.dst v h1] at h
  exact h
theorem Grow.to_put {B : Nat} {W : World} {oi oj : Oper} {v u : Value} {a : Act} (hap : oi.apart ops oj = true) (hsj : ∀ cs b, oj.op ≠ .select cs b) (h : Grow P ops B W oj u a) : Grow P ops B W oj u (a.put oi.dst v) := by
  obtain ⟨h1, _, _⟩ := Oper.apart_spec hap
  unfold Grow at h ⊢
  rw [wanted_put oj a oi.dst v h1, execOp_put oj hsj a oi.dst v h1]
  exact h
theorem Grow.put {B : Nat} {W : World} {oi oj : Oper} {v u : Value} {a : Act} (hap : oi.apart ops oj = true) (hsi : ∀ cs b, oi.op ≠ .select cs b) (h : Grow P ops B W oi v a) : Grow P ops B W oi v (a.put oj.dst u) := by
  obtain ⟨_, _, h3⟩ := Oper.apart_spec hap
  unfold Grow at h ⊢
  rw [wanted_put oi a oj.dst u h3, execOp_put oi hsi a oj.dst u h3]
  exact h
/-- Each operation but the one that makes the block is told by 'Grow'; the block's address is left open. -/
def YA (P : Program) (ops : Array Oper) (B : Nat) (W : World) (oj : Oper) (o : Oper) (v : Value) (a : Act) : Prop := (o.dst ≠ oj.dst ∧ Grow P ops B W o v a) ∨ (o = oj ∧ v = undef)
theorem yd_YA {B : Nat} {W : World} {oj : Oper} : Yd ops (YA P ops B W oj) where
  of_put := fun hap hs h => by
    rcases h with ⟨h1, h2⟩ | h
    · exact .inl ⟨h1, h2.of_put hap hs⟩
    · exact .inr h
  put := fun hap hs h => by
    rcases h with ⟨h1, h2⟩ | h
    · exact .inl ⟨h1, h2.put hap hs⟩
    · exact .inr h
theorem wpOp_of_grow {i : Nat} {o : Oper} {v : Value} {a : Act} {w W : World} {B : Nat} (hi : ops[i]? = some o) (hy : Grow P ops B W o v a) (hw : Below B W w) {K : Act → World → Prop} {Q : Exit → Act → World → Prop}
    (h : ∀ w', Below w.heap.size w w' → K (a.put o.dst v) w') : wpOp P ops Q i K a w := by
  unfold wpOp
  simp only [hi]
  rcases hy with ⟨hn, hv⟩ | ⟨hn, rfl⟩
  · simp only [hn, if_true]
    refine .inl ?_
    have h1 := hv w hw
    unfold Oper.wp
    generalize (execOp a.eval o).run P w = r at *
    cases r with
    | ok n w' =>
      cases n <;> simp only [growUpon] at h1 <;> simp only [Oper.upon]
      case value u => obtain ⟨rfl, hc⟩ := h1; exact h _ hc
      case skip => obtain ⟨rfl, hc⟩ := h1; exact h _ hc
      case enter f args => exact h1.mono fun e w'' ⟨he, hc⟩ => by subst he; exact h _ hc
    | halt x w' => simp only [growUpon] at h1
  · simp only [hn, Bool.false_eq_true, if_false]; exact h w (Below.refl _ _)
/-- The block's address. -/
abbrev ptrV (p : Nat) : Value := .pointer (some ⟨p, 0, none⟩)
/-- What the operation that makes the block does. -/
def MakesA (P : Program) (ops : Array Oper) (oj : Oper) (obj : Obj) : Prop :=
  ∀ (a : Act) (w : World), Region.wanted oj (yielded ops a.tmps) = true ∧ (execOp a.eval oj).run P w = .ok (.value (ptrV w.heap.size)) (w.alloc obj)
/-- The frame that really stands, beside the one of the walk. -/
def IsA (B : Nat) (W : World) (obj : Obj) (d : Tmp) (a ar : Act) (w : World) (done : Bool) : Prop :=
  Below B W w ∧ ((done = true ∧ ∃ p, B ≤ p ∧ p < w.heap.size ∧ w.heap[p]? = some obj ∧ ar = a.put (some d) (ptrV p)) ∨ (done = false ∧ ar = a))
theorem put_put (a : Act) (d : Tmp) (v u : Value) : (a.put (some d) v).put (some d) u = a.put (some d) u := by
  simp [Act.put]
theorem wpAny_of_AnyY {n g j : Nat} {d : Tmp} {oj : Oper} {obj : Obj} {B : Nat} {W : World} {L : Array Bool → Act → Prop} {Q : Exit → Act → World → Prop} (hj : ops[j]? = some oj) (hd : oj.dst = some d) (hB : B ≤ W.heap.size) (hal : MakesA P ops oj obj)
    (hap : ∀ i o, i < n → i ≠ j → ops[i]? = some o → oj.apart ops o = true) (hsel : ∀ (j : Nat) (o : Oper) cs b, ops[j]? = some o → o.op ≠ .select cs b)
    (hLj : ∀ listed a, L listed a → listed.getD j true = true) (hL : ∀ listed a ar w, IsA B W obj d a ar w true → L listed a → wpAny P md ops Q g listed ar w) :
    ∀ (f : Nat) (listed : Array Bool) (a ar : Act) (w : World), IsA B W obj d a ar w (listed.getD j true) → AnyY md ops (YA P ops B W oj) n L f listed a → wpAny P md ops Q (f + g) listed ar w
  | 0, listed, a, ar, w, hI, h => by
    rw [Nat.zero_add]
    rw [hLj _ _ h] at hI
    exact hL _ _ _ _ hI h
  | f + 1, listed, a, ar, w, hI, h => by
    rw [show f + 1 + g = (f + g) + 1 by omega]
    refine ⟨fun h0 => absurd h0 h.1, fun i hi => ?_⟩
    obtain ⟨hin, o, v, ho, hy, hr⟩ := h.2 i hi
    have hun := (mem_ready.1 hi).1
    by_cases hij : i = j
    · subst hij
      obtain rfl : o = oj := Option.some.inj (ho.symm.trans hj)
      rw [hun] at hI
      obtain ⟨hb, hI⟩ := hI
      rcases hI with ⟨h1, _⟩ | ⟨_, rfl⟩
      · cases h1
      rcases hy with ⟨h1, _⟩ | ⟨_, rfl⟩
      · exact absurd rfl h1
      obtain ⟨hw1, hw2⟩ := hal ar w
      unfold wpOp
      simp only [ho, hw1, if_true]
      refine .inl ?_
      unfold Oper.wp
      rw [hw2]
      simp only [Oper.upon]
      have hlt : i < listed.size := by
        apply Nat.lt_of_not_le; intro hge
        rw [show listed.getD i true = true by simp [Array.getD, Nat.not_lt.2 hge]] at hun
        cases hun
      refine wpAny_of_AnyY hj hd hB hal hap hsel hLj hL f _ (ar.put o.dst undef) _ _ ?_ hr
      refine ⟨hb.alloc (Nat.le_trans hB hb.size) obj, .inl ⟨by simp [Array.getD, hlt], w.heap.size, Nat.le_trans hB hb.size, by simp, heap_alloc_new w obj, ?_⟩⟩
      rw [hd, put_put]
    · have hap1 := hap i o hin hij ho
      obtain ⟨_, h2, _⟩ := Oper.apart_spec hap1
      have hg : Grow P ops B W o v a := by
        rcases hy with ⟨_, h1⟩ | ⟨rfl, _⟩
        · exact h1
        · exact absurd hd (h2 d hd)
      have hgd : (listed.setIfInBounds i true).getD j true = listed.getD j true := getD_set_ne true hij
      obtain ⟨hb, hI⟩ := hI
      rcases hI with ⟨h1, p, p1, p2, p3, rfl⟩ | ⟨h1, rfl⟩
      · have hg2 : Grow P ops B W o v (a.put (some d) (ptrV p)) := by
          rw [← hd]; exact hg.to_put hap1 (fun cs b => hsel i o cs b ho)
        refine wpOp_of_grow ho hg2 hb fun w' hw' => wpAny_of_AnyY hj hd hB hal hap hsel hLj hL f _ (a.put o.dst v) _ w' ?_ hr
        refine ⟨below_via hb hw' (Nat.le_trans hB hb.size), .inl ⟨by rw [hgd]; exact h1, p, p1, Nat.lt_of_lt_of_le p2 hw'.size, (hw'.block p p2).trans p3, ?_⟩⟩
        exact (Act.put_comm a (ptrV p) v (fun d' hd' => by cases hd'; exact h2 d hd))
      · refine wpOp_of_grow ho hg hb fun w' hw' => wpAny_of_AnyY hj hd hB hal hap hsel hLj hL f _ (ar.put o.dst v) _ w' ?_ hr
        exact ⟨below_via hb hw' (Nat.le_trans hB hb.size), .inr ⟨by rw [hgd]; exact h1, rfl⟩⟩

/-- The check on a region: its head stands in the order of the text, the operation j makes a block and is apart from the others of the head. -/
def calmAB (ops : Array Oper) (n j : Nat) : Bool :=
  calmB ops n && decide (j < n) && (match ops[j]? with | some oj => oj.after.isEmpty && (List.range n).all fun i => i == j || (match ops[i]? with | some o => oj.apart ops o | _ => false) | _ => false)

theorem wp_region_calmA {id : Nat} {Q : Exit → Act → World → Prop} {a : Act} {w W : World} {l : List Oper} (n j : Nat) (d : Tmp) (obj : Obj) (B : Nat) {oj : Oper} (hm : P.follows .mixedOrders = true) (hB : calmAB l.toArray n j = true) (hj : l[j]? = some oj) (hd : oj.dst = some d)
    (hal : MakesA P l.toArray oj obj) (hBW : B ≤ W.heap.size) (hC : Below B W w.drew)
    (h : wpY (YA P l.toArray B W oj) (fun a' => ∀ p w', B ≤ p → p < w'.heap.size → w'.heap[p]? = some obj → Below B W w' → wpList P l.toArray Q (l.drop n) (a'.put (some d) (ptrV p)) w') (l.take n) a) : (Code.region id l.toArray true).wp P Q a w := by
  simp only [calmAB, Bool.and_eq_true, decide_eq_true_eq] at hB
  obtain ⟨⟨hB, hjn⟩, hapB⟩ := hB
  have hj' : l.toArray[j]? = some oj := by simpa using hj
  rw [hj'] at hapB
  simp only [Bool.and_eq_true, List.all_eq_true, List.mem_range] at hapB
  obtain ⟨hemp, hapB⟩ := hapB
  have hap : ∀ i o, i < n → i ≠ j → l.toArray[i]? = some o → oj.apart l.toArray o = true := fun i o hi hij ho => by
    have := hapB i hi
    rw [ho] at this
    simp only [Bool.or_eq_true, beq_iff_eq] at this
    rcases this with h1 | h1
    · exact absurd h1 hij
    · exact h1
  simp only [calmB, Bool.and_eq_true, Bool.or_eq_true, decide_eq_true_eq] at hB
  obtain ⟨⟨hsel, hcase⟩, hlex⟩ := hB
  have hn' : n ≤ l.length := by
    rcases hcase with h | ⟨⟨h, _⟩, _⟩
    · simp at h; omega
    · simp at h; omega
  have hblock : ∀ listed, HeadInv .any l.toArray n listed → ∀ i, i < n → listed.getD i true = false → ∀ t, n ≤ t → t ∉ Region.ready .any l.toArray listed := by
    intro listed inv i hi hun t ht htr
    rcases hcase with h | ⟨⟨h1, h2⟩, h3⟩
    · obtain ⟨_, ot, hot, _⟩ := mem_ready.1 htr
      have := (Array.getElem?_eq_some_iff.1 hot).1
      omega
    · exact tail_waits h2 h3 h1 inv _ i rfl hi hun t ht htr
  have htl : (l.take n).length = n := by simp; omega
  have hdl : (l.drop n).length = l.toArray.size - n := by simp
  have inv0 : HeadInv .any l.toArray n (Array.replicate l.toArray.size false) :=
    ⟨by simp, fun j oj _ hl => (by rw [getD_replicate_false] at hl; cases hl), fun t _ ht => getD_in (by simpa using ht) (getD_replicate_false _ _)⟩
  have H := AnyY_lex (md := .any) (g := l.toArray.size - n) yd_YA hsel hblock (l.take n) 0 _ a (fun j hj => by
    have hj' : j < n := by rw [htl] at hj; exact hj
    simp [hj']) (by simpa using htl) inv0 (by rw [htl]; exact hlex) h
  refine wp_region_any hm ?_
  have hLj : ∀ (listed : Array Bool) (a' : Act), (Region.seqB .any l.toArray (l.toArray.size - n) n listed = true ∧ (∀ p w', B ≤ p → p < w'.heap.size → w'.heap[p]? = some obj → Below B W w' → wpList P l.toArray Q (l.drop n) (a'.put (some d) (ptrV p)) w')) → listed.getD j true = true := by
    intro listed a' hL
    cases hl : listed.getD j true with
    | true => rfl
    | false =>
      have hr : j ∈ Region.ready .any l.toArray listed := mem_ready.2 ⟨hl, oj, hj', fun e he => by
        rw [Array.isEmpty_iff.1 hemp] at he
        simp at he⟩
      have := seqB_ready hL.1 j hr
      omega
  have := wpAny_of_AnyY (md := .any) (Q := Q) (g := l.toArray.size - n) (W := W) hj' hd hBW hal hap (Region.noSelect_spec hsel) hLj (fun listed a' ar w' hI hL => by
    obtain ⟨hb, hI⟩ := hI
    rcases hI with ⟨_, p, p1, p2, p3, rfl⟩ | ⟨h0, _⟩
    · have := wpAny_of_seq (md := .any) (Q' := Q) (l.drop n) n listed _ w' (fun j => by simp [List.getElem?_drop]) (by rw [hdl]; exact hL.1) (hL.2 p w' p1 p2 p3 hb)
      rwa [hdl] at this
    · cases h0) _ _ a a _ ⟨hC, .inr ⟨getD_in (by simp at hjn hn' ⊢; omega) (getD_replicate_false _ _), rfl⟩⟩ H
  rw [htl, show n + (l.toArray.size - n) = l.toArray.size by simp; omega] at this
  exact this
/-- One operation of the walk. -/
theorem wpA_go {B : Nat} {W : World} {Q : Act → Prop} {a : Act} {o oj : Oper} {rest : List Oper} {v : Value} (hd : o.dst ≠ oj.dst) (hw : Region.wanted o (yielded ops a.tmps) = true)
    (hv : ∀ w, Below B W w → (∀ b o, b < B → w.cell? ⟨b, o, none⟩ = W.cell? ⟨b, o, none⟩) → (∀ b o, b < B → w.frozen? ⟨b, o, none⟩ = W.frozen? ⟨b, o, none⟩) → growUpon P v w ((execOp a.eval o).run P w))
    (h : ∀ K : Act → Prop, (∀ a, wpY (YA P ops B W oj) Q rest a → K a) → K (a.put o.dst v)) : wpY (YA P ops B W oj) Q (o :: rest) a :=
  ⟨v, .inl ⟨hd, .inl ⟨hw, fun w hb => hv w hb (calm_cells hb).1 (calm_cells hb).2⟩⟩, h _ fun _ h => h⟩
theorem wpA_skip {B : Nat} {W : World} {Q : Act → Prop} {a : Act} {o oj : Oper} {rest : List Oper} (hd : o.dst ≠ oj.dst) (hw : Region.wanted o (yielded ops a.tmps) = false)
    (h : ∀ K : Act → Prop, (∀ a, wpY (YA P ops B W oj) Q rest a → K a) → K (a.put o.dst undef)) : wpY (YA P ops B W oj) Q (o :: rest) a :=
  ⟨undef, .inl ⟨hd, .inr ⟨hw, rfl⟩⟩, h _ fun _ h => h⟩
/-- The operation that makes the block. -/
theorem wpA_made {B : Nat} {W : World} {Q : Act → Prop} {a : Act} {oj : Oper} {rest : List Oper}
    (h : ∀ K : Act → Prop, (∀ a, wpY (YA P ops B W oj) Q rest a → K a) → K (a.put oj.dst undef)) : wpY (YA P ops B W oj) Q (oj :: rest) a :=
  ⟨undef, .inr ⟨rfl, rfl⟩, h _ fun _ h => h⟩
theorem wpY_nil {Q : Act → Prop} {a : Act} (h : Q a) : wpY Y Q [] a := h
attribute [go_sem] growUpon
end
end Go.Proofs.Ytdhennlanngjgaa
