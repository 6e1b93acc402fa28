/- Plain facts and the relations of the program's logarithms: a power by its place in the list of powers; the odometer of exponents. -/
import Derived.Test.YtkkamlhpappebaaBF
import Derived.Test.YtkkamlhpappebaaBB
namespace Go.Proofs.Ytkkamlhpappebaa
open Go.RowKit Go.Maps

theorem Ab.Small.get {e N : List Nat} (h : Ab.Small e N) : ∀ (k : Nat) (h1 : k < e.length) (h2 : k < N.length), e[k] < N[k] := by
  induction h with
  | nil => intro k h1; simp at h1
  | cons ha _ ih =>
    intro k h1 h2
    cases k with
    | zero => exact ha
    | succ k => exact ih k (by simpa using h1) (by simpa using h2)
theorem Ab.Small.set {e N : List Nat} (h : Ab.Small e N) : ∀ (k x : Nat) (h2 : k < N.length), x < N[k] → Ab.Small (e.set k x) N := by
  induction h with
  | nil => intro k x h2; simp at h2
  | cons ha hs ih =>
    intro k x h2 hx
    cases k with
    | zero => exact .cons hx hs
    | succ k => exact .cons ha (ih k x (by simpa using h2) hx)
theorem small_zero : ∀ {N : List Nat}, (∀ n ∈ N, 2 ≤ n ∧ n ≤ 1640) → Ab.Small (List.replicate N.length 0) N
  | [], _ => .nil
  | n :: N, h => .cons (by have := h n (by simp); omega) (small_zero fun m hm => h m (by simp [hm]))
theorem valM_zero : ∀ N : List Nat, valM (List.replicate N.length 0) N = 0
  | [] => rfl
  | n :: N => by
    show 0 * prodN N + valM (List.replicate N.length 0) N = 0
    rw [valM_zero N]; omega
/-- A step of the composite: the power of the basis' member stands in the list of its powers. -/
structure PwP (d : Int) (L : List Fm) (F : Nat → Nat) (k b N K q : Nat) (X : List Int) : Prop where
  bl : b < L.length
  hb : (nats (basN d))[k]? = some (b : Int)
  hf : (nats (facN d))[k]? = some (N : Int)
  n2 : 2 ≤ N
  n3 : N ≤ 1640
  kN : K < N
  xl : X.length = N
  xq : X[K]? = some (q : Int)
  ql : q < L.length
  fl : F k < L.length
  nx : mulN d L (F k) q = F (k + 1)
  pw : ∀ (B G : Nat) (w : World), Grp L B G w → Calls Try.prog 146 #[.pointer (some ⟨G, 0, none⟩), .int .i64 b] w (RetI X w)
theorem pwP_ex {d : Int} (D : Dsc d) {L : List Fm} (hL : clsL d = L) {e : List Nat} (he : Ab.Small e (facN d)) {k : Nat} (hk : k < (facN d).length) :
    ∃ b N q X, ∃ h : k < e.length, PwP d L (cmbN D e) k b N e[k] q X := by
  have hel : k < e.length := by rw [he.len]; exact hk
  obtain ⟨K, hK⟩ : ∃ K, e[k]'hel = K := ⟨_, rfl⟩
  obtain ⟨N, hN⟩ : ∃ N, (facN d)[k]'hk = N := ⟨_, rfl⟩
  have hkN : K < N := by have := he.get k hel hk; rw [hK, hN] at this; exact this
  have hn : 2 ≤ N ∧ N ≤ 1640 := by rw [← hN]; exact facN_ge D _ (List.getElem_mem hk)
  obtain ⟨b, hb, hbl, e1⟩ : ∃ b, ∃ hb : k < (basN d).length, b < (clsL d).length ∧ (basN d)[k]'hb = b := by
    have hb : k < (basN d).length := by rw [basN_len]; exact hk
    exact ⟨_, hb, basN_lt D _ (List.getElem_mem hb), rfl⟩
  have ho : ordF d ((clsL d)[b]'hbl) = N := by
    subst e1
    rw [← hN]; exact bas_ord D hb hk hbl
  obtain ⟨f, hf⟩ : ∃ f, (clsL d)[b]'hbl = f := ⟨_, rfl⟩
  have hm : f ∈ clsL d := by rw [← hf]; exact List.getElem_mem hbl
  rw [hf] at ho
  obtain ⟨a1, a2⟩ := D.ordm hm
  rw [ho] at a1 a2
  have hgb := gix_bd (D.pwm hm K)
  obtain ⟨q, hq⟩ : ∃ q : Nat, gix (clsL d) (Go.Proofs.Ytkkamlhpappebaa.pw d f K) = q := ⟨_, (Int.toNat_of_nonneg hgb.1).symm⟩
  obtain ⟨h1, h2⟩ := gix_elem (D.pwm hm K) hq
  have hel2 : elN D q = (clG D).pw (elN D b) K := by
    apply Subtype.ext
    rw [elN_val D h1, h2, clG_pw, elN_val D hbl, hf]
  have hnx : mulN d (clsL d) (cmbN D e k) q = cmbN D e (k + 1) := cmbN_next D hb hel h1 (by rw [hel2, e1, hK])
  have e2 : (nats (basN d))[k]? = some (b : Int) := by unfold nats; rw [List.getElem?_map, List.getElem?_eq_getElem hb, e1]; rfl
  have e3 : (nats (facN d))[k]? = some (N : Int) := by unfold nats; rw [List.getElem?_map, List.getElem?_eq_getElem hk, hN]; rfl
  have e5 := pwI_len d (clsL d) f N
  have e6 : (pwI d (clsL d) f N)[K]? = some (q : Int) := by
    unfold pwI
    rw [List.getElem?_map, List.getElem?_range hkN, Option.map_some, hq]
  have e4 : ∀ (B G : Nat) (w : World), Grp (clsL d) B G w → Calls Try.prog 146 #[.pointer (some ⟨G, 0, none⟩), .int .i64 (b : Nat)] w (RetI (pwI d (clsL d) f N) w) := fun B G w hg => by
    have h := gpowers_any d b N (clsL d) B G w D rfl hbl (by rw [hf]; exact a1) a2 hg
    rwa [hf] at h
  have e7 := cmbN_lt D e k
  subst hL
  generalize pwI d (clsL d) f N = X at *
  exact ⟨b, N, q, X, hel, { bl := hbl, hb := e2, hf := e3, n2 := hn.1, n3 := hn.2, kN := by rw [hK]; exact hkN, xl := e5, xq := by rw [hK]; exact e6, ql := h1, fl := e7, nx := hnx, pw := e4 }⟩
/-- The row of exponents. -/
def eQ (e : List Nat) (q : Nat) : Value := .int .i64 ((e.getD q 0 : Nat) : Int)
theorem eQ_at {e : List Nat} {k : Nat} (h : k < e.length) : eQ e k = .int .i64 ((e[k] : Nat) : Int) := by
  unfold eQ; rw [List.getD_eq_getElem?_getD, List.getElem?_eq_getElem h]; rfl
theorem eQ_set {e : List Nat} {k y : Nat} (h : k < e.length) (q : Nat) : (if q = k then Value.int .i64 ((y : Nat) : Int) else eQ e q) = eQ (e.set k y) q := by
  unfold eQ
  rw [List.getD_eq_getElem?_getD, List.getD_eq_getElem?_getD, List.getElem?_set]
  by_cases h1 : q = k
  · subst h1; rw [if_pos rfl, if_pos rfl, if_pos h]; rfl
  · rw [if_neg h1, if_neg (fun e => h1 e.symm)]
theorem eQ_own (e : List Nat) (q : Nat) (h : q < e.length) : (cellsI (nats e))[q]? = some (eQ e q) := by
  rw [eQ_at h]
  unfold cellsI nats
  simp [h]
/-- The state of the outer loop. -/
def ClgSt (NN T : List Nat) (s : Nat) (w5 : World) (kg : Nat) (wr : World) : Prop :=
  ∃ e, Hid (Ab.Small e NN) ∧ Hid (valM e NN + kg = valM T NN) ∧ Hid (wr.rowIs w5.heap.size 3 s (eQ e)) ∧ w5.heap.size < wr.heap.size ∧ Below w5.heap.size w5 wr
/-- The state of the loop of the composite. -/
def ClgIn (F : Nat → Nat) (s : Nat) (wi : World) (v9 v37 : Value) (wr : World) : Prop :=
  ∃ k : Nat, v37 = .int .i64 k ∧ k ≤ s ∧ v9 = .int .i64 (F k : Nat) ∧ Below wi.heap.size wi wr
/-- The state of the loop that counts on. -/
def ClgUp (NN e : List Nat) (s : Nat) (w5 : World) (v12 : Value) (wr : World) : Prop :=
  ∃ (k : Nat) (e2 : List Nat), v12 = .int .i64 k ∧ k < s ∧ Hid (Ab.Small e2 NN) ∧ Hid (valM e2 NN + prodN (NN.drop (k + 1)) = valM e NN + 1) ∧ Hid (wr.rowIs w5.heap.size 3 s (eQ e2)) ∧ w5.heap.size < wr.heap.size ∧ Below w5.heap.size w5 wr
end Go.Proofs.Ytkkamlhpappebaa
