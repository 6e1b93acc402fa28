/- Parts SU ST BD BF BG laid together by tp.py. -/
import Derived.Test.YtkkamlhpappebaaGreatSW
import Derived.Test.YtkkamlhpappebaaGreatZY
import Derived.Test.YtkkamlhpappebaaGreatSH
import Derived.BigQuiet
import Derived.Test.YtkkamlhpappebaaGreatTZ
namespace Go.Proofs.YtkkamlhpappebaaGreat
section

theorem one_iff {p : Nat → Bool} {m : Nat} (h0 : 0 < m) (hp : p 0 = true) : ((List.range m).filter p).length = 1 ↔ ∀ x, x < m → p x = true → x = 0 := by
  have hm : 0 ∈ (List.range m).filter p := List.mem_filter.2 ⟨List.mem_range.2 h0, hp⟩
  have hn : ((List.range m).filter p).Nodup := List.Nodup.sublist List.filter_sublist List.nodup_range
  constructor
  · intro h x hx hpx
    obtain ⟨y, hy⟩ := List.length_eq_one_iff.1 h
    have h1 : x ∈ (List.range m).filter p := List.mem_filter.2 ⟨List.mem_range.2 hx, hpx⟩
    rw [hy] at h1 hm
    simp at h1 hm
    omega
  · intro h
    have h1 := hn.length_le_of_subset (l₂ := [0]) (fun x hx => by
      obtain ⟨a, b⟩ := List.mem_filter.1 hx
      rw [h x (List.mem_range.1 a) b]
      simp)
    have h2 := List.length_pos_of_mem hm
    simp at h1
    omega
/-- How many of what i generates are among what J generates. -/
noncomputable def cmnN (d : Int) (J : List Nat) (i : Nat) : Nat := ((spanL (mulN d (clsL d)) [i] (clsL d).length).filter (rchB (mulN d (clsL d)) J)).length
theorem ok_cmn {d : Int} (D : Dsc d) (J : List Nat) (n : Int) (i : Nat) : okB d J n i = (decide ((ordF d ((clsL d).getD i ⟨0, 0, 0⟩) : Int) = n) && decide (cmnN d J i = 1)) := by
  have h0 := (ng_cls D).pos
  have hz : ∀ J : List Nat, rchB (mulN d (clsL d)) J 0 = true := fun J => rchB_iff.2 .zero
  unfold okB
  congr 1
  rw [Bool.eq_iff_iff, List.all_eq_true, decide_eq_true_eq]
  have e : cmnN d J i = ((List.range (clsL d).length).filter fun x => rchB (mulN d (clsL d)) J x && rchB (mulN d (clsL d)) [i] x).length := by
    unfold cmnN spanL
    rw [List.filter_filter]
  rw [e, one_iff h0 (by simp [hz])]
  constructor
  · intro h x hx hp
    have h1 := h x (List.mem_range.2 hx)
    rw [Bool.and_eq_true] at hp
    rw [hp.1, hp.2] at h1
    simpa using h1
  · intro h x hx
    have h1 := h x (List.mem_range.1 hx)
    cases ha : rchB (mulN d (clsL d)) [i] x <;> cases hb : rchB (mulN d (clsL d)) J x <;> simp_all
theorem has_span {d : Int} {J : List Nat} {x : Nat} (hx : x < (clsL d).length) : hasI (nats (spanL (mulN d (clsL d)) J (clsL d).length)) (x : Int) = rchB (mulN d (clsL d)) J x := by
  unfold hasI
  rw [Bool.eq_iff_iff, decide_eq_true_eq]
  unfold nats spanL
  rw [List.mem_map]
  constructor
  · rintro ⟨y, hy, e⟩
    have e2 : (y : Int) = x := e
    have : y = x := by omega
    subst this
    exact (List.mem_filter.1 hy).2
  · intro h
    exact ⟨x, List.mem_filter.2 ⟨List.mem_range.2 hx, h⟩, rfl⟩
theorem fac_nats {d : Int} (D : Dsc d) : nats (facN d) = (invL d).reverse := facN_int D
theorem fac_get {d : Int} (D : Dsc d) {t a : Nat} (h : (facN d).length = a + 1 + t) (h2 : a < (nats (facN d)).length) : (nats (facN d))[a] = (invL d).getD t 1 := by
  have hl := facN_len d
  have e : (nats (facN d))[a]? = (invL d).reverse[a]? := by rw [fac_nats D]
  rw [List.getElem?_eq_getElem h2, List.getElem?_reverse (by omega), show (invL d).length - 1 - a = t by omega, List.getElem?_eq_getElem (by omega)] at e
  injection e with e
  rw [e, List.getD_eq_getElem?_getD, List.getElem?_eq_getElem (by omega)]
  rfl
end

section

namespace Ab
variable {α : Type} {G : Ab α}
theorem comb_take : ∀ (J : List α) (e : List Nat) (k : Nat) (h : k < J.length) (h2 : k < e.length), G.comb (J.take (k + 1)) (e.take (k + 1)) = G.mul (G.comb (J.take k) (e.take k)) (G.pw J[k] e[k])
  | x :: J, a :: e, 0, _, _ => by
    show G.mul (G.pw x a) G.one = G.mul G.one (G.pw x a)
    rw [G.comm]
  | x :: J, a :: e, k + 1, h, h2 => by
    have h3 : k < J.length := by simpa using h
    have h4 : k < e.length := by simpa using h2
    have ih := comb_take J e k h3 h4
    show G.mul (G.pw x a) (G.comb (J.take (k + 1)) (e.take (k + 1))) = G.mul (G.mul (G.pw x a) (G.comb (J.take k) (e.take k))) (G.pw J[k] e[k])
    rw [ih, G.assoc]
theorem Bas.isO {S J : List α} {N : List Nat} (hB : G.Bas S J N) : ∀ (k : Nat) (h : k < J.length) (h2 : k < N.length), G.IsO J[k] N[k] := by
  induction hB with
  | nil => intro k h; simp at h
  | cons _ _ hT _ hI ih =>
    intro k h h2
    cases k with
    | zero => exact hI.isO hT
    | succ k => exact ih k (by simpa using h) (by simpa using h2)
end Ab
/-- The product of a list. -/
abbrev prodN (N : List Nat) : Nat := N.foldr (· * ·) 1
theorem prod_drop {N : List Nat} {k : Nat} (h : k < N.length) : prodN (N.drop k) = N[k] * prodN (N.drop (k + 1)) := by
  rw [List.drop_eq_getElem_cons h]; rfl
/-- The number whose digits are given, the greatest place first. -/
def valM : List Nat → List Nat → Nat
  | a :: e, _ :: N => a * prodN N + valM e N
  | _, _ => 0
theorem valM_lt {e N : List Nat} (h : Ab.Small e N) : valM e N < prodN N := by
  induction h with
  | nil => simp [valM]
  | @cons a n e N ha _ ih =>
    have h1 : (a + 1) * prodN N ≤ n * prodN N := Nat.mul_le_mul_right _ ha
    rw [Nat.succ_mul] at h1
    show a * prodN N + valM e N < n * prodN N
    omega
theorem valM_inj {e N : List Nat} (h : Ab.Small e N) : ∀ e', Ab.Small e' N → valM e N = valM e' N → e = e' := by
  induction h with
  | nil => intro e' h' _; cases h'; rfl
  | @cons a n e N ha hs ih =>
    intro e' h' he
    cases h' with
    | @cons b _ e' _ hb hs' =>
      have h1 := valM_lt hs
      have h2 := valM_lt hs'
      have he2 : a * prodN N + valM e N = b * prodN N + valM e' N := he
      have hab : a = b := by
        rcases Nat.lt_trichotomy a b with h | h | h
        · have := Nat.mul_le_mul_right (prodN N) (show a + 1 ≤ b from h)
          rw [Nat.succ_mul] at this
          omega
        · exact h
        · have := Nat.mul_le_mul_right (prodN N) (show b + 1 ≤ a from h)
          rw [Nat.succ_mul] at this
          omega
      subst hab
      rw [ih e' hs' (by omega)]
theorem valM_set : ∀ (e N : List Nat) (k x : Nat) (h : k < e.length) (_ : e.length = N.length), valM (e.set k x) N + e[k] * prodN (N.drop (k + 1)) = valM e N + x * prodN (N.drop (k + 1))
  | a :: e, n :: N, 0, x, _, _ => by
    show x * prodN N + valM e N + a * prodN N = a * prodN N + valM e N + x * prodN N
    omega
  | a :: e, n :: N, k + 1, x, h, hl => by
    have h3 : k < e.length := by simpa using h
    have ih := valM_set e N k x h3 (by simpa using hl)
    show a * prodN N + valM (e.set k x) N + e[k] * prodN (N.drop (k + 1)) = a * prodN N + valM e N + x * prodN (N.drop (k + 1))
    omega
/-- The digits of a number, the least place first. -/
def digL : Nat → List Nat → List Nat
  | _, [] => []
  | n, m :: N => n % m :: digL (n / m) N
theorem digL_len : ∀ (n : Nat) (N : List Nat), (digL n N).length = N.length
  | _, [] => rfl
  | n, m :: N => by rw [digL, List.length_cons, digL_len, List.length_cons]
theorem digL_small : ∀ (n : Nat) (N : List Nat), (∀ m ∈ N, 0 < m) → Ab.Small (digL n N) N
  | _, [], _ => .nil
  | n, m :: N, h => .cons (Nat.mod_lt _ (h m (by simp))) (digL_small _ N fun x hx => h x (by simp [hx]))
theorem digL_get : ∀ (n : Nat) (N : List Nat) (k : Nat) (h : k < N.length), (digL n N)[k]'(by rw [digL_len]; exact h) = (N.take k).foldl (· / ·) n % N[k]
  | n, m :: N, 0, _ => rfl
  | n, m :: N, k + 1, h => by
    have := digL_get (n / m) N k (by simpa using h)
    simp only [digL, List.getElem_cons_succ, List.take_succ_cons, List.foldl_cons]
    exact this
theorem digL_ex {e N : List Nat} (h : Ab.Small e N) : ∃ n, n < prodN N ∧ digL n N = e := by
  induction h with
  | nil => exact ⟨0, by simp, rfl⟩
  | @cons a m e N ha _ ih =>
    obtain ⟨n, hn, he⟩ := ih
    refine ⟨a + m * n, ?_, ?_⟩
    · have := Nat.mul_le_mul_left m (show n + 1 ≤ prodN N from hn)
      rw [Nat.mul_succ] at this
      show a + m * n < m * prodN N
      omega
    · rw [digL, Nat.add_mul_mod_self_left, Nat.mod_eq_of_lt ha, Nat.add_mul_div_left _ _ (by omega), Nat.div_eq_of_lt ha, Nat.zero_add, he]
theorem rest_step {n : Nat} {N : List Nat} {k : Nat} (h : k < N.length) : (N.take (k + 1)).foldl (· / ·) n = (N.take k).foldl (· / ·) n / N[k] := by
  rw [List.take_succ_eq_append_getElem h, List.foldl_append]; rfl
section
variable {d : Int}
/-- The index of an element. -/
noncomputable def ixN (D : Dsc d) (x : {f : Fm // f ∈ clsL d}) : Nat := Classical.choose (elN_ex D x)
theorem ixN_lt (D : Dsc d) (x : {f : Fm // f ∈ clsL d}) : ixN D x < (clsL d).length := (Classical.choose_spec (elN_ex D x)).1
theorem ixN_el (D : Dsc d) (x : {f : Fm // f ∈ clsL d}) : elN D (ixN D x) = x := (Classical.choose_spec (elN_ex D x)).2
theorem ixN_elN (D : Dsc d) {i : Nat} (h : i < (clsL d).length) : ixN D (elN D i) = i := elN_inj D (ixN_lt D _) h (ixN_el D _)
theorem ixN_mul (D : Dsc d) (x : {f : Fm // f ∈ clsL d}) {i : Nat} (h : i < (clsL d).length) : mulN d (clsL d) (ixN D x) i = ixN D ((clG D).mul x (elN D i)) := by
  apply elN_inj D ((ng_cls D).lt _ _ (ixN_lt D _) h) (ixN_lt D _)
  rw [elN_mul D (ixN_lt D _) h, ixN_el, ixN_el]
theorem ixN_one (D : Dsc d) : ixN D (clG D).one = 0 := by
  rw [← elN_zero D]
  exact ixN_elN D (ng_cls D).pos
/-- The element with exponents, of the first k members of the basis. -/
noncomputable def cmbN (D : Dsc d) (e : List Nat) (k : Nat) : Nat := ixN D ((clG D).comb (((basN d).map (elN D)).take k) (e.take k))
theorem cmbN_zero (D : Dsc d) (e : List Nat) : cmbN D e 0 = 0 := by
  unfold cmbN
  rw [List.take_zero]
  exact ixN_one D
theorem cmbN_lt (D : Dsc d) (e : List Nat) (k : Nat) : cmbN D e k < (clsL d).length := ixN_lt D _
theorem cmbN_step (D : Dsc d) {e : List Nat} {k : Nat} (h : k < (basN d).length) (h2 : k < e.length) : cmbN D e (k + 1) = ixN D ((clG D).mul ((clG D).comb (((basN d).map (elN D)).take k) (e.take k)) ((clG D).pw (elN D (basN d)[k]) e[k])) := by
  unfold cmbN
  rw [Ab.comb_take _ _ _ (by rw [List.length_map]; exact h) h2, List.getElem_map]
/-- The step by an index of the power. -/
theorem cmbN_next (D : Dsc d) {e : List Nat} {k q : Nat} (h : k < (basN d).length) (h2 : k < e.length) (hq : q < (clsL d).length) (he : elN D q = (clG D).pw (elN D (basN d)[k]) e[k]) : mulN d (clsL d) (cmbN D e k) q = cmbN D e (k + 1) := by
  rw [cmbN_step D h h2, ← he]
  exact ixN_mul D _ hq
theorem bas_ord (D : Dsc d) {k : Nat} (h : k < (basN d).length) (h1 : k < (facN d).length) (h2 : (basN d)[k] < (clsL d).length) : ordF d (clsL d)[(basN d)[k]] = (facN d)[k] := by
  have h3 := (bas_all D).isO k (by rw [List.length_map]; exact h) h1
  rw [List.getElem_map] at h3
  have h0 := clG_ord D (elN D (basN d)[k])
  have e1 : ordF d (elN D (basN d)[k]).1 = (facN d)[k] := Nat.dvd_antisymm (h0.dvd _ h3.2.1) (h3.dvd _ h0.2.1)
  rw [← e1, elN_val D h2]
/-- The exponents of the element i. -/
theorem log_ex (D : Dsc d) (i : Nat) : ∃ e, Ab.Small e (facN d) ∧ (clG D).comb ((basN d).map (elN D)) e = elN D i :=
  Ab.Bas.all (clG_all D) (bas_all D) (by rw [facN_prod D, List.length_attach]) (List.mem_attach _ _)
noncomputable def logN (D : Dsc d) (i : Nat) : List Nat := Classical.choose (log_ex D i)
theorem logN_small (D : Dsc d) (i : Nat) : Ab.Small (logN D i) (facN d) := (Classical.choose_spec (log_ex D i)).1
theorem logN_len (D : Dsc d) (i : Nat) : (logN D i).length = (facN d).length := (logN_small D i).len
theorem cmbN_full (D : Dsc d) (e : List Nat) (h : e.length = (facN d).length) : cmbN D e (facN d).length = ixN D ((clG D).comb ((basN d).map (elN D)) e) := by
  unfold cmbN
  rw [List.take_of_length_le (by rw [List.length_map, basN_len]; exact Nat.le_refl _), List.take_of_length_le (by omega)]
theorem logN_cmb (D : Dsc d) {i : Nat} (hi : i < (clsL d).length) : cmbN D (logN D i) (facN d).length = i := by
  have h : (clG D).comb ((basN d).map (elN D)) (logN D i) = elN D i := (Classical.choose_spec (log_ex D i)).2
  rw [cmbN_full D _ (logN_len D i), h]
  exact ixN_elN D hi
theorem logN_uniq (D : Dsc d) {i : Nat} {e : List Nat} (he : Ab.Small e (facN d)) (h : cmbN D e (facN d).length = i) : e = logN D i := by
  rw [cmbN_full D _ he.len] at h
  refine (bas_all D).inj _ _ he (logN_small D i) ?_
  have h1 := (Classical.choose_spec (log_ex D i)).2
  show (clG D).comb _ e = (clG D).comb _ (Classical.choose (log_ex D i))
  rw [h1, ← h, ixN_el]
end
end

section
open Go.RowKit

def GbSt (d : Int) (s : Nat) (w2 : World) (v vt : Value) (wr : World) : Prop :=
  ∃ t : Nat, vt = .int .i64 ((s : Int) - 1 - t) ∧ t ≤ s ∧ wr.ownsRow w2.heap.size 3 1 v (nats (bsN d t)).length (cellsI (nats (bsN d t))) ∧ Below w2.heap.size w2 wr
def GbIn (i0 : Nat) (v0 : Value) (w4 : World) (v vi : Value) (wr : World) : Prop := ∃ i : Nat, v = v0 ∧ vi = .int .i64 i ∧ i ≤ i0 ∧ Below w4.heap.size w4 wr
def GbCn (p : Nat → Bool) (X : List Nat) (vc vk : Value) : Prop := ∃ k : Nat, vk = .int .i64 k ∧ k ≤ X.length ∧ vc = .int .i64 (((X.take k).filter p).length : Nat)

theorem cnt_take {α : Type} {p : α → Bool} {Y : List α} {k : Nat} (h : k < Y.length) : ((Y.take (k + 1)).filter p).length = ((Y.take k).filter p).length + if p Y[k] then 1 else 0 := by
  rw [List.take_succ_eq_append_getElem h, List.filter_append, List.length_append]
  cases hp : p Y[k] <;> simp [hp]

set_option maxRecDepth 100000 in
set_option maxHeartbeats 6400000 in
theorem grBasis_any (d : Int) (L : List Fm) (B : Nat) (base : Option Addr) (cap : Nat) (w : World) (D : Dsc d) (hL : clsL d = L) (ht : Tab d L B (.slice base L.length cap) w) :
    Calls Tryz.prog 52 #[.slice base L.length cap] w (RetI (nats (basN d)) w) := by
  obtain ⟨j0, hj, hj0, hj1, hj2⟩ := info_parts infoInt
  have hl : L.length ≤ 1640 := by rw [← hL]; exact clsL_len d
  have hO := Lib.hid (grOrders_any d L B base cap w D hL ht)
  have hI := (fun (B : Nat) (bo : Option Addr) (co : Nat) (w : World) h => grFactors_any d L B bo co w D hL h)
  rw [← fac_nats D] at hI
  have hS := Lib.hid (fun (J : List Nat) (v : Value) (B2 : Nat) (w : World) (ht : Tab d L B (.slice base L.length cap) w) (hJ : ∀ j ∈ J, j < L.length) (hJl : J.length ≤ 20) ho => grSpan_any d L B base cap J v B2 w D hL ht hJ hJl ho)
  have hOk := Lib.hid (fun (k : Nat) (hk : k < L.length) J n => (show okB d J n k = (decide ((ordF d L[k] : Int) = n) && decide (((spanL (mulN d L) [k] L.length).filter (rchB (mulN d L) J)).length = 1)) from by
    have h := ok_cmn D J n k
    have hg : (clsL d).getD k ⟨0, 0, 0⟩ = L[k] := by subst hL; rw [List.getD_eq_getElem?_getD, List.getElem?_eq_getElem hk]; rfl
    rw [hg] at h
    unfold cmnN at h
    rwa [hL] at h))
  have hHas := Lib.hid (fun (J : List Nat) (x : Nat) (hx : x < L.length) => (show hasI (nats (spanL (mulN d L) J L.length)) (x : Int) = rchB (mulN d L) J x from by
    subst hL; exact has_span hx))
  have hSl := Lib.hid (fun (J : List Nat) => (show (spanL (mulN d L) J L.length).length ≤ L.length ∧ ∀ x ∈ spanL (mulN d L) J L.length, x < L.length from
    ⟨by unfold spanL; exact Nat.le_trans (List.length_filter_le _ _) (by simp), fun x hx => List.mem_range.1 (List.mem_filter.1 hx).1⟩))
  have hSt := Lib.hid (fun t => (show (∀ j ∈ bsN d t, j < L.length) ∧ ∃ i, i < L.length ∧ okB d (bsN d t) ((invL d).getD t 1) i = true ∧ (∀ k, k < i → okB d (bsN d t) ((invL d).getD t 1) k = false) ∧ bsN d (t + 1) = i :: bsN d t from by
    rw [← hL]; exact bsN_step D t))
  have hs20 : (nats (facN d)).length ≤ 20 := by rw [nats_len, facN_len]; exact inv_len20 D
  have hFg : ∀ (t a : Nat), (nats (facN d)).length = a + 1 + t → ∀ (h2 : a < (nats (facN d)).length), (nats (facN d))[a] = (invL d).getD t 1 := fun t a h h2 => fac_get D (by rw [← nats_len]; exact h) h2
  have hfin : Hid (bsN d (nats (facN d)).length = basN d) := Lib.hid (by unfold basN; rw [nats_len, facN_len])
  have hbl := Lib.hid (bsN_len d)
  have HT := Lib.hid ht
  generalize mulN d L = mul at *
  generalize nats (facN d) = R at *
  have HI := Lib.hid hI
  have HFg := Lib.hid hFg
  clear D hL ht hI hFg
  go_enter Tryz.func52, Tryz.ntmps52
  go_wp2_with (first
    | (go_at_call 51; refine hO.out.mono ?_; rintro e w1 ⟨vo, rfl, hoo, hb1⟩; rw [ordsL_len] at hoo; obtain ⟨bo, co, rfl⟩ := own_shape hoo; have hz1 := hb1.size)
    | (go_at_call 77; refine (HI.out _ _ _ _ hoo).mono ?_; rintro e w2 ⟨vr, rfl, hor, hb2⟩; obtain ⟨br, cr, rfl⟩ := own_shape hor; have hz2 := hb2.size))
  have HO := Lib.hid (own_call hb2 hoo)
  have HR := Lib.hid hor
  have hb12 : Below w.heap.size w w2 := below_via hb1 hb2 hz1
  clear hoo hor hb1 hb2
  go_loopw [5, 6] (fun v vt wr => GbSt d R.length w2 v vt wr) (fun _ vt _ => (intOf vt + 1).toNat)
  case atStart => exact ⟨0, by go_num, Nat.zero_le _, World.ownsRow_nil _ _ _ _, (by repeat (first | with_reducible exact Below.refl _ _ | with_reducible assumption | with_reducible apply Below.drew | with_reducible apply below_drewN | (with_reducible apply below_setp; (first | omega | (simp <;> omega))) | (with_reducible apply below_allocp; (first | omega | (simp <;> omega))) | (with_reducible refine below_viap (by assumption) ?_ ?_; (first | omega | (simp <;> omega)))))⟩
  case round =>
    obtain ⟨t, rfl, htl, hown, hbel⟩ := hrel
    have hz := hbel.size
    by_cases hlt : t < R.length
    · obtain ⟨a, ha⟩ : ∃ a, R.length = a + 1 + t := ⟨R.length - 1 - t, by omega⟩
      have ea : (R.length : Int) - 1 - t = (a : Nat) := by omega
      have hal : a < R.length := by omega
      have Ha := Lib.hid ha
      have Hb : Hid ((a : Int) - 1 = (R.length : Int) - 1 - ((t + 1 : Nat) : Int)) := Lib.hid (by omega)
      rw [ea]
      clear ea
      obtain ⟨hm, i0, hi0, hy, hn, he⟩ := hSt.out t
      have hjl : (bsN d t).length ≤ 20 := by rw [hbl.out]; omega
      have hg1 := HFg.out t a ha hal
      clear ha
      rw [← hg1] at hy hn
      have Hn := Lib.hid hn
      have Hy := Lib.hid hy
      have He := Lib.hid he
      have hbw : Below w.heap.size w wr := below_via hb12 hbel (by omega)
      have hS1 := Lib.hid (hS.out (bsN d t) _ _ wr (HT.out.call hbw) hm hjl hown)
      obtain ⟨g1, g2⟩ := hSl.out (bsN d t)
      have hh := Lib.hid (fun x hx => hHas.out (bsN d t) x hx)
      have hnl : (nats (bsN d t)).length ≤ 20 := by rw [nats_len]; exact hjl
      have hnx : (nats (spanL mul (bsN d t) L.length)).length ≤ L.length := by rw [nats_len]; exact g1
      generalize bsN d t = J at *
      clear hn hy he hg1
      generalize spanL mul J L.length = X at *
      go_wp2_with (go_at_call 78; refine hS1.out.mono ?_; rintro e w4 ⟨vx, rfl, hox, hb4⟩; have hz4 := hb4.size)
      have HX := Lib.hid hox
      obtain ⟨bj, cj, rfl⟩ := own_shape hown
      have Hown4 := Lib.hid (own_call hb4 hown)
      have hb24 : Below w2.heap.size w2 w4 := below_via hbel hb4 hz
      have hz24 := hb24.size
      clear hox hown hbel hb4 hbw hz
      obtain ⟨wo, rfl⟩ : ∃ wo : World, wo = wr := ⟨_, rfl⟩
      go_loopw [5, 29] (fun v vi wr => GbIn i0 (.slice bj (nats J).length cj) w4 v vi wr) (fun _ vi _ => L.length - (intOf vi).toNat)
      case atStart => exact ⟨0, rfl, rfl, Nat.zero_le _, Below.refl _ _⟩
      case round =>
        obtain ⟨i, rfl, rfl, hi, hbi⟩ := hrel
        have hzi := hbi.size
        have hil : i < L.length := by omega
        have hb2r : Below w2.heap.size w2 wr := below_via hb24 hbi (by omega)
        have hbwr : Below w.heap.size w wr := below_via hb12 hb2r (by omega)
        have hone : (wr.alloc (.cells #[.int .i64 (i : Int)] 3)).ownsRow wr.heap.size 3 1 (.slice (some ⟨wr.heap.size, 0, none⟩) 1 1) (nats [i]).length (cellsI (nats [i])) := own_one (Nat.le_refl _)
        have hS2 := Lib.hid (hS.out [i] _ _ _ (HT.out.call (hbwr.alloc (by omega) _)) (by intro x hx; simp only [List.mem_singleton] at hx; subst hx; exact hil) (by simp) hone)
        obtain ⟨k1, k2⟩ := hSl.out [i]
        have hok := hOk.out i hil J R[a]
        obtain ⟨N, hN⟩ : ∃ N, ordF d L[i] = N := ⟨_, rfl⟩
        have hny := Lib.hid (nats_len (spanL mul [i] L.length))
        rw [hN] at hok
        generalize spanL mul [i] L.length = Y at *
        have HN := Lib.hid hN
        have Hk2 := Lib.hid k2
        clear hone k2 hN
        go_wp2_with (go_at_call 78; refine hS2.out.mono ?_; rintro e w5 ⟨vy, rfl, hoy, hb5⟩; have hz5 := hb5.size; simp at hz5; rw [hny.out] at hoy; obtain ⟨byy, cy, rfl⟩ := own_shape hoy)
        have hb45 : Below w4.heap.size w4 w5 := below_via (hbi.alloc (by omega) _) hb5 (by simp; omega)
        have hb25 : Below w2.heap.size w2 w5 := below_via hb24 hb45 (by omega)
        have HX5 := Lib.hid (own_call hb45 HX.out)
        have HY5 := Lib.hid hoy
        clear hoy hb5
        go_loop [10, 38] (fun vc vk => GbCn (rchB mul J) Y vc vk) (fun _ vk => Y.length - (intOf vk).toNat)
        case atStart => exact ⟨0, rfl, Nat.zero_le _, rfl⟩
        case round =>
          obtain ⟨k, rfl, hk, rfl⟩ := hrel
          by_cases hkl : k < Y.length
          · obtain ⟨gy, rfl, gy2, y1⟩ := own_elemI (L := nats Y) (by rw [nats_len]; exact HY5.out) (k := k) (by rw [nats_len]; exact hkl)
            rw [(nats_get Y hkl).2] at y1
            have hh1 := hh.out Y[k] (Hk2.out _ (List.getElem_mem hkl))
            have hct := cnt_take (p := rchB mul J) hkl
            have hle : ((Y.take k).filter (rchB mul J)).length ≤ 1640 := Nat.le_trans (List.length_filter_le _ _) (by rw [List.length_take]; omega)
            generalize Y[k] = y at *
            generalize ((Y.take k).filter (rchB mul J)).length = C at *
            cases hr : rchB mul J y with
            | true =>
              rw [hr] at hh1 hct
              have Hct := Lib.hid hct
              clear hct
              go_wp2_with (go_at_call 79; refine (l1Has_any _ _ (nats X) y _ (by omega) HX5.out).mono ?_; rw [hh1]; rintro e v1 ⟨rfl, rfl⟩)
              go_round
              case rel => exact ⟨k + 1, by go_num, hkl, by rw [Hct.out]; simp⟩
              case measure => (first | (simp [intOf]; done) | (simp [intOf]; omega))
            | false =>
              rw [hr] at hh1 hct
              have Hct := Lib.hid hct
              clear hct
              go_wp2_with (go_at_call 79; refine (l1Has_any _ _ (nats X) y _ (by omega) HX5.out).mono ?_; rw [hh1]; rintro e v1 ⟨rfl, rfl⟩)
              go_round
              case rel => exact ⟨k + 1, by go_num, hkl, by rw [Hct.out]; simp⟩
              case measure => (first | (simp [intOf]; done) | (simp [intOf]; omega))
          · have e : k = Y.length := by omega
            subst e
            rw [List.take_length]
            obtain ⟨go, rfl, ho2, o1⟩ := own_elemO (own_call hb25 HO.out) hil
            obtain ⟨ge, rfl, ge2, e1⟩ := own_elemI (own_call hb25 HR.out) (k := a) hal
            rw [HN.out] at o1
            have Hok := Lib.hid hok
            have hCl : (Y.filter (rchB mul J)).length ≤ 1640 := Nat.le_trans (List.length_filter_le _ _) (by omega)
            generalize R[a] = F at *
            generalize (Y.filter (rchB mul J)).length = C at *
            clear hok
            by_cases hNF : (N : Int) = F
            · subst hNF
              by_cases hC : C = 1
              · subst hC
                have hi0e : i = i0 := by
                  rcases Nat.lt_or_ge i i0 with h | h
                  · have h1 := Hn.out i h
                    rw [Hok.out] at h1
                    simp at h1
                  · omega
                subst hi0e
                have enx := Lib.hid (show (nats (i :: J)).length = 1 + (nats J).length by rw [nats_len, nats_len, List.length_cons]; omega)
                clear Hok Hn Hy
                go_wp2
                go_quiet (fail)
                have hS9 : ((w5.drewN nq).alloc (.cells #[.int .i64 (i : Int)] 3)).ownsRow w2.heap.size 3 1 (.slice (some ⟨w5.heap.size, 0, none⟩) 1 1) 1 [.int .i64 (i : Int)] := by
                  have h := own_one (w := w5.drewN nq) (e := 3) (u := .int .i64 (i : Int)) (B := w2.heap.size) (by simp; omega)
                  simp at h
                  exact h
                go_wp2_with (at_builtin; refine wpList_append_any _ rfl (.tmp 62) (.tmp 63) _ rfl w2.heap.size 3 j0 _ 1 8 Tryz.underlying28 hj hj0 hj1 hj2 rfl (by omega) (.slice (some ⟨w5.heap.size, 0, none⟩) 1 1) 1 [.int .i64 (i : Int)] rfl hS9 _ bj (nats J).length cj (cellsI (nats J)) rfl (Reads.of_own (own_alloc (own_drewN (own_call hb45 Hown4.out)))) (cellsI_one _) (by unfold maxLen; omega) (by omega) (by simp; omega) ?_; intro x9 w6 hon9 hg9 hloc9)
                have hb9 : Below w2.heap.size w2 w6 := below_grown (own_ge hS9) (by simp; omega) hg9 (by repeat (first | with_reducible exact Below.refl _ _ | with_reducible assumption | with_reducible apply Below.drew | with_reducible apply below_drewN | (with_reducible apply below_setp; (first | omega | (simp <;> omega))) | (with_reducible apply below_allocp; (first | omega | (simp <;> omega))) | (with_reducible refine below_viap (by assumption) ?_ ?_; (first | omega | (simp <;> omega)))))
                have hon10 : w6.ownsRow w2.heap.size 3 1 x9 (nats (i :: J)).length (cellsI (nats (i :: J))) := by rw [enx.out]; exact hon9
                clear hon9 hg9 hS9
                go_wp2
                go_roundw
                case rel => exact ⟨t + 1, by rw [← Hb.out], hlt, by rw [He.out]; exact hon10, hb9⟩
                case measure => (first | (simp [intOf]; done) | (simp [intOf]; omega))
              · have hlti : i < i0 := by
                  rcases Nat.lt_or_ge i i0 with h | h
                  · exact h
                  · have h1 := Hy.out
                    rw [show i0 = i by omega, Hok.out] at h1
                    simp at h1
                    omega
                have hC2 : ((C : Int) == 1) = false := by rw [beq_eq_false_iff_ne]; omega
                clear Hok Hn Hy
                go_wp2
                go_quiet (fail)
                go_wp2
                go_roundw
                case rel => exact ⟨i + 1, rfl, by go_num, by omega, (by repeat (first | with_reducible exact Below.refl _ _ | with_reducible assumption | with_reducible apply Below.drew | with_reducible apply below_drewN | (with_reducible apply below_setp; (first | omega | (simp <;> omega))) | (with_reducible apply below_allocp; (first | omega | (simp <;> omega))) | (with_reducible refine below_viap (by assumption) ?_ ?_; (first | omega | (simp <;> omega)))))⟩
                case measure => (first | (simp [intOf]; done) | (simp [intOf]; omega))
            · have hlti : i < i0 := by
                rcases Nat.lt_or_ge i i0 with h | h
                · exact h
                · have h1 := Hy.out
                  rw [show i0 = i by omega, Hok.out] at h1
                  simp at h1
                  omega
              have hN2 : ((N : Int) == F) = false := by rw [beq_eq_false_iff_ne]; exact hNF
              clear Hok Hn Hy
              go_wp2
              go_quiet (fail)
              go_wp2
              go_roundw
              case rel => exact ⟨i + 1, rfl, by go_num, by omega, (by repeat (first | with_reducible exact Below.refl _ _ | with_reducible assumption | with_reducible apply Below.drew | with_reducible apply below_drewN | (with_reducible apply below_setp; (first | omega | (simp <;> omega))) | (with_reducible apply below_allocp; (first | omega | (simp <;> omega))) | (with_reducible refine below_viap (by assumption) ?_ ?_; (first | omega | (simp <;> omega)))))⟩
              case measure => (first | (simp [intOf]; done) | (simp [intOf]; omega))
    · have e : t = R.length := by omega
      subst e
      rw [hfin.out] at hown
      have ea : (R.length : Int) - 1 - R.length = -1 := by omega
      rw [ea]
      clear hfin
      go_wp2
      go_ret
      exact ⟨_, rfl, own_base (by omega) hown, below_via hb12 hbel (by omega)⟩
end

section
open Go.RowKit

/-- Exponents modulo the orders. -/
def redE (E : List Int) (N : List Nat) : List Nat := List.zipWith (fun (x : Int) (n : Nat) => (x % (n : Int)).toNat) E N
theorem redE_len {E : List Int} {N : List Nat} (h : E.length = N.length) : (redE E N).length = N.length := by unfold redE; rw [List.length_zipWith]; omega
theorem redE_get {E : List Int} {N : List Nat} {k : Nat} (h : k < E.length) (h2 : k < N.length) (h3 : k < (redE E N).length) : (redE E N)[k] = (E[k] % (N[k] : Int)).toNat := by simp only [redE, List.getElem_zipWith]
theorem redE_nats {e N : List Nat} (h : Ab.Small e N) : redE (nats e) N = e := by
  induction h with
  | nil => rfl
  | @cons a n e N ha _ ih =>
    show ((a : Int) % (n : Int)).toNat :: redE (nats e) N = a :: e
    rw [ih, Int.emod_eq_of_lt (by omega) (by omega), Int.toNat_natCast]
theorem redE_small : ∀ {E : List Int} {N : List Nat}, (∀ n ∈ N, 2 ≤ n ∧ n ≤ 1640) → E.length = N.length → Ab.Small (redE E N) N
  | [], [], _, _ => .nil
  | x :: E, n :: N, hN, h => by
    have hn := hN n (by simp)
    refine Ab.Small.cons ?_ (redE_small (fun m hm => hN m (by simp [hm])) (by simpa using h))
    have h1 := Int.emod_nonneg x (show (n : Int) ≠ 0 by omega)
    have h2 := Int.emod_lt_of_pos x (show (0 : Int) < n by omega)
    show (x % (n : Int)).toNat < n
    omega
theorem cmb_path {d : Int} (D : Dsc d) {e : List Nat} {k : Nat} (h : k < (basN d).length) (h2 : k < e.length) :
    ∃ P : Nat → Nat, P 0 = cmbN D e k ∧ P e[k] = cmbN D e (k + 1) ∧ (∀ j, P j < (clsL d).length) ∧ ∀ j, mulN d (clsL d) (P j) (basN d)[k] = P (j + 1) := by
  refine ⟨fun j => ixN D ((clG D).mul ((clG D).comb (((basN d).map (elN D)).take k) (e.take k)) ((clG D).pw (elN D (basN d)[k]) j)), ?_, ?_, fun j => ixN_lt D _, fun j => ?_⟩
  · show ixN D ((clG D).mul _ (clG D).one) = _
    rw [(clG D).mul_one]; rfl
  · exact (cmbN_step D h h2).symm
  · show mulN d (clsL d) (ixN D _) _ = ixN D _
    rw [ixN_mul D _ (basN_lt D _ (List.getElem_mem h)), (clG D).assoc]
    congr 2
    rw [Ab.pw, (clG D).comm]
/-- What the loop over the basis asks at each step. -/
structure CmP (d : Int) (L : List Fm) (E : List Int) (F : Nat → Nat) (k b N K : Nat) (x : Int) (P : Nat → Nat) : Prop where
  bl : b < L.length
  hb : (nats (basN d))[k]? = some (b : Int)
  ho : ∀ h : b < L.length, ordF d L[b] = N
  hf : (nats (facN d))[k]? = some (N : Int)
  n2 : 2 ≤ N
  n3 : N ≤ 1640
  hx : E[k]? = some x
  hk : x % (N : Int) = K
  kN : K < N
  p0 : P 0 = F k
  pK : P K = F (k + 1)
  pl : ∀ j, P j < L.length
  pm : ∀ j, mulN d L (P j) b = P (j + 1)
theorem cmP_ex {d : Int} (D : Dsc d) {L : List Fm} (hL : clsL d = L) {E : List Int} (hE : E.length = (facN d).length) {k : Nat} (hk : k < (facN d).length) :
    ∃ b N K x P, CmP d L E (cmbN D (redE E (facN d))) k b N K x P := by
  subst hL
  have hbl : k < (basN d).length := by rw [basN_len]; exact hk
  have hrl : k < (redE E (facN d)).length := by rw [redE_len hE]; exact hk
  obtain ⟨P, h0, h1, h2, h3⟩ := cmb_path D hbl hrl
  have hn := facN_ge D _ (List.getElem_mem hk)
  have hlt := basN_lt D _ (List.getElem_mem hbl)
  have e1 := redE_get (k := k) (E := E) (by omega) hk hrl
  have m0 := Int.emod_nonneg (E[k]'(by omega)) (show ((facN d)[k] : Int) ≠ 0 by omega)
  have m1 := Int.emod_lt_of_pos (E[k]'(by omega)) (show (0 : Int) < (facN d)[k] by omega)
  refine ⟨(basN d)[k], (facN d)[k], (redE E (facN d))[k], E[k]'(by omega), P, hlt, ?_, fun h => bas_ord D hbl hk h, ?_, hn.1, hn.2, List.getElem?_eq_getElem (by omega), by rw [e1]; omega, by rw [e1]; omega, h0, h1, h2, h3⟩
  · unfold nats; rw [List.getElem?_map, List.getElem?_eq_getElem hbl]; rfl
  · unfold nats; rw [List.getElem?_map, List.getElem?_eq_getElem hk]; rfl
def GcSt (F : Nat → Nat) (s : Nat) (w : World) (v9 v15 : Value) (wr : World) : Prop := ∃ k : Nat, v15 = .int .i64 k ∧ k ≤ s ∧ v9 = .int .i64 (F k : Nat) ∧ Below w.heap.size w wr
def GcIn (P : Nat → Nat) (K : Nat) (v9 v12 : Value) : Prop := ∃ j : Nat, v12 = .int .i64 ((K : Int) - j) ∧ j ≤ K ∧ v9 = .int .i64 (P j : Nat)

set_option maxRecDepth 100000 in
set_option maxHeartbeats 3200000 in
theorem grCombine_any (d : Int) (L : List Fm) (B : Nat) (base : Option Addr) (cap : Nat) (vb ve : Value) (bo : Option Addr) (co : Nat) (B2 B3 B4 : Nat) (E : List Int) (w : World) (D : Dsc d) (hL : clsL d = L) (hE : E.length = (facN d).length)
    (ht : Tab d L B (.slice base L.length cap) w) (hb : w.ownsRow B2 3 1 vb (nats (basN d)).length (cellsI (nats (basN d)))) (ho : w.ownsRow B3 3 1 (.slice bo L.length co) L.length (cellsI (ordsL d L)))
    (he : w.ownsRow B4 3 1 ve E.length (cellsI E)) :
    Calls Tryz.prog 53 #[.slice base L.length cap, vb, .slice bo L.length co, ve] w fun e w' => e = .returned (.int .i64 (cmbN D (redE E (facN d)) (facN d).length : Nat)) ∧ Below w.heap.size w w' := by
  have hs := Lib.hid (fun k hk => cmP_ex D hL (E := E) hE (k := k) hk)
  have hl : L.length ≤ 1640 := by rw [← hL]; exact clsL_len d
  have h0 := cmbN_zero D (redE E (facN d))
  obtain ⟨F, hF⟩ : ∃ F, cmbN D (redE E (facN d)) = F := ⟨_, rfl⟩
  rw [hF] at hs h0 ⊢
  have hel := Lib.hid (fun (w : World) (ht : Tab d L B (.slice base L.length cap) w) (i k : Nat) (hi : i < L.length) (hk : k < L.length) => (show ∃ G g c, base = some ⟨G, 0, none⟩ ∧ G < w.heap.size ∧ w.cell? ⟨G, i, none⟩ = some (.slice (some ⟨g, 0, none⟩) L.length c) ∧ g < w.heap.size ∧ w.cell? ⟨g, k, none⟩ = some (.int .i64 (mulN d L i k : Nat)) from by
    have h := ht.elem hi hk
    rw [(mulN_eq D hL hi hk).1] at h
    exact h))
  have hs20 : (facN d).length ≤ 20 := by rw [facN_len]; exact inv_len20 D
  have hbl : (nats (basN d)).length = (facN d).length := by rw [nats_len, basN_len]
  obtain ⟨b2, c2, rfl⟩ := own_shape hb
  obtain ⟨b4, c4, rfl⟩ := own_shape he
  have hEl : E.length ≤ (nats (basN d)).length := by omega
  have hEl2 : (nats (basN d)).length ≤ E.length := by omega
  rw [← hbl] at hs hs20 ⊢
  have HB := Lib.hid hb; have HO := Lib.hid ho; have HE := Lib.hid he; have HT := Lib.hid ht
  clear hF hL D hb ho he ht hbl hE
  have hs2 := Lib.hid (fun k h => (show ∃ b N K x P, CmP d L E F k b N K x P from hs.out k h))
  clear hs
  obtain ⟨Bs, hBs⟩ : ∃ Bs, nats (basN d) = Bs := ⟨_, rfl⟩
  have hc : ∀ k b N K x P, CmP d L E F k b N K x P → Bs[k]? = some (b : Int) := fun _ _ _ _ _ _ h => hBs ▸ h.hb
  have Hc := Lib.hid hc
  rw [hBs] at HB hs2 hs20 hEl hEl2 ⊢
  clear hBs hc
  go_enter Tryz.func53, Tryz.ntmps53
  go_wp2
  go_loopw [9, 15] (fun v9 v15 wr => GcSt F Bs.length w v9 v15 wr) (fun _ v15 _ => Bs.length - (intOf v15).toNat)
  case atStart => exact ⟨0, rfl, Nat.zero_le _, by rw [h0]; rfl, Below.refl _ _⟩
  case round =>
    obtain ⟨k, rfl, hk, rfl, hbel⟩ := hrel
    have hz := hbel.size
    by_cases hlt : k < Bs.length
    · obtain ⟨b, N, K, x, P, hp⟩ := hs2.out k hlt
      have hlE : k < E.length := by omega
      obtain ⟨gb, rfl, lb, cb⟩ := own_elemI (own_call hbel HB.out) hlt
      obtain ⟨ge, rfl, le, ce⟩ := own_elemI (own_call hbel HE.out) hlE
      obtain ⟨go, rfl, lo, c0⟩ := own_elemO (own_call hbel HO.out) hp.bl
      have q1 := Hc.out _ _ _ _ _ _ hp
      have q2 := hp.hx
      rw [List.getElem?_eq_getElem hlt] at q1
      rw [List.getElem?_eq_getElem hlE] at q2
      injection q1 with q1
      injection q2 with q2
      rw [q1] at cb
      rw [q2] at ce
      rw [hp.ho hp.bl] at c0
      have hM := Lib.hid (fun w => nuMod_any x N w (by have := hp.n2; omega) (by have := hp.n3; omega))
      rw [hp.hk] at hM
      have hbL := hp.bl
      have hkN := hp.kN
      have hn3 := hp.n3
      have e0 := Lib.hid hp.p0.symm
      have Hp := Lib.hid hp
      clear q1 q2 hp
      rw [e0.out]
      go_wp2
      go_quiet (exact (hM.out _).mono (by rintro e w' ⟨rfl, rfl⟩; exact ⟨rfl, _, rfl⟩))
      have hb5 : Below w.heap.size w (wr.drewN nq) := (by repeat (first | with_reducible exact Below.refl _ _ | with_reducible assumption | with_reducible apply Below.drew | with_reducible apply below_drewN | (with_reducible apply below_setp; (first | omega | (simp <;> omega))) | (with_reducible apply below_allocp; (first | omega | (simp <;> omega))) | (with_reducible refine below_viap (by assumption) ?_ ?_; (first | omega | (simp <;> omega)))))
      generalize wr.drewN nq = w5 at *
      clear hbel cb ce c0 lb le lo hM
      go_wp2
      go_loop [9, 12] (fun v9 v12 => GcIn P K v9 v12) (fun _ v12 => (intOf v12).toNat)
      case atStart => exact ⟨0, by go_num, Nat.zero_le _, rfl⟩
      case round =>
        obtain ⟨j, rfl, hj, rfl⟩ := hrel
        by_cases hjK : j < K
        · obtain ⟨G, g3, c3, rfl, l3, k3, l4, k4⟩ := hel.out w5 (HT.out.call hb5) (P j) b (Hp.out.pl j) hbL
          rw [Hp.out.pm j] at k4
          have l5 := Hp.out.pl j
          have e1 : 0 < (K : Int) - j := by omega
          go_wp2
          go_round
          case rel => exact ⟨j + 1, by go_num, hjK, rfl⟩
          case measure => (first | (simp [intOf]; done) | (simp [intOf]; omega))
        · have e : j = K := by omega
          subst e
          have e1 : (j : Int) - j = 0 := by omega
          rw [e1, Hp.out.pK]
          go_wp2
          go_roundw
          case rel => exact ⟨k + 1, by go_num, hlt, rfl, hb5⟩
          case measure => (first | (simp [intOf]; done) | (simp [intOf]; omega))
    · have e : k = Bs.length := by omega
      subst e
      go_wp2
      go_ret
      exact ⟨rfl, hbel⟩
end

section
open Go.RowKit

/-- The rest of a number after k digits. -/
def rK (N : List Nat) (n k : Nat) : Nat := (N.take k).foldl (· / ·) n
theorem rK_le (N : List Nat) (n : Nat) : ∀ k, rK N n k ≤ n := by
  have : ∀ (M : List Nat) (n : Nat), M.foldl (· / ·) n ≤ n := by
    intro M
    induction M with
    | nil => intro n; exact Nat.le_refl _
    | cons m M ih => intro n; exact Nat.le_trans (ih _) (Nat.div_le_self _ _)
  intro k
  exact this _ _
/-- The row of the digits, the first k done. -/
def dgQ (N : List Nat) (n k q : Nat) : Value := if q < k then .int .i64 (((digL n N).getD q 0 : Nat) : Int) else .int .i64 0
theorem dgQ_next {N : List Nat} {n k : Nat} (h : k < N.length) (q : Nat) : (if q = k then Value.int .i64 ((rK N n k % N[k] : Nat) : Int) else dgQ N n k q) = dgQ N n (k + 1) q := by
  unfold dgQ
  by_cases h1 : q = k
  · subst h1
    rw [if_pos rfl, if_pos (by omega), List.getD_eq_getElem?_getD, List.getElem?_eq_getElem (by rw [digL_len]; exact h), Option.getD_some, digL_get n N q h]
    rfl
  · rw [if_neg h1]
    by_cases h2 : q < k
    · rw [if_pos h2, if_pos (by omega)]
    · rw [if_neg h2, if_neg (by omega)]
theorem tmod_nat {r N : Nat} (_ : 0 < N) : (r : Int).tmod (N : Int) = ((r % N : Nat) : Int) := by rw [Int.tmod_eq_emod_of_nonneg (by omega), Int.natCast_emod]
theorem tdiv_nat {r N : Nat} (_ : 0 < N) : (r : Int).tdiv (N : Int) = ((r / N : Nat) : Int) := by rw [Int.tdiv_eq_ediv_of_nonneg (by omega), Int.natCast_ediv]
/-- The exponents of the element i. -/
noncomputable def lgN (d : Int) (i : Nat) : List Nat := open Classical in if h : Dsc d then logN h i else []
theorem lgN_eq {d : Int} (D : Dsc d) (i : Nat) : lgN d i = logN D i := by unfold lgN; rw [dif_pos D]
def GlSt (n0 : Nat) (w3 : World) (v18 : Value) (wr : World) : Prop := ∃ n : Nat, v18 = .int .i64 n ∧ n ≤ n0 ∧ Below w3.heap.size w3 wr
def GlIn (N : List Nat) (n s : Nat) (wi : World) (v9 v27 : Value) (wr : World) : Prop :=
  ∃ k : Nat, v27 = .int .i64 k ∧ k ≤ s ∧ v9 = .int .i64 (rK N n k : Nat) ∧ Hid (wr.rowIs wi.heap.size 3 s (dgQ N n k)) ∧ wi.heap.size < wr.heap.size ∧ Below wi.heap.size wi wr

set_option maxRecDepth 100000 in
set_option maxHeartbeats 3200000 in
theorem grLog_any (d : Int) (L : List Fm) (B : Nat) (base : Option Addr) (cap i : Nat) (w : World) (D : Dsc d) (hL : clsL d = L) (hi : i < L.length) (ht : Tab d L B (.slice base L.length cap) w) :
    Calls Tryz.prog 26 #[.slice base L.length cap, .int .i64 i] w (RetI (nats (lgN d i)) w) := by
  rw [lgN_eq D]
  have hl : L.length ≤ 1640 := by rw [← hL]; exact clsL_len d
  have hO := Lib.hid (grOrders_any d L B base cap w D hL ht)
  have hBa := Lib.hid (fun (w : World) (ht : Tab d L B (.slice base L.length cap) w) => grBasis_any d L B base cap w D hL ht)
  have hn := facN_ge D
  have hC := Lib.hid (fun (n : Nat) (vb ve : Value) (bo : Option Addr) (co B2 B3 B4 : Nat) (w : World) ht hb ho he => (show Calls Tryz.prog 53 #[.slice base L.length cap, vb, .slice bo L.length co, ve] w fun e w' => e = .returned (.int .i64 (cmbN D (digL n (facN d)) (facN d).length : Nat)) ∧ Below w.heap.size w w' from by
    have h := grCombine_any d L B base cap vb ve bo co B2 B3 B4 (nats (digL n (facN d))) w D hL (by rw [nats_len, digL_len]) ht hb ho he
    rwa [redE_nats (digL_small n _ (fun m hm => by have := hn m hm; omega))] at h))
  have hU := Lib.hid (fun n (h : cmbN D (digL n (facN d)) (facN d).length = i) => (show digL n (facN d) = logN D i from logN_uniq D (digL_small n _ (fun m hm => by have := hn m hm; omega)) h))
  obtain ⟨n0, hn0, he0⟩ := digL_ex (logN_small D i)
  have hV := Lib.hid (fun n (h : cmbN D (digL n (facN d)) (facN d).length ≠ i) => (show n ≠ n0 from fun e => h (by rw [e, he0]; exact logN_cmb D (by rw [hL]; exact hi))))
  have hn1 : n0 < L.length := by
    have := facN_prod D
    rw [hL] at this
    rw [← this]; exact hn0
  have hbl : (nats (basN d)).length = (facN d).length := by rw [nats_len, basN_len]
  have hs20 : (nats (basN d)).length ≤ 20 := by rw [hbl, facN_len]; exact inv_len20 D
  have hK := Lib.hid (fun k (hk : k < (nats (basN d)).length) => (show ∃ (b N : Nat) (h : b < L.length), (nats (basN d))[k] = (b : Int) ∧ ordF d L[b] = N ∧ 2 ≤ N ∧ N ≤ 1640 ∧ (∀ n, rK (facN d) n (k + 1) = rK (facN d) n k / N) ∧ ∀ n q, (if q = k then Value.int .i64 ((rK (facN d) n k % N : Nat) : Int) else dgQ (facN d) n k q) = dgQ (facN d) n (k + 1) q from by
    subst hL
    have hk2 : k < (basN d).length := by rw [nats_len] at hk; exact hk
    have hk3 : k < (facN d).length := by omega
    have hlt := basN_lt D _ (List.getElem_mem hk2)
    have hn := facN_ge D _ (List.getElem_mem hk3)
    exact ⟨(basN d)[k], (facN d)[k], hlt, (nats_get _ hk2).2, bas_ord D hk2 hk3 hlt, hn.1, hn.2, fun n => rest_step hk3, fun n q => dgQ_next hk3 q⟩))
  have hdl := Lib.hid (fun n => (show (nats (digL n (facN d))).length = (nats (basN d)).length from by rw [nats_len, digL_len, hbl]))
  have hq0 := Lib.hid (fun n q => (show Value.int .i64 0 = dgQ (facN d) n 0 q from by unfold dgQ; rw [if_neg (by omega)]))
  have hfull := Lib.hid (fun n q (hq : q < (nats (basN d)).length) => (show (cellsI (nats (digL n (facN d))))[q]? = some (dgQ (facN d) n (nats (basN d)).length q) from by
    unfold dgQ
    rw [if_pos hq]
    have : q < (digL n (facN d)).length := by rw [digL_len]; omega
    unfold cellsI nats
    simp [List.getD_eq_getElem?_getD, this]))
  have hr0 := Lib.hid (fun n => (show rK (facN d) n 0 = n from rfl))
  have hrl := Lib.hid (fun n k => rK_le (facN d) n k)
  have HT := Lib.hid ht
  generalize hG : (fun n => cmbN D (digL n (facN d)) (facN d).length) = Gn at *
  have HC := Lib.hid (fun (n : Nat) (vb ve : Value) (bo : Option Addr) (co B2 B3 B4 : Nat) (w : World) ht hb ho he => (show Calls Tryz.prog 53 #[.slice base L.length cap, vb, .slice bo L.length co, ve] w fun e w' => e = .returned (.int .i64 (Gn n : Nat)) ∧ Below w.heap.size w w' from by
    have h := hC.out n vb ve bo co B2 B3 B4 w ht hb ho he
    rw [← hG]; exact h))
  have HU := Lib.hid (fun n (h : Gn n = i) => hU.out n (by rw [← hG] at h; exact h))
  have HV := Lib.hid (fun n (h : Gn n ≠ i) => hV.out n (by rw [← hG] at h; exact h))
  have hGl := Lib.hid (fun n => (show Gn n ≤ 1640 from by rw [← hG]; have := cmbN_lt D (digL n (facN d)) (facN d).length; rw [hL] at this; show cmbN D _ _ ≤ _; omega))
  generalize logN D i = T at *
  clear hC hU hV hG hbl hn hn0 he0
  have hmk := run_make_row' (P := Tryz.prog) 28 3 (.int .i64 0) 8 Tryz.underlying28 infoInt rfl .i64 .i64 (nats (basN d)).length (by omega) (by omega)
  generalize facN d = NN at *
  generalize nats (basN d) = Bs at *
  clear D hL ht
  go_enter Tryz.func26, Tryz.ntmps26
  go_wp2_with (first
    | (go_at_call 51; refine hO.out.mono ?_; rintro e w1 ⟨vo, rfl, hoo, hb1⟩; rw [ordsL_len] at hoo; obtain ⟨bo, co, rfl⟩ := own_shape hoo; have hz1 := hb1.size)
    | (go_at_call 52; refine (hBa.out _ (HT.out.call hb1)).mono ?_; rintro e w3 ⟨vb, rfl, hob, hb3⟩; obtain ⟨bb, cb, rfl⟩ := own_shape hob; have hz3 := hb3.size))
  have HO := Lib.hid (own_call hb3 hoo)
  have HB := Lib.hid hob
  have hb13 : Below w.heap.size w w3 := below_via hb1 hb3 hz1
  clear hoo hob hb1 hb3
  go_loopw [18] (fun v18 wr => GlSt n0 w3 v18 wr) (fun v18 _ => L.length - (intOf v18).toNat)
  case atStart => exact ⟨0, rfl, Nat.zero_le _, Below.refl _ _⟩
  case round =>
    obtain ⟨n, rfl, hnn, hbel⟩ := hrel
    have hz := hbel.size
    have hnl : n < L.length := by omega
    go_wp2
    obtain ⟨wo, rfl⟩ : ∃ wo : World, wo = wr := ⟨_, rfl⟩
    go_loopw [9, 27] (fun v9 v27 wr => GlIn NN n Bs.length wo v9 v27 wr) (fun _ v27 _ => Bs.length - (intOf v27).toNat)
    case atStart => exact ⟨0, rfl, Nat.zero_le _, by rw [hr0.out], Lib.hid ((World.rowIs_made wo _ _ _).congr (fun j _ => hq0.out n j)), by simp, (by repeat (first | with_reducible exact Below.refl _ _ | with_reducible assumption | with_reducible apply Below.drew | with_reducible apply below_drewN | (with_reducible apply below_setp; (first | omega | (simp <;> omega))) | (with_reducible apply below_allocp; (first | omega | (simp <;> omega))) | (with_reducible refine below_viap (by assumption) ?_ ?_; (first | omega | (simp <;> omega)))))⟩
    case round =>
      obtain ⟨k, rfl, hk, rfl, hR, hlt0, hbi⟩ := hrel
      have hzi := hbi.size
      have hb3r : Below w3.heap.size w3 wr := below_via hbel hbi (by omega)
      by_cases hkl : k < Bs.length
      · obtain ⟨b, N, hbL, b1, o1, n2, n3, r1, q1⟩ := hK.out k hkl
        obtain ⟨gb, rfl, lb, cb0⟩ := own_elemI HB.out hkl
        obtain ⟨go, rfl, lo, c0⟩ := own_elemO HO.out hbL
        rw [b1] at cb0
        rw [o1] at c0
        have cb1 := (hb3r.cell (p := ⟨gb, k, none⟩) lb).trans cb0
        have c1 := (hb3r.cell (p := ⟨go, b, none⟩) lo).trans c0
        have ne1 : ¬ go = wo.heap.size := by omega
        have ne2 : ¬ wo.heap.size = go := by omega
        have lb2 : gb < wr.heap.size := by omega
        have lo2 : go < wr.heap.size := by omega
        clear cb0 c0
        have Hr1 := Lib.hid (r1 n)
        have Hq1 := Lib.hid (q1 n)
        have hrn := hrl.out n k
        generalize rK NN n k = r at *
        have t1 := tmod_nat (r := r) (N := N) (by omega)
        have t2 := tdiv_nat (r := r) (N := N) (by omega)
        have t3 : wrap64 ((r : Int) / (N : Int)) = (r : Int) / (N : Int) := by
          have h1 : r / N ≤ r := Nat.div_le_self _ _
          have e : (r : Int) / (N : Int) = ((r / N : Nat) : Int) := by simp
          rw [e]
          revert h1
          generalize r / N = qq
          intro h1
          exact IntWalk.wrap64_in _ (by omega)
        have cR := hR.out.cell hkl
        have fR := hR.out.frozen k
        generalize dgQ NN n k k = y at cR
        clear b1 o1 r1 q1
        go_wp2
        go_roundw
        case rel => exact ⟨k + 1, by go_num, hkl, by rw [Hr1.out]; (first | rfl | (simp; done) | (simp; exact t3)), Lib.hid ((hR.out.set k _).congr (fun j _ => Hq1.out j)), by simp; omega, (by repeat (first | with_reducible exact Below.refl _ _ | with_reducible assumption | with_reducible apply Below.drew | with_reducible apply below_drewN | (with_reducible apply below_setp; (first | omega | (simp <;> omega))) | (with_reducible apply below_allocp; (first | omega | (simp <;> omega))) | (with_reducible refine below_viap (by assumption) ?_ ?_; (first | omega | (simp <;> omega)))))⟩
        case measure => (first | (simp [intOf]; done) | (simp [intOf]; omega))
      · have e : k = Bs.length := by omega
        subst e
        have hown := rowIs_own (xs := cellsI (nats (digL n NN))) (B := wo.heap.size) hR.out (by rw [cellsI_len, hdl.out]) (hfull.out n) (by omega) (by unfold maxLen; omega)
        have HE := Lib.hid (show wr.ownsRow wo.heap.size 3 1 _ (nats (digL n NN)).length (cellsI (nats (digL n NN))) from by rw [hdl.out]; exact hown)
        have hb0r : Below w.heap.size w wr := below_via hb13 hb3r (by omega)
        have hCn := Lib.hid (HC.out n _ _ _ _ _ _ _ wr (HT.out.call hb0r) (own_call hb3r HB.out) (own_call hb3r HO.out) HE.out)
        have hgl := hGl.out n
        by_cases hgi : Gn n = i
        · have hT := HU.out n hgi
          rw [hT] at HE
          rw [hgi] at hCn
          clear hown hR
          go_wp2_with (go_at_call 53; refine hCn.out.mono ?_; rintro e w5 ⟨rfl, hb5⟩; have hz5 := hb5.size)
          go_ret
          exact ⟨_, rfl, own_base (by omega) (own_call hb5 HE.out), below_via hb0r hb5 (by omega)⟩
        · have hne := HV.out n hgi
          have hgb : (((Gn n : Nat) : Int) == (i : Int)) = false := by rw [beq_eq_false_iff_ne]; omega
          generalize Gn n = gg at *
          clear hown hR
          go_wp2_with (go_at_call 53; refine hCn.out.mono ?_; rintro e w5 ⟨rfl, hb5⟩; have hz5 := hb5.size)
          go_roundw
          case rel => exact ⟨n + 1, by go_num, by omega, below_via hb3r hb5 (by omega)⟩
          case measure => (first | (simp [intOf]; done) | (simp [intOf]; omega))
end
end Go.Proofs.YtkkamlhpappebaaGreat
