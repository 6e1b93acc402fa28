/- Parts BH BI BJ laid together by tp.py. -/
import Derived.Test.YtkkamlhpappebaaGreatSZ
import Derived.Test.YtkkamlhpappebaaGreatBB
import Derived.Test.YtkkamlhpappebaaGreatSI
import Derived.Test.YtkkamlhpappebaaGreatKX
import Derived.Deep.LoopGhost
import Derived.BigQuiet
namespace Go.Proofs.YtkkamlhpappebaaGreat
section
open Go.RowKit Go.Maps

theorem Ab.Small.get {e N : List Nat} (h : Ab.Small e N) : ∀ (k : Nat) (h1 : k < e.length) (h2 : k < N.length), e[k] < N[k] := by
  induction h with
  | nil => intro k h1; simp at h1
  | cons ha _ ih =>
    intro k h1 h2
    cases k with
    | zero => exact ha
    | succ k => exact ih k (by simpa using h1) (by simpa using h2)
theorem Ab.Small.set {e N : List Nat} (h : Ab.Small e N) : ∀ (k x : Nat) (h2 : k < N.length), x < N[k] → Ab.Small (e.set k x) N := by
  induction h with
  | nil => intro k x h2; simp at h2
  | cons ha hs ih =>
    intro k x h2 hx
    cases k with
    | zero => exact .cons hx hs
    | succ k => exact .cons ha (ih k x (by simpa using h2) hx)
theorem small_zero : ∀ {N : List Nat}, (∀ n ∈ N, 2 ≤ n ∧ n ≤ 1640) → Ab.Small (List.replicate N.length 0) N
  | [], _ => .nil
  | n :: N, h => .cons (by have := h n (by simp); omega) (small_zero fun m hm => h m (by simp [hm]))
theorem valM_zero : ∀ N : List Nat, valM (List.replicate N.length 0) N = 0
  | [] => rfl
  | n :: N => by
    show 0 * prodN N + valM (List.replicate N.length 0) N = 0
    rw [valM_zero N]; omega
/-- A step of the composite: the power of the basis' member stands in the list of its powers. -/
structure PwP (d : Int) (L : List Fm) (F : Nat → Nat) (k b N K q : Nat) (X : List Int) : Prop where
  bl : b < L.length
  hb : (nats (basN d))[k]? = some (b : Int)
  hf : (nats (facN d))[k]? = some (N : Int)
  n2 : 2 ≤ N
  n3 : N ≤ 1640
  kN : K < N
  xl : X.length = N
  xq : X[K]? = some (q : Int)
  ql : q < L.length
  fl : F k < L.length
  nx : mulN d L (F k) q = F (k + 1)
  pw : ∀ (B G : Nat) (w : World), Grp L B G w → Calls Tryz.prog 23 #[.pointer (some ⟨G, 0, none⟩), .int .i64 b] w (RetI X w)
theorem pwP_ex {d : Int} (D : Dsc d) {L : List Fm} (hL : clsL d = L) {e : List Nat} (he : Ab.Small e (facN d)) {k : Nat} (hk : k < (facN d).length) :
    ∃ b N q X, ∃ h : k < e.length, PwP d L (cmbN D e) k b N e[k] q X := by
  have hel : k < e.length := by rw [he.len]; exact hk
  obtain ⟨K, hK⟩ : ∃ K, e[k]'hel = K := ⟨_, rfl⟩
  obtain ⟨N, hN⟩ : ∃ N, (facN d)[k]'hk = N := ⟨_, rfl⟩
  have hkN : K < N := by have := he.get k hel hk; rw [hK, hN] at this; exact this
  have hn : 2 ≤ N ∧ N ≤ 1640 := by rw [← hN]; exact facN_ge D _ (List.getElem_mem hk)
  obtain ⟨b, hb, hbl, e1⟩ : ∃ b, ∃ hb : k < (basN d).length, b < (clsL d).length ∧ (basN d)[k]'hb = b := by
    have hb : k < (basN d).length := by rw [basN_len]; exact hk
    exact ⟨_, hb, basN_lt D _ (List.getElem_mem hb), rfl⟩
  have ho : ordF d ((clsL d)[b]'hbl) = N := by
    subst e1
    rw [← hN]; exact bas_ord D hb hk hbl
  obtain ⟨f, hf⟩ : ∃ f, (clsL d)[b]'hbl = f := ⟨_, rfl⟩
  have hm : f ∈ clsL d := by rw [← hf]; exact List.getElem_mem hbl
  rw [hf] at ho
  obtain ⟨a1, a2⟩ := D.ordm hm
  rw [ho] at a1 a2
  have hgb := gix_bd (D.pwm hm K)
  obtain ⟨q, hq⟩ : ∃ q : Nat, gix (clsL d) (Go.Proofs.YtkkamlhpappebaaGreat.pw d f K) = q := ⟨_, (Int.toNat_of_nonneg hgb.1).symm⟩
  obtain ⟨h1, h2⟩ := gix_elem (D.pwm hm K) hq
  have hel2 : elN D q = (clG D).pw (elN D b) K := by
    apply Subtype.ext
    rw [elN_val D h1, h2, clG_pw, elN_val D hbl, hf]
  have hnx : mulN d (clsL d) (cmbN D e k) q = cmbN D e (k + 1) := cmbN_next D hb hel h1 (by rw [hel2, e1, hK])
  have e2 : (nats (basN d))[k]? = some (b : Int) := by unfold nats; rw [List.getElem?_map, List.getElem?_eq_getElem hb, e1]; rfl
  have e3 : (nats (facN d))[k]? = some (N : Int) := by unfold nats; rw [List.getElem?_map, List.getElem?_eq_getElem hk, hN]; rfl
  have e5 := pwI_len d (clsL d) f N
  have e6 : (pwI d (clsL d) f N)[K]? = some (q : Int) := by
    unfold pwI
    rw [List.getElem?_map, List.getElem?_range hkN, Option.map_some, hq]
  have e4 : ∀ (B G : Nat) (w : World), Grp (clsL d) B G w → Calls Tryz.prog 23 #[.pointer (some ⟨G, 0, none⟩), .int .i64 (b : Nat)] w (RetI (pwI d (clsL d) f N) w) := fun B G w hg => by
    have h := gpowers_any d b N (clsL d) B G w D rfl hbl (by rw [hf]; exact a1) a2 hg
    rwa [hf] at h
  have e7 := cmbN_lt D e k
  subst hL
  generalize pwI d (clsL d) f N = X at *
  exact ⟨b, N, q, X, hel, { bl := hbl, hb := e2, hf := e3, n2 := hn.1, n3 := hn.2, kN := by rw [hK]; exact hkN, xl := e5, xq := by rw [hK]; exact e6, ql := h1, fl := e7, nx := hnx, pw := e4 }⟩
/-- The row of exponents. -/
def eQ (e : List Nat) (q : Nat) : Value := .int .i64 ((e.getD q 0 : Nat) : Int)
theorem eQ_at {e : List Nat} {k : Nat} (h : k < e.length) : eQ e k = .int .i64 ((e[k] : Nat) : Int) := by
  unfold eQ; rw [List.getD_eq_getElem?_getD, List.getElem?_eq_getElem h]; rfl
theorem eQ_set {e : List Nat} {k y : Nat} (h : k < e.length) (q : Nat) : (if q = k then Value.int .i64 ((y : Nat) : Int) else eQ e q) = eQ (e.set k y) q := by
  unfold eQ
  rw [List.getD_eq_getElem?_getD, List.getD_eq_getElem?_getD, List.getElem?_set]
  by_cases h1 : q = k
  · subst h1; rw [if_pos rfl, if_pos rfl, if_pos h]; rfl
  · rw [if_neg h1, if_neg (fun e => h1 e.symm)]
theorem eQ_own (e : List Nat) (q : Nat) (h : q < e.length) : (cellsI (nats e))[q]? = some (eQ e q) := by
  rw [eQ_at h]
  unfold cellsI nats
  simp [h]
/-- The state of the outer loop. -/
def ClgSt (NN T : List Nat) (s : Nat) (w5 : World) (kg : Nat) (wr : World) : Prop :=
  ∃ e, Hid (Ab.Small e NN) ∧ Hid (valM e NN + kg = valM T NN) ∧ Hid (wr.rowIs w5.heap.size 3 s (eQ e)) ∧ w5.heap.size < wr.heap.size ∧ Below w5.heap.size w5 wr
/-- The state of the loop of the composite. -/
def ClgIn (F : Nat → Nat) (s : Nat) (wi : World) (v9 v37 : Value) (wr : World) : Prop :=
  ∃ k : Nat, v37 = .int .i64 k ∧ k ≤ s ∧ v9 = .int .i64 (F k : Nat) ∧ Below wi.heap.size wi wr
/-- The state of the loop that counts on. -/
def ClgUp (NN e : List Nat) (s : Nat) (w5 : World) (v12 : Value) (wr : World) : Prop :=
  ∃ (k : Nat) (e2 : List Nat), v12 = .int .i64 k ∧ k < s ∧ Hid (Ab.Small e2 NN) ∧ Hid (valM e2 NN + prodN (NN.drop (k + 1)) = valM e NN + 1) ∧ Hid (wr.rowIs w5.heap.size 3 s (eQ e2)) ∧ w5.heap.size < wr.heap.size ∧ Below w5.heap.size w5 wr
end

section
open Go.RowKit Go.Maps

/-- What ClassLogarithm gives. -/
def LgL (a b c : Int) (L : List Int) (ok : Bool) : Prop :=
  (isCls a b c = false ∧ L = [] ∧ ok = false) ∨ (isCls a b c = true ∧ L = nats (lgN (disc ⟨a, b, c⟩) (gix (clsL (disc ⟨a, b, c⟩)) (red ⟨a, b, c⟩)).toNat) ∧ ok = true)
theorem lgL_ex (a b c : Int) : ∃ L ok, LgL a b c L ok ∧ L.length ≤ 100000 := by
  cases hc : isCls a b c with
  | false => exact ⟨_, _, .inl ⟨hc, rfl, rfl⟩, by simp⟩
  | true =>
    refine ⟨_, _, .inr ⟨hc, rfl, rfl⟩, ?_⟩
    have D := (CF.of_cls hc).D
    rw [nats_len, lgN_eq D, logN_len, facN_len]
    exact Nat.le_trans (inv_len20 D) (by decide)

set_option maxRecDepth 100000 in
set_option maxHeartbeats 3200000 in
theorem specLg_any (a b c : Int) (R : List Int) (ok : Bool) (w : World) (h : LgL a b c R ok) :
    Calls Tryz.prog 7 #[.agg #[.int .i64 a, .int .i64 b, .int .i64 c]] w (RetIb R ok w) := by
  rcases h with ⟨hc, rfl, rfl⟩ | ⟨hc, rfl, rfl⟩
  · go_enter Tryz.func7, Tryz.ntmps7
    go_wp2_with (go_at_call 24; (with_reducible refine (scls_any a b c _).mono ?_); rw [hc]; rintro e v1 ⟨rfl, hB1⟩; have hZ1 := hB1.size; (try simp at hZ1); (try have zl1 : w.heap.size < v1.heap.size := by omega); (try have ze1 : w.heap.size ≤ v1.heap.size := by omega); (try have zn1 : ¬ w.heap.size = v1.heap.size := by omega); (try have zm1 : ¬ v1.heap.size = w.heap.size := by omega); have hC1_0 := fun o => (calm_cells hB1).1 (w.heap.size) o (by first | omega | (simp <;> omega)); have hF1_0 := fun o => (calm_cells hB1).2 (w.heap.size) o (by first | omega | (simp <;> omega)); (try have hl1_0 : w.heap.size < v1.heap.size := by omega); (try have hm1_0 : ¬ w.heap.size = v1.heap.size := by omega); (try have hn1_0 : ¬ v1.heap.size = w.heap.size := by omega))
    go_ret2
    exact ⟨_, rfl, World.ownsRow_nil _ _ _ _, (by repeat (first | with_reducible exact Below.refl _ _ | with_reducible assumption | with_reducible apply Below.drew | with_reducible apply below_drewN | (with_reducible apply below_setp; (first | omega | (simp <;> omega))) | (with_reducible apply below_allocp; (first | omega | (simp <;> omega))) | (with_reducible refine below_viap (by assumption) ?_ ?_; (first | omega | (simp <;> omega)))))⟩
  · have cf := CF.of_cls hc
    obtain ⟨r, hr⟩ : ∃ r, red ⟨a, b, c⟩ = r := ⟨_, rfl⟩
    obtain ⟨d, hd⟩ : ∃ d, disc ⟨a, b, c⟩ = d := ⟨_, rfl⟩
    rw [hr, hd] at cf
    rw [hr, hd]
    have D := cf.D
    have hR := Lib.hid (fun w => reClass_cf d ⟨a, b, c⟩ r w cf)
    have hDc := Lib.hid (fun w => foDisc_cf d ⟨a, b, c⟩ r w cf)
    have hT := Lib.hid (fun w => grTable_any d w D)
    have hRe := Lib.hid (fun w => reList_any d w D.lo D.hi)
    obtain ⟨L, hL⟩ : ∃ L, clsL d = L := ⟨_, rfl⟩
    have hl : L.length ≤ 100000 := by rw [← hL]; exact Nat.le_trans (clsL_len d) (by decide)
    have hm := cf.mem
    rw [hL] at hT hRe hm ⊢
    obtain ⟨n, hn, hnr, hng⟩ := gix_mem hm
    have hLo := Lib.hid (fun (B : Nat) (base : Option Addr) (cap : Nat) (w : World) ht => grLog_any d L B base cap n w D hL hn ht)
    have hGi := Lib.hid (fun (v : Value) (B : Nat) (w : World) h => (show Calls Tryz.prog 28 #[v, .agg #[.int .i64 r.a, .int .i64 r.b, .int .i64 r.c]] w (fun e w' => e = .returned (.int .i64 (n : Int)) ∧ Below w.heap.size w w') from by
      have h := grIndex_any v B L r w hl h
      rwa [hng] at h))
    rw [hng, Int.toNat_natCast]
    generalize lgN d n = T at *
    clear hr hd hL cf D hm hnr hng
    go_enter Tryz.func7, Tryz.ntmps7
    go_wp2_with (first
      | (go_at_call 24; (with_reducible refine (scls_any a b c _).mono ?_); rw [hc]; rintro e v1 ⟨rfl, hB1⟩; have hZ1 := hB1.size; (try simp at hZ1); (try have zl1 : w.heap.size < v1.heap.size := by omega); (try have ze1 : w.heap.size ≤ v1.heap.size := by omega); (try have zn1 : ¬ w.heap.size = v1.heap.size := by omega); (try have zm1 : ¬ v1.heap.size = w.heap.size := by omega); have hA1 : Blk v1 (w.heap.size) 25 #[.int .i64 a, .int .i64 b, .int .i64 c] := Blk.call (by (repeat (first | with_reducible assumption | (with_reducible apply Blk.new_at; (first | rfl | (simp; done))) | with_reducible apply Blk.store3 | with_reducible apply Blk.store4 | (with_reducible apply Blk.farp; (first | omega | (simp <;> omega))) | with_reducible apply Blk.allocp | with_reducible apply Blk.drew | with_reducible apply Blk.drewN))) hB1; have cA1 := hA1.cell; have fA1 := hA1.frozen; have lA1 := hA1.lt; have mA1 := Nat.ne_of_gt lA1; have nA1 := Nat.ne_of_lt lA1)
      | (go_at_call 25; (with_reducible refine (hDc.out _).mono ?_); rintro e v2 ⟨rfl, hB2⟩; have hZ2 := hB2.size; (try simp at hZ2); (try have zl2 : w.heap.size < v2.heap.size := by omega); (try have ze2 : w.heap.size ≤ v2.heap.size := by omega); (try have zn2 : ¬ w.heap.size = v2.heap.size := by omega); (try have zm2 : ¬ v2.heap.size = w.heap.size := by omega); have hA2 : Blk v2 (w.heap.size) 25 #[.int .i64 a, .int .i64 b, .int .i64 c] := Blk.call (by (repeat (first | with_reducible assumption | (with_reducible apply Blk.new_at; (first | rfl | (simp; done))) | with_reducible apply Blk.store3 | with_reducible apply Blk.store4 | (with_reducible apply Blk.farp; (first | omega | (simp <;> omega))) | with_reducible apply Blk.allocp | with_reducible apply Blk.drew | with_reducible apply Blk.drewN))) hB2; have cA2 := hA2.cell; have fA2 := hA2.frozen; have lA2 := hA2.lt; have mA2 := Nat.ne_of_gt lA2; have nA2 := Nat.ne_of_lt lA2))
    go_region_with (first
      | (go_at_call 27; refine (hT.out _).mono ?_; rintro e v3 ⟨base, cap, rfl, ht3, hB3⟩; have hZ3 := hB3.size; (try simp at hZ3); have hA3 : Blk v3 w.heap.size 25 #[.int .i64 a, .int .i64 b, .int .i64 c] := Blk.call (by (repeat (first | with_reducible assumption | (with_reducible apply Blk.new_at; (first | rfl | (simp; done))) | with_reducible apply Blk.store3 | with_reducible apply Blk.store4 | (with_reducible apply Blk.farp; (first | omega | (simp <;> omega))) | with_reducible apply Blk.allocp | with_reducible apply Blk.drew | with_reducible apply Blk.drewN))) hB3; have cA3 := hA3.cell; have fA3 := hA3.frozen; have lA3 := hA3.lt)
      | (go_at_call 29; refine (hRe.out _).mono ?_; rintro e v4 ⟨vl, rfl, howl, hB4⟩; have hZ4 := hB4.size; have hA4 : Blk v4 w.heap.size 25 #[.int .i64 a, .int .i64 b, .int .i64 c] := Blk.call (by (repeat (first | with_reducible assumption | (with_reducible apply Blk.new_at; (first | rfl | (simp; done))) | with_reducible apply Blk.store3 | with_reducible apply Blk.store4 | (with_reducible apply Blk.farp; (first | omega | (simp <;> omega))) | with_reducible apply Blk.allocp | with_reducible apply Blk.drew | with_reducible apply Blk.drewN))) hB4; have cA4 := hA4.cell; have fA4 := hA4.frozen; have lA4 := hA4.lt; have ht4 := ht3.call hB4)
      | (go_at_call 30; (with_reducible refine (hR.out _).mono ?_); rintro e v5 ⟨rfl, hB5⟩; have hZ5 := hB5.size; (try simp at hZ5); (try have zl5 : w.heap.size < v5.heap.size := by omega); (try have ze5 : w.heap.size ≤ v5.heap.size := by omega); (try have zn5 : ¬ w.heap.size = v5.heap.size := by omega); (try have zm5 : ¬ v5.heap.size = w.heap.size := by omega); have hA5 : Blk v5 (w.heap.size) 25 #[.int .i64 a, .int .i64 b, .int .i64 c] := Blk.call (by (repeat (first | with_reducible assumption | (with_reducible apply Blk.new_at; (first | rfl | (simp; done))) | with_reducible apply Blk.store3 | with_reducible apply Blk.store4 | (with_reducible apply Blk.farp; (first | omega | (simp <;> omega))) | with_reducible apply Blk.allocp | with_reducible apply Blk.drew | with_reducible apply Blk.drewN))) hB5; have cA5 := hA5.cell; have fA5 := hA5.frozen; have lA5 := hA5.lt; have mA5 := Nat.ne_of_gt lA5; have nA5 := Nat.ne_of_lt lA5)
      | (go_at_call 28; refine (hGi.out _ _ _ (own_call hB5 howl)).mono ?_; rintro e v6 ⟨rfl, hB6⟩; have hZ6 := hB6.size)
      | (go_at_call 26; refine (hLo.out _ _ _ _ ((ht4.call hB5).call hB6)).mono ?_; rintro e v7 ⟨vr, rfl, hor, hB7⟩; have hZ7 := hB7.size))
    all_goals (go_wp2; go_ret2; exact ⟨_, rfl, own_base (by omega) hor, (by repeat (first | with_reducible exact Below.refl _ _ | with_reducible assumption | with_reducible apply Below.drew | with_reducible apply below_drewN | (with_reducible apply below_setp; (first | omega | (simp <;> omega))) | (with_reducible apply below_allocp; (first | omega | (simp <;> omega))) | (with_reducible refine below_viap (by assumption) ?_ ?_; (first | omega | (simp <;> omega)))))⟩)
end

section
open Go.RowKit Go.Maps

set_option maxRecDepth 100000 in
set_option maxHeartbeats 6400000 in
theorem implLg_any (a b c : Int) (R : List Int) (ok : Bool) (w : World) (h : LgL a b c R ok) :
    Calls Tryz.prog 6 #[.agg #[.int .i64 a, .int .i64 b, .int .i64 c]] w (RetIb R ok w) := by
  rcases h with ⟨hc, rfl, rfl⟩ | ⟨hc, rfl, rfl⟩
  · go_enter Tryz.func6, Tryz.ntmps6
    go_wp2_with (go_at_call 17; (with_reducible refine (icls_any a b c _).mono ?_); rw [hc]; rintro e v1 ⟨rfl, hB1⟩; have hZ1 := hB1.size; (try simp at hZ1); (try have zl1 : w.heap.size < v1.heap.size := by omega); (try have ze1 : w.heap.size ≤ v1.heap.size := by omega); (try have zn1 : ¬ w.heap.size = v1.heap.size := by omega); (try have zm1 : ¬ v1.heap.size = w.heap.size := by omega); have hC1_0 := fun o => (calm_cells hB1).1 (w.heap.size) o (by first | omega | (simp <;> omega)); have hF1_0 := fun o => (calm_cells hB1).2 (w.heap.size) o (by first | omega | (simp <;> omega)); (try have hl1_0 : w.heap.size < v1.heap.size := by omega); (try have hm1_0 : ¬ w.heap.size = v1.heap.size := by omega); (try have hn1_0 : ¬ v1.heap.size = w.heap.size := by omega))
    go_ret2
    exact ⟨_, rfl, own_empty (by omega), (by repeat (first | with_reducible exact Below.refl _ _ | with_reducible assumption | with_reducible apply Below.drew | with_reducible apply below_drewN | (with_reducible apply below_setp; (first | omega | (simp <;> omega))) | (with_reducible apply below_allocp; (first | omega | (simp <;> omega))) | (with_reducible refine below_viap (by assumption) ?_ ?_; (first | omega | (simp <;> omega)))))⟩
  · have cf := CF.of_cls hc
    obtain ⟨r, hr⟩ : ∃ r, red ⟨a, b, c⟩ = r := ⟨_, rfl⟩
    obtain ⟨d, hd⟩ : ∃ d, disc ⟨a, b, c⟩ = d := ⟨_, rfl⟩
    rw [hr, hd] at cf
    rw [hr, hd]
    have D := cf.D
    have hRd := Lib.hid (fun w => reduced_cf d ⟨a, b, c⟩ r w cf)
    have hDc := Lib.hid (fun w => disc_cf d ⟨a, b, c⟩ r w cf)
    have hG := Lib.hid (fun w => groupOf_any d w D)
    obtain ⟨L, hL⟩ : ∃ L, clsL d = L := ⟨_, rfl⟩
    have hl : L.length ≤ 1640 := by rw [← hL]; exact clsL_len d
    have hm := cf.mem
    have hW := cls_wf D.lo hm
    rw [hL] at hG hm ⊢
    obtain ⟨n, hn, hnr, hng⟩ := gix_mem hm
    have hB := (fun (B G : Nat) (w : World) (hg : Grp L B G w) => gbasis_any d L B G w D hL hg)
    unfold RetBs at hB
    rw [hng, Int.toNat_natCast, lgN_eq D]
    have hPw := Lib.hid (fun e (he : Ab.Small e (facN d)) k (hk : k < (facN d).length) => pwP_ex D hL he hk)
    have hTm := Lib.hid (fun (i k B G : Nat) (w : World) hi hk hg => gtimes_n d i k L B G w D hL hi hk hg)
    have hU := Lib.hid (fun e (he : Ab.Small e (facN d)) (h : cmbN D e (facN d).length = n) => (show e = logN D n from logN_uniq D he h))
    have hV := Lib.hid (fun e (h : cmbN D e (facN d).length ≠ n) => (show e ≠ logN D n from fun x => h (by rw [x]; exact logN_cmb D (by rw [hL]; exact hn))))
    have hC0 := Lib.hid (fun e => cmbN_zero D e)
    have hTs := logN_small D n
    have hNN := facN_ge D
    have hbl : (nats (basN d)).length = (facN d).length := by rw [nats_len, basN_len]
    have hs20 : (facN d).length ≤ 20 := by rw [facN_len]; exact inv_len20 D
    have hcl := Lib.hid (fun e k => (show cmbN D e k < L.length from by rw [← hL]; exact cmbN_lt D e k))
    generalize cmbN D = F at *
    generalize logN D n = T at *
    have HTs := Lib.hid hTs
    have HNN := Lib.hid hNN
    have Hnr := Lib.hid hnr
    have Hbl := Lib.hid hbl
    have hFl : (nats (facN d)).length = (facN d).length := nats_len _
    have hF20 : (nats (facN d)).length ≤ 20 := by omega
    have hmk := run_make_row' (P := Tryz.prog) 28 3 (.int .i64 0) 8 Tryz.underlying28 infoInt rfl .i64 .i64 (nats (facN d)).length (by omega) (by omega)
    have Hfl := Lib.hid hFl
    have HB := Lib.hid hB
    clear hr hd hL cf D hm hnr hng hTs hNN hB hbl hFl
    go_enter Tryz.func6, Tryz.ntmps6
    go_upto_region 6 with (first
      | (go_at_call 17; (with_reducible refine (icls_any a b c _).mono ?_); rw [hc]; rintro e v1 ⟨rfl, hB1⟩; have hZ1 := hB1.size; (try simp at hZ1); (try have zl1 : w.heap.size < v1.heap.size := by omega); (try have ze1 : w.heap.size ≤ v1.heap.size := by omega); (try have zn1 : ¬ w.heap.size = v1.heap.size := by omega); (try have zm1 : ¬ v1.heap.size = w.heap.size := by omega); have hA1 : Blk v1 (w.heap.size) 25 #[.int .i64 a, .int .i64 b, .int .i64 c] := Blk.call (by (repeat (first | with_reducible assumption | (with_reducible apply Blk.new_at; (first | rfl | (simp; done))) | with_reducible apply Blk.store3 | with_reducible apply Blk.store4 | (with_reducible apply Blk.farp; (first | omega | (simp <;> omega))) | with_reducible apply Blk.allocp | with_reducible apply Blk.drew | with_reducible apply Blk.drewN))) hB1; have cA1 := hA1.cell; have fA1 := hA1.frozen; have lA1 := hA1.lt; have mA1 := Nat.ne_of_gt lA1; have nA1 := Nat.ne_of_lt lA1)
      | (go_at_call 19; (with_reducible refine (hDc.out _).mono ?_); rintro e v2 ⟨rfl, hB2⟩; have hZ2 := hB2.size; (try simp at hZ2); (try have zl2 : w.heap.size < v2.heap.size := by omega); (try have ze2 : w.heap.size ≤ v2.heap.size := by omega); (try have zn2 : ¬ w.heap.size = v2.heap.size := by omega); (try have zm2 : ¬ v2.heap.size = w.heap.size := by omega); have hA2 : Blk v2 (w.heap.size) 25 #[.int .i64 a, .int .i64 b, .int .i64 c] := Blk.call (by (repeat (first | with_reducible assumption | (with_reducible apply Blk.new_at; (first | rfl | (simp; done))) | with_reducible apply Blk.store3 | with_reducible apply Blk.store4 | (with_reducible apply Blk.farp; (first | omega | (simp <;> omega))) | with_reducible apply Blk.allocp | with_reducible apply Blk.drew | with_reducible apply Blk.drewN))) hB2; have cA2 := hA2.cell; have fA2 := hA2.frozen; have lA2 := hA2.lt; have mA2 := Nat.ne_of_gt lA2; have nA2 := Nat.ne_of_lt lA2)
      | (go_at_call 18; refine (hG.out _).mono ?_; rintro e v3 ⟨G, rfl, hg3, hG0, hB3⟩; have hZ3 := hB3.size; have hA3 : Blk v3 w.heap.size 25 #[.int .i64 a, .int .i64 b, .int .i64 c] := Blk.call (by (repeat (first | with_reducible assumption | (with_reducible apply Blk.new_at; (first | rfl | (simp; done))) | with_reducible apply Blk.store3 | with_reducible apply Blk.store4 | (with_reducible apply Blk.farp; (first | omega | (simp <;> omega))) | with_reducible apply Blk.allocp | with_reducible apply Blk.drew | with_reducible apply Blk.drewN))) hB3; have cA3 := hA3.cell; have fA3 := hA3.frozen; have lA3 := hA3.lt)
      | (go_at_call 20; refine (HB.out _ _ _ hg3).mono ?_; rintro e v4 ⟨vb, vf, rfl, hob, hof, hB4⟩; have hZ4 := hB4.size; have hA4 : Blk v4 w.heap.size 25 #[.int .i64 a, .int .i64 b, .int .i64 c] := Blk.call (by (repeat (first | with_reducible assumption | (with_reducible apply Blk.new_at; (first | rfl | (simp; done))) | with_reducible apply Blk.store3 | with_reducible apply Blk.store4 | (with_reducible apply Blk.farp; (first | omega | (simp <;> omega))) | with_reducible apply Blk.allocp | with_reducible apply Blk.drew | with_reducible apply Blk.drewN))) hB4; have cA4 := hA4.cell; have fA4 := hA4.frozen; have lA4 := hA4.lt; obtain ⟨bb, cb, rfl⟩ := own_shape hob; obtain ⟨bf, cf, rfl⟩ := own_shape hof))
    have hg4 := hg3.call hB4
    have HG4 := Lib.hid hg4
    obtain ⟨base, cap, M, Dm, hblk, _, hmap, hidm⟩ := hg4
    have hml := hmap.lt
    have Hidm := Lib.hid hidm
    have hbr : Below v4.heap.size v4 (v4.alloc (.cells (madeCells #[.int .i64 0] (nats (facN d)).length) 3)) := (Below.refl _ _).alloc (Nat.le_refl _) _
    have hmp := Lib.hid (ownsMap_below hmap hbr hml)
    have hG3 := Blk.allocp (o := .cells (madeCells #[.int .i64 0] (nats (facN d)).length) 3) hblk
    have cG3 := hG3.cell; have fG3 := hG3.frozen; have lG3 := hG3.lt
    have nG3 : ¬ G = v4.heap.size := by have := hblk.lt; omega
    have mG3 : ¬ v4.heap.size = G := by omega
    have hA5 := Blk.allocp (o := .cells (madeCells #[.int .i64 0] (nats (facN d)).length) 3) hA4
    have cA5 := hA5.cell; have fA5 := hA5.frozen; have lA5 := hA5.lt
    have HB4 := Lib.hid hob
    have HF4 := Lib.hid hof
    have hrow := Lib.hid (World.rowIs_made v4 (.int .i64 0) (nats (facN d)).length 3)
    have hb04 : Below w.heap.size w v4 := (by repeat (first | with_reducible exact Below.refl _ _ | with_reducible assumption | with_reducible apply Below.drew | with_reducible apply below_drewN | (with_reducible apply below_setp; (first | omega | (simp <;> omega))) | (with_reducible apply below_allocp; (first | omega | (simp <;> omega))) | (with_reducible refine below_viap (by assumption) ?_ ?_; (first | omega | (simp <;> omega)))))
    clear hidm hmap hg3 hob hof
    obtain ⟨w5, hw5⟩ : ∃ w5, v4.alloc (.cells (madeCells #[.int .i64 0] (nats (facN d)).length) 3) = w5 := ⟨_, rfl⟩
    have hz5 : w5.heap.size = v4.heap.size + 1 := by rw [← hw5]; simp
    rw [hw5] at hrow hbr hmp hG3 hA5 cG3 fG3 lG3 cA5 fA5 lA5
    rw [hw5]
    go_cut [8] from 28 to 34 (fun s wx => s = .int .i64 n ∧ Below w5.heap.size w5 wx)
    case first =>
      go_region_law (go_simp; go_wp2_with (go_at_call 21; (with_reducible refine (hRd.out _).mono ?_); rintro e v6 ⟨rfl, hB6⟩; have hZ6 := hB6.size; (try simp at hZ6); have hG6 : Blk v6 G 53 #[.slice base L.length cap, .map (some M)] := Blk.call (Blk.drew hG3) hB6; have cG6 := hG6.cell; have hrun := idx_run (ownsMap_below (World.ownsMap.drew hmp.out) hB6 (by simp; omega)) Hidm.out hW hn Hnr.out))
      all_goals
        go_wp2_with fail
        go_meet
        exact ⟨rfl, (by repeat (first | with_reducible exact Below.refl _ _ | with_reducible assumption | with_reducible apply Below.drew | with_reducible apply below_drewN | (with_reducible apply below_setp; (first | omega | (simp <;> omega))) | (with_reducible apply below_allocp; (first | omega | (simp <;> omega))) | (with_reducible refine below_viap (by assumption) ?_ ?_; (first | omega | (simp <;> omega)))))⟩
    case rest =>
      obtain ⟨rfl, hb56⟩ := hcut
      have hz56 := hb56.size
      have h0row : wc.rowIs v4.heap.size 3 (nats (facN d)).length (eQ (List.replicate (facN d).length 0)) := (hrow.out.of_block (hb56.block v4.heap.size (by omega))).congr (fun q _ => by
        unfold eQ
        rw [List.getD_eq_getElem?_getD, List.getElem?_replicate]
        split <;> rfl)
      have hb4c : Below v4.heap.size v4 wc := below_via hbr hb56 (by omega)
      clear hrow hbr hmp hG3 hA5 cG3 fG3 cA5 fA5 cA4 fA4 hA4 hblk
      go_wp2
      go_loopg [] (valM T (facN d)) (fun kg wr => ClgSt (facN d) T (nats (facN d)).length v4 kg wr)
      case atStart => exact ⟨List.replicate (facN d).length 0, Lib.hid (small_zero HNN.out), Lib.hid (by rw [valM_zero]; omega), Lib.hid h0row, by omega, hb4c⟩
      case round =>
        clear h0row hb4c hb56 hz56
        obtain ⟨e, he, hv, hR, hlt0, hbel⟩ := hrel
        have hz := hbel.size
        go_wp2
        obtain ⟨wo, rfl⟩ : ∃ wo : World, wo = wr := ⟨_, rfl⟩
        go_loopw [9, 37] (fun v9 v37 wr => ClgIn (F e) (nats (basN d)).length wo v9 v37 wr) (fun _ v37 _ => (nats (basN d)).length - (intOf v37).toNat)
        case atStart => exact ⟨0, rfl, Nat.zero_le _, by rw [hC0.out]; rfl, Below.refl _ _⟩
        case round =>
          obtain ⟨k, rfl, hk, rfl, hbi⟩ := hrel
          have hzi := hbi.size
          have hb4r : Below v4.heap.size v4 wr := below_via hbel hbi (by omega)
          have hRr := Lib.hid (hR.out.of_block (hbi.block v4.heap.size (by omega)))
          by_cases hkl : k < (nats (basN d)).length
          · have hkN : k < (facN d).length := by have := Hbl.out; omega
            have hkF : k < (nats (facN d)).length := by have := Hfl.out; omega
            obtain ⟨b, N, q, X, hke, hp⟩ := hPw.out e he.out k hkN
            have hbe := hp.hb
            rw [List.getElem?_eq_getElem hkl] at hbe
            injection hbe with hbe
            obtain ⟨gb, rfl, lb, c1⟩ := own_elemI (own_call hb4r HB4.out) hkl
            rw [hbe] at c1
            have cR := hRr.out.cell hkF
            rw [eQ_at hke] at cR
            obtain ⟨K, hK⟩ : ∃ K, e[k]'hke = K := ⟨_, rfl⟩
            rw [hK] at hp cR
            have hPb := Lib.hid hp.pw
            have hTb := Lib.hid (fun (B G : Nat) (w : World) hg => hTm.out (F e k) q B G w hp.fl hp.ql hg)
            rw [hp.nx] at hTb
            have hKX : K < X.length := by rw [hp.xl]; exact hp.kN
            have hXl : X.length ≤ 1640 := by rw [hp.xl]; exact hp.n3
            have hxq := hp.xq
            rw [List.getElem?_eq_getElem hKX] at hxq
            injection hxq with hxq
            have Hxq := Lib.hid hxq
            clear hp hbe hK hxq
            go_wp2
            go_region_with (first
              | (go_at_call 23; (refine (hPb.out _ _ _ (HG4.out.call (by exact (by repeat (first | with_reducible exact Below.refl _ _ | with_reducible assumption | with_reducible apply Below.drew | with_reducible apply below_drewN | (with_reducible apply below_setp; (first | omega | (simp <;> omega))) | (with_reducible apply below_allocp; (first | omega | (simp <;> omega))) | (with_reducible refine below_viap (by assumption) ?_ ?_; (first | omega | (simp <;> omega)))))))).mono ?_); rintro e' w6 ⟨vp, rfl, hop, hB6⟩; have hZ6 := hB6.size; (try simp at hZ6); obtain ⟨bp, cp, rfl⟩ := own_shape hop; obtain ⟨gp, rfl, lp, c6⟩ := own_elemI hop hKX; rw [Hxq.out] at c6; have hbr6 : Below wr.heap.size wr w6 := (by repeat (first | with_reducible exact Below.refl _ _ | with_reducible assumption | with_reducible apply Below.drew | with_reducible apply below_drewN | (with_reducible apply below_setp; (first | omega | (simp <;> omega))) | (with_reducible apply below_allocp; (first | omega | (simp <;> omega))) | (with_reducible refine below_viap (by assumption) ?_ ?_; (first | omega | (simp <;> omega))))); have cR6 := (hbr6.cell (p := ⟨v4.heap.size, k, none⟩) (show v4.heap.size < wr.heap.size by omega)).trans cR)
              | (go_at_call 22; (refine (hTb.out _ _ _ (HG4.out.call (by exact (by repeat (first | with_reducible exact Below.refl _ _ | with_reducible assumption | with_reducible apply Below.drew | with_reducible apply below_drewN | (with_reducible apply below_setp; (first | omega | (simp <;> omega))) | (with_reducible apply below_allocp; (first | omega | (simp <;> omega))) | (with_reducible refine below_viap (by assumption) ?_ ?_; (first | omega | (simp <;> omega)))))))).mono ?_); rintro e' w7 ⟨rfl, hB7⟩; have hZ7 := hB7.size))
            all_goals
              go_wp2
              go_roundw
              case rel => exact ⟨k + 1, by go_num, hkl, rfl, (by repeat (first | with_reducible exact Below.refl _ _ | with_reducible assumption | with_reducible apply Below.drew | with_reducible apply below_drewN | (with_reducible apply below_setp; (first | omega | (simp <;> omega))) | (with_reducible apply below_allocp; (first | omega | (simp <;> omega))) | (with_reducible refine below_viap (by assumption) ?_ ?_; (first | omega | (simp <;> omega)))))⟩
              case measure => (first | (simp [intOf]; done) | (simp [intOf]; omega))
          · have ek : k = (nats (basN d)).length := by omega
            have eF : F e k = F e (facN d).length := by rw [ek, Hbl.out]
            have hFl := hcl.out e (facN d).length
            rw [eF]
            by_cases hgi : F e (facN d).length = n
            · have hT := hU.out e he.out hgi
              rw [hgi]
              have hown := rowIs_own (xs := cellsI (nats e)) (B := w.heap.size) hRr.out (by rw [cellsI_len, nats_len, he.out.len, Hfl.out]) (fun q hq => eQ_own e q (by rw [he.out.len, ← Hfl.out]; exact hq)) (by omega) (by unfold maxLen; omega)
              have Hown := Lib.hid hown
              have hnT : Hid ((nats T).length = (nats (facN d)).length) := Lib.hid (by rw [nats_len, HTs.out.len, Hfl.out])
              rw [hT] at Hown
              clear hown hT hgi eF hFl ek
              go_wp2
              go_ret2
              exact ⟨_, rfl, by rw [hnT.out]; exact Hown.out, below_via hb04 hb4r (by omega)⟩
            · have hne := hV.out e hgi
              have hgb : (((F e (facN d).length : Nat) : Int) == (n : Int)) = false := by rw [beq_eq_false_iff_ne]; omega
              have hvT := valM_lt HTs.out
              have hvlt : valM e (facN d) < valM T (facN d) := by
                have h1 := hv.out
                rcases Nat.eq_or_lt_of_le (show valM e (facN d) ≤ valM T (facN d) by omega) with h | h
                · exact absurd (valM_inj he.out T HTs.out h) hne
                · exact h
              have hpos : 0 < (facN d).length := by
                rcases Nat.eq_zero_or_pos (facN d).length with h | h
                · exfalso
                  have h1 : e = [] := List.length_eq_zero_iff.1 (by rw [he.out.len]; exact h)
                  have h2 : T = [] := List.length_eq_zero_iff.1 (by rw [HTs.out.len]; exact h)
                  exact hne (h1.trans h2.symm)
                · exact h
              obtain ⟨s1, hs1⟩ : ∃ s1, (nats (facN d)).length = s1 + 1 := ⟨(facN d).length - 1, by have := Hfl.out; omega⟩
              have Hs1 := Lib.hid hs1
              have hw1 : wrap64 (((nats (facN d)).length : Int) - 1) = (s1 : Int) := by rw [IntWalk.wrap64_in _ (by omega)]; omega
              have hx1 : (((nats (facN d)).length : Int) - 1) = (s1 : Int) := by omega
              have Hv := Lib.hid hvlt
              have HvT := Lib.hid hvT
              have hgk : 1 ≤ gk := by have := hv.out; omega
              have hup0 : Hid (valM e (facN d) + prodN ((facN d).drop (s1 + 1)) = valM e (facN d) + 1) := Lib.hid (by
                rw [List.drop_eq_nil_of_le (by have := Hfl.out; omega)]; rfl)
              have hRw : Hid (wr.rowIs v4.heap.size 3 (nats (facN d)).length (eQ e)) := hRr
              generalize F e (facN d).length = gg at *
              clear hne hvlt hvT hs1 eF ek hgi
              go_wp2
              obtain ⟨wq, rfl⟩ : ∃ wq : World, wq = wr := ⟨_, rfl⟩
              go_loopw [12] (fun v12 wr => ClgUp (facN d) e (nats (facN d)).length v4 v12 wr) (fun v12 _ => (intOf v12).toNat)
              case atStart => exact ⟨s1, e, rfl, by have := Hs1.out; omega, he, hup0, hRw, by omega, hb4r⟩
              case round =>
                clear hRw hup0 hRr hb4r hbi hbel hR hw1 hx1
                obtain ⟨k, e2, rfl, hk2, hsm, hva, hR2, hlt2, hb2⟩ := hrel
                have hz2 := hb2.size
                have hkN : k < (facN d).length := by have := Hfl.out; omega
                have hke : k < e2.length := by rw [hsm.out.len]; exact hkN
                obtain ⟨gf, rfl, lf, c0⟩ := own_elemI HF4.out hk2
                rw [(nats_get (facN d) hkN).2] at c0
                have cR := hR2.out.cell hk2
                have fR := hR2.out.frozen k
                rw [eQ_at hke] at cR
                have hxN := hsm.out.get k hke hkN
                have hN := HNN.out _ (List.getElem_mem hkN)
                have hset1 := valM_set e2 (facN d) k (e2[k] + 1) hke hsm.out.len
                have hset0 := valM_set e2 (facN d) k 0 hke hsm.out.len
                have hpd := prod_drop hkN
                have hsmS := Lib.hid (fun y (hy : y < (facN d)[k]) => hsm.out.set k y hkN hy)
                have hq1 := Lib.hid (fun (y q : Nat) => eQ_set (y := y) hke q)
                obtain ⟨x, hx⟩ : ∃ x, e2[k]'hke = x := ⟨_, rfl⟩
                obtain ⟨N, hNe⟩ : ∃ N, (facN d)[k]'hkN = N := ⟨_, rfl⟩
                rw [hx] at cR hxN hset1 hset0
                rw [hNe] at c0 hxN hN hpd hsmS
                have Hset1 := Lib.hid hset1
                have Hset0 := Lib.hid hset0
                have Hpd := Lib.hid hpd
                clear hset1 hset0 hpd hx hNe
                obtain ⟨w8, hw8⟩ : ∃ w8, wr.setCell ⟨v4.heap.size, k, none⟩ (.int .i64 ((x : Int) + 1)) = w8 := ⟨_, rfl⟩
                have hR8 : Hid (w8.rowIs v4.heap.size 3 (nats (facN d)).length (eQ (e2.set k (x + 1)))) := Lib.hid (by
                  rw [← hw8]
                  exact (hR2.out.set k _).congr (fun q _ => hq1.out (x + 1) q))
                have c8 : w8.cell? ⟨v4.heap.size, k, none⟩ = some (.int .i64 ((x : Int) + 1)) := by
                  rw [← hw8]
                  exact ((hR2.out.set k _).cell hk2).trans (by rw [if_pos rfl])
                have hb8 : Below v4.heap.size v4 w8 := by rw [← hw8]; exact (by repeat (first | with_reducible exact Below.refl _ _ | with_reducible assumption | with_reducible apply Below.drew | with_reducible apply below_drewN | (with_reducible apply below_setp; (first | omega | (simp <;> omega))) | (with_reducible apply below_allocp; (first | omega | (simp <;> omega))) | (with_reducible refine below_viap (by assumption) ?_ ?_; (first | omega | (simp <;> omega)))))
                have f8 := hR8.out.frozen k
                have c18 := (hb8.cell (p := ⟨gf, k, none⟩) lf).trans c0
                have hz8 := hb8.size
                have l8 := hR8.out.lt
                have lf8 : gf < w8.heap.size := by omega
                by_cases hxx : x + 1 < N
                · have hxi : (x : Int) + 1 < (N : Int) := by omega
                  go_wp2
                  (try rw [hw8])
                  clear cR fR hw8 hR2 hb2 hz2 hlt2
                  go_quiet (fail)
                  go_wp2
                  go_roundg (gk - 1)
                  case measure => omega
                  case rel =>
                    have y1 : valM (e2.set k (x + 1)) (facN d) + (gk - 1) = valM T (facN d) := by
                      have h1 := Hset1.out; have h2 := hva.out; have h3 := hv.out; have h4 := Hv.out
                      rw [Nat.add_mul, Nat.one_mul] at h1
                      omega
                    have y2 : (w8.drewN nq).rowIs v4.heap.size 3 (nats (facN d)).length (eQ (e2.set k (x + 1))) := hR8.out
                    have y3 : Below v4.heap.size v4 (w8.drewN nq) := (by repeat (first | with_reducible exact Below.refl _ _ | with_reducible assumption | with_reducible apply Below.drew | with_reducible apply below_drewN | (with_reducible apply below_setp; (first | omega | (simp <;> omega))) | (with_reducible apply below_allocp; (first | omega | (simp <;> omega))) | (with_reducible refine below_viap (by assumption) ?_ ?_; (first | omega | (simp <;> omega)))))
                    exact ⟨e2.set k (x + 1), Lib.hid (hsmS.out _ hxx), Lib.hid y1, Lib.hid y2, l8, y3⟩
                · have hxi : ¬ (x : Int) + 1 < (N : Int) := by omega
                  have hxd : decide ((x : Int) + 1 < (N : Int)) = false := decide_eq_false hxi
                  have hk1 : 1 ≤ k := by
                    rcases Nat.eq_zero_or_pos k with h0 | h0
                    · exfalso
                      have h1 := Hpd.out; have h2 := hva.out; have h3 := Hset0.out; have h4 := Hv.out; have h5 := HvT.out
                      rw [h0] at h1 h2 h3
                      rw [List.drop_zero, show N = x + 1 by omega, Nat.add_mul, Nat.one_mul] at h1
                      simp only [Nat.zero_mul] at h3
                      omega
                    · exact h0
                  have hwk : wrap64 ((k : Int) - 1) = ((k - 1 : Nat) : Int) := by rw [IntWalk.wrap64_in _ (by omega)]; omega
                  go_wp2
                  (try rw [hw8])
                  clear cR fR hw8 hR2 hb2 hz2 hlt2
                  go_quiet (fail)
                  go_wp2
                  have y1 : valM (e2.set k 0) (facN d) + prodN ((facN d).drop (k - 1 + 1)) = valM e (facN d) + 1 := by
                      have h1 := Hpd.out; have h2 := hva.out; have h3 := Hset0.out
                      rw [show k - 1 + 1 = k by omega, h1, show N = x + 1 by omega, Nat.add_mul, Nat.one_mul]
                      simp only [Nat.zero_mul] at h3
                      omega
                  have y0 : (w8.drewN nq).rowIs v4.heap.size 3 (nats (facN d)).length (eQ (e2.set k (x + 1))) := hR8.out
                  have y2 : ((w8.drewN nq).setCell ⟨v4.heap.size, k, none⟩ (.int .i64 0)).rowIs v4.heap.size 3 (nats (facN d)).length (eQ (e2.set k 0)) := (y0.set k (.int .i64 0)).congr (fun q hq => by
                        by_cases h1 : q = k
                        · rw [if_pos h1, h1, eQ_at (by rw [List.length_set]; exact hke), List.getElem_set_self]; rfl
                        · rw [if_neg h1]
                          have h2 := hq1.out 0 q
                          have h3 := hq1.out (x + 1) q
                          rw [if_neg h1] at h2 h3
                          rw [← h3, h2])
                  have y3 : Below v4.heap.size v4 ((w8.drewN nq).setCell ⟨v4.heap.size, k, none⟩ (.int .i64 0)) := (by repeat (first | with_reducible exact Below.refl _ _ | with_reducible assumption | with_reducible apply Below.drew | with_reducible apply below_drewN | (with_reducible apply below_setp; (first | omega | (simp <;> omega))) | (with_reducible apply below_allocp; (first | omega | (simp <;> omega))) | (with_reducible refine below_viap (by assumption) ?_ ?_; (first | omega | (simp <;> omega)))))
                  have y4 : v4.heap.size < ((w8.drewN nq).setCell ⟨v4.heap.size, k, none⟩ (.int .i64 0)).heap.size := by simp; omega
                  exact ⟨⟨k - 1, e2.set k 0, by go_num, by omega, Lib.hid (hsmS.out 0 (by omega)), Lib.hid y1, Lib.hid y2, y4, y3⟩, by simp [intOf]; omega⟩
end
end Go.Proofs.YtkkamlhpappebaaGreat
