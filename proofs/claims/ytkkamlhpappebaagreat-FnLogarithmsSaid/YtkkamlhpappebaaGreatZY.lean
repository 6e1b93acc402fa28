/- Parts Z5 Z6 Z7 laid together by tp.py. -/
import Derived.Test.YtkkamlhpappebaaGreatZX
import Derived.Test.YtkkamlhpappebaaGreatN6
import Derived.Test.YtkkamlhpappebaaGreatTZ
namespace Go.Proofs.YtkkamlhpappebaaGreat
section
open Go.RowKit

def hasI (L : List Int) (x : Int) : Bool := decide (x ∈ L)
theorem hasI_yes {L : List Int} {x : Int} (h : x ∈ L) : hasI L x = true := decide_eq_true h
theorem hasI_no {L : List Int} {x : Int} (h : ∀ j (h : j < L.length), L[j] ≠ x) : hasI L x = false := by
  refine decide_eq_false (fun hx => ?_)
  obtain ⟨j, hj, e⟩ := List.getElem_of_mem hx
  exact h j hj e
def HasSt (L : List Int) (x : Int) (w : World) (vi : Value) (wr : World) : Prop :=
  ∃ k : Nat, vi = .int .i64 k ∧ k ≤ L.length ∧ Hid (∀ j (h : j < L.length), j < k → L[j] ≠ x) ∧ w = wr

set_option maxRecDepth 100000 in
set_option maxHeartbeats 1600000 in
theorem l1Has_any (v : Value) (B : Nat) (L : List Int) (x : Int) (w : World) (hl : L.length ≤ 10000000) (h : w.ownsRow B 3 1 v L.length (cellsI L)) :
    Calls Tryz.prog 79 #[v, .int .i64 x] w fun e w' => e = .returned (.bool (hasI L x)) ∧ w = w' := by
  obtain ⟨b1, c1, rfl⟩ := own_shape h
  have H := Lib.hid h
  clear h
  go_enter Tryz.func79, Tryz.ntmps79
  go_wp2
  go_loopw [9] (fun i wr => HasSt L x w i wr) (fun i _ => L.length - (intOf i).toNat)
  case atStart => exact ⟨0, rfl, Nat.zero_le _, Lib.hid (fun j _ h => absurd h (Nat.not_lt_zero _)), rfl⟩
  case round =>
    obtain ⟨k, rfl, hk, hno, rfl⟩ := hrel
    by_cases hlt : k < L.length
    · obtain ⟨g1, rfl, e1, d1⟩ := own_elemI H.out hlt
      have hyes := Lib.hid (fun (e : L[k] = x) => (show hasI L x = true from hasI_yes (e ▸ List.getElem_mem hlt)))
      have hnx := Lib.hid (fun (e : L[k] ≠ x) => (show ∀ j (h : j < L.length), j < k + 1 → L[j] ≠ x from fun j h hj => if he : j = k then (by subst he; exact e) else hno.out j h (by omega)))
      generalize L[k] = r at d1 hyes hnx
      by_cases hrx : r = x
      · have Hy := Lib.hid (hyes.out hrx)
        subst hrx
        clear hyes hnx
        go_wp2
        go_ret
        exact ⟨ret_bool Hy.out.symm, rfl⟩
      · have Hn := Lib.hid (hnx.out hrx)
        have hbe : (r == x) = false := by rw [beq_eq_false_iff_ne]; exact hrx
        clear hyes hnx hno
        go_wp2
        go_roundw
        case rel => exact ⟨k + 1, rfl, hlt, Hn, by simp⟩
        case measure => simp [intOf]; omega
    · have Hn := Lib.hid (hasI_no (L := L) (x := x) (fun j h => hno.out j h (by omega)))
      clear hno
      go_wp2
      go_ret
      exact ⟨ret_bool Hn.out.symm, rfl⟩

set_option maxRecDepth 100000 in
set_option maxHeartbeats 1600000 in
theorem l1Own_any (v : Value) (B : Nat) (L : List Int) (w : World) (hl : L.length ≤ 1000000) (h : w.ownsRow B 3 1 v L.length (cellsI L)) :
    Calls Tryz.prog 103 #[v] w (RetI L w) := by
  obtain ⟨i0, hi, hz0, hz1, hz2⟩ := info_parts infoInt
  have hsh := own_shape h
  obtain ⟨b1, c1, rfl⟩ := hsh
  have hrd2 : Reads w w.heap.size 1 b1 L.length (cellsI L) := Reads.of_own h
  have Hrd := Lib.hid hrd2
  clear h hrd2
  go_enter Tryz.func103, Tryz.ntmps103
  go_wp2_with (at_builtin; refine wpList_append_any _ rfl (.tmp 3) (.tmp 4) _ rfl w.heap.size 3 i0 _ 1 8 Tryz.underlying28 hi hz0 hz1 hz2 rfl (by omega) (.slice (some ⟨w.heap.size, 0, none⟩) 0 0) 0 [] rfl (own_empty (Nat.le_refl _)) w.heap.size b1 L.length _ (cellsI L) rfl (Hrd.out.alloc (Nat.le_refl _) _) (cellsI_one _) (by unfold maxLen; omega) (by omega) (by simp) ?_; intro x1 w1 hown1 hg1 hat1)
  have hb : Below w.heap.size w w1 := Below.grown ((by repeat (first | with_reducible exact Below.refl _ _ | with_reducible assumption | with_reducible apply Below.drew | with_reducible apply below_drewN | (with_reducible apply below_setp; (first | omega | (simp <;> omega))) | (with_reducible apply below_allocp; (first | omega | (simp <;> omega))) | (with_reducible refine below_viap (by assumption) ?_ ?_; (first | omega | (simp <;> omega)))))) hg1 (by simp) (fun q hq => by simp [Value.ownBlock] at hq; omega)
  go_ret
  refine ⟨x1, rfl, ?_, hb⟩
  simpa using hown1
end

section
open Go.RowKit

/-- A sorted list of generated indices that has 0. -/
structure Spn (mul : Nat → Nat → Nat) (J : List Nat) (m : Nat) (A : List Int) : Prop where
  srt : A.Pairwise (· < ·)
  ok : ∀ x ∈ A, ∃ i : Nat, x = i ∧ i < m ∧ Rch mul J i
  z : (0 : Int) ∈ A
theorem Spn.len {mul : Nat → Nat → Nat} {J : List Nat} {m : Nat} {A : List Int} (h : Spn mul J m A) : A.length ≤ m := by
  have hnd : A.Nodup := List.Pairwise.imp (fun h e => by omega) h.srt
  have := hnd.length_le_of_subset (l₂ := nats (List.range m)) (fun x hx => by
    obtain ⟨i, rfl, hi, _⟩ := h.ok x hx
    exact List.mem_map.2 ⟨i, List.mem_range.2 hi, rfl⟩)
  rwa [nats_len, List.length_range] at this
theorem Spn.start {mul : Nat → Nat → Nat} {J : List Nat} {m : Nat} (h0 : 0 < m) : Spn mul J m [0] :=
  ⟨by simp, by intro x hx; simp at hx; subst hx; exact ⟨0, rfl, h0, .zero⟩, by simp⟩
theorem Spn.put {mul : Nat → Nat → Nat} {J : List Nat} {m : Nat} {A : List Int} (h : Spn mul J m A) {p : Nat} (hp : p < m) (hr : Rch mul J p) : Spn mul J m (putI A p) := by
  refine ⟨sorted_putI A h.srt, fun x hx => ?_, (mem_putI A).2 (.inl h.z)⟩
  rcases (mem_putI A).1 hx with hx | rfl
  · exact h.ok x hx
  · exact ⟨p, rfl, hp, hr⟩
theorem putI_more : ∀ (A : List Int) (x : Int), x ∉ A → (putI A x).length = A.length + 1
  | [], x, _ => by simp [putI]
  | y :: A, x, h => by
    have h1 : ¬ y = x := fun e => h (by simp [e])
    have h2 : x ∉ A := fun e => h (by simp [e])
    unfold putI
    split
    · simp [putI_more A x h2]
    · simp
/-- The outer loop. -/
def SpOut (mul : Nat → Nat → Nat) (J : List Nat) (m : Nat) (w : World) (v vb : Value) (wr : World) : Prop :=
  ∃ (A : List Int) (b : Bool), vb = .bool b ∧ lenV v = A.length ∧ Hid (Spn mul J m A) ∧ Hid (b = false → ∀ i : Nat, (i : Int) ∈ A → ∀ j ∈ J, ((mul i j : Nat) : Int) ∈ A) ∧
    wr.ownsRow w.heap.size 3 1 v A.length (cellsI A) ∧ Below w.heap.size w wr
/-- The pass over the copy C. -/
def SpMid (mul : Nat → Nat → Nat) (J : List Nat) (m : Nat) (C : List Int) (w wc : World) (v vb vs : Value) (wr : World) : Prop :=
  ∃ (A : List Int) (b : Bool) (s : Nat), vb = .bool b ∧ vs = .int .i64 s ∧ s ≤ C.length ∧ lenV v = A.length ∧ Hid (Spn mul J m A) ∧ Hid ((b = false ∧ A = C) ∨ (b = true ∧ C.length < A.length)) ∧
    Hid (∀ t (h : t < C.length), t < s → ∀ j ∈ J, ((mul C[t].toNat j : Nat) : Int) ∈ A) ∧ wr.ownsRow w.heap.size 3 1 v A.length (cellsI A) ∧ Below wc.heap.size wc wr
/-- The products of the element i. -/
def SpIn (mul : Nat → Nat → Nat) (J : List Nat) (m : Nat) (C : List Int) (i s : Nat) (w wc : World) (v vb vq : Value) (wr : World) : Prop :=
  ∃ (A : List Int) (b : Bool) (q : Nat), vb = .bool b ∧ vq = .int .i64 q ∧ q ≤ J.length ∧ lenV v = A.length ∧ Hid (Spn mul J m A) ∧ Hid ((b = false ∧ A = C) ∨ (b = true ∧ C.length < A.length)) ∧
    Hid (∀ t (h : t < C.length), t < s → ∀ j ∈ J, ((mul C[t].toNat j : Nat) : Int) ∈ A) ∧ Hid (∀ u (h : u < J.length), u < q → ((mul i J[u] : Nat) : Int) ∈ A) ∧
    wr.ownsRow w.heap.size 3 1 v A.length (cellsI A) ∧ Below wc.heap.size wc wr
def bitV : Value → Nat
  | .bool true => 1
  | _ => 0

set_option maxRecDepth 100000 in
set_option maxHeartbeats 6400000 in
theorem grSpan_any (d : Int) (L : List Fm) (B : Nat) (base : Option Addr) (cap : Nat) (J : List Nat) (v : Value) (B2 : Nat) (w : World) (hD : Dsc d) (hL : clsL d = L) (ht : Tab d L B (.slice base L.length cap) w) (hJ : ∀ j ∈ J, j < L.length) (hJl : J.length ≤ 20)
    (ho : w.ownsRow B2 3 1 v (nats J).length (cellsI (nats J))) :
    Calls Tryz.prog 78 #[.slice base L.length cap, v] w (RetI (nats (spanL (mulN d L) J L.length)) w) := by
  have hl : L.length ≤ 100000 := by rw [← hL]; exact Nat.le_trans (clsL_len d) (by decide)
  have hm0 : 0 < L.length := by
    obtain ⟨L', h⟩ := cls_head hD
    rw [← hL, h]; simp
  have hcl := Lib.hid (fun (i k : Nat) (hi : i < L.length) (hk : k < L.length) => (mulN_eq hD hL hi hk).2)
  have hel := Lib.hid (fun (w : World) (ht : Tab d L B (.slice base L.length cap) w) (i k : Nat) (hi : i < L.length) (hk : k < L.length) => (show ∃ G g c, base = some ⟨G, 0, none⟩ ∧ G < w.heap.size ∧ w.cell? ⟨G, i, none⟩ = some (.slice (some ⟨g, 0, none⟩) L.length c) ∧ g < w.heap.size ∧ w.cell? ⟨g, k, none⟩ = some (.int .i64 (mulN d L i k : Nat)) from by
    have h := ht.elem hi hk
    rw [(mulN_eq hD hL hi hk).1] at h
    exact h))
  have hfin := Lib.hid (fun (A : List Int) (h : Spn (mulN d L) J L.length A) (hc : ∀ i : Nat, (i : Int) ∈ A → ∀ j ∈ J, ((mulN d L i j : Nat) : Int) ∈ A) =>
    span_uniq hm0 (fun i k hi hk => (mulN_eq hD hL hi hk).2) hJ h.srt (fun x hx => by obtain ⟨i, a, _, c⟩ := h.ok x hx; exact ⟨i, a, c⟩) h.z hc)
  obtain ⟨bJ, cJ, rfl⟩ := own_shape ho
  have HJ := Lib.hid ho
  have HT := Lib.hid ht
  have Hmem := Lib.hid hJ
  have hnl := nats_len J
  rw [hnl] at HJ ⊢
  generalize mulN d L = mul at *
  clear hD hL ho hJ hnl ht
  go_enter Tryz.func78, Tryz.ntmps78
  go_wp2
  go_loopw [5, 6] (fun v b wr => SpOut mul J L.length w v b wr) (fun v b _ => 2 * (L.length - lenV v) + bitV b)
  case atStart => exact ⟨[0], true, rfl, rfl, Lib.hid (Spn.start hm0), Lib.hid (fun h => by cases h), own_one (Nat.le_refl _), (by repeat (first | with_reducible exact Below.refl _ _ | with_reducible assumption | with_reducible apply Below.drew | with_reducible apply below_drewN | (with_reducible apply below_setp; (first | omega | (simp <;> omega))) | (with_reducible apply below_allocp; (first | omega | (simp <;> omega))) | (with_reducible refine below_viap (by assumption) ?_ ?_; (first | omega | (simp <;> omega)))))⟩
  case round =>
    obtain ⟨A0, b, rfl, hv, hS, hcd, hown, hbel⟩ := hrel
    have hz := hbel.size
    have hAl := hS.out.len
    cases b with
    | false =>
      have hx := Lib.hid (hfin.out A0 hS.out (hcd.out rfl))
      clear hS hcd
      go_wp2
      go_ret
      exact ⟨_, rfl, by rw [← hx.out]; exact hown, hbel⟩
    | true =>
      clear hcd
      go_wp2_with (go_at_call 103; refine (l1Own_any _ _ A0 _ (by omega) hown).mono ?_; rintro e wc ⟨vc, rfl, hoc, hbc⟩; obtain ⟨bc, cc, rfl⟩ := own_shape hoc; have hzc := hbc.size)
      have hbw : Below w.heap.size w wc := below_via hbel hbc hz
      have HC := Lib.hid hoc
      have hown0 := own_call hbc hown
      have hmeas := Lib.hid hv
      clear hoc hown hbel hbc
      obtain ⟨wo, rfl⟩ : ∃ wo : World, wo = wr := ⟨_, rfl⟩
      go_loopw [5, 6, 16] (fun v b s wr => SpMid mul J L.length A0 w wc v b s wr) (fun _ _ s _ => A0.length - (intOf s).toNat)
      case atStart => exact ⟨A0, false, 0, rfl, rfl, Nat.zero_le _, hv, hS, Lib.hid (.inl ⟨rfl, rfl⟩), Lib.hid (fun _ _ h => absurd h (Nat.not_lt_zero _)), hown0, Below.refl _ _⟩
      case round =>
        have hS0 := hS
        clear hS hown0 hv
        obtain ⟨A, b, s, rfl, rfl, hs, hv, hS, hab, hcd, hown, hbel⟩ := hrel
        have hz2 := hbel.size
        by_cases hst : s < A0.length
        · obtain ⟨g1, rfl, l1, k1⟩ := own_elemI (own_call hbel HC.out) hst
          obtain ⟨i, hi, him, hir⟩ := hS0.out.ok _ (List.getElem_mem hst)
          rw [hi] at k1
          go_wp2
          obtain ⟨wo2, rfl⟩ : ∃ wo2 : World, wo2 = wr := ⟨_, rfl⟩
          go_loopw [5, 6, 22] (fun v b q wr => SpIn mul J L.length A0 i s w wc v b q wr) (fun _ _ q _ => J.length - (intOf q).toNat)
          case atStart => exact ⟨A, b, 0, rfl, rfl, Nat.zero_le _, hv, hS, hab, hcd, Lib.hid (fun _ _ h => absurd h (Nat.not_lt_zero _)), hown, hbel⟩
          case round =>
            clear hS hab hcd hown hbel hv k1 l1 hz2
            obtain ⟨A, b, q, rfl, rfl, hq, hv, hS, hab, hcd, hpd, hown, hbel⟩ := hrel
            have hz2 := hbel.size
            have hAl2 := hS.out.len
            have hbw2 : Below w.heap.size w wr := below_via hbw hbel (by omega)
            by_cases hqt : q < J.length
            · have hjm := Hmem.out J[q] (List.getElem_mem hqt)
              obtain ⟨g2, rfl, l2, k2⟩ := own_elemI (n := J.length) (L := nats J) (by rw [nats_len]; exact own_call hbw2 HJ.out) (k := q) (by rw [nats_len]; exact hqt)
              rw [(nats_get J hqt).2] at k2
              obtain ⟨G, g3, c3, rfl, l3, k3, l4, k4⟩ := hel.out wr (HT.out.call hbw2) i J[q] him hjm
              have hpm := hcl.out i J[q] him hjm
              have hpr : Rch mul J (mul i J[q]) := hir.step (List.getElem_mem hqt)
              have hpN := Lib.hid (fun (A' : List Int) (h1 : ∀ y, y ∈ A → y ∈ A') (h2 : ((mul i J[q] : Nat) : Int) ∈ A') => (show ∀ u (h : u < J.length), u < q + 1 → ((mul i J[u] : Nat) : Int) ∈ A' from fun u hu' hlt' => if e : u = q then (by subst e; exact h2) else h1 _ (hpd.out u hu' (by omega))))
              generalize J[q] = j at k2 k4 hpm hpr hpN hjm
              generalize mul i j = p at k4 hpm hpr hpN
              clear hpd
              by_cases hpA : (p : Int) ∈ A
              · have hh := hasI_yes hpA
                have hpM := Lib.hid (hpN.out A (fun _ h => h) hpA)
                clear hpN hpA
                go_wp2_with (go_at_call 79; refine (l1Has_any _ _ A p _ (by omega) hown).mono ?_; rw [hh]; rintro e v1 ⟨rfl, rfl⟩)
                go_roundw
                case rel => exact ⟨A, b, q + 1, rfl, rfl, hqt, hv, hS, hab, hcd, hpM, hown, hbel⟩
                case measure => simp [intOf]; omega
              · have hh : hasI A p = false := decide_eq_false hpA
                have hmore := putI_more A p hpA
                have hpM := Lib.hid (hpN.out (putI A p) (fun y h => (mem_putI A).2 (.inl h)) ((mem_putI A).2 (.inr rfl)))
                have hSN := Lib.hid (hS.out.put hpm hpr)
                have habN : Hid (A0.length < (putI A p).length) := Lib.hid (by
                  rcases hab.out with ⟨_, e⟩ | ⟨_, h⟩
                  · rw [hmore, e]; omega
                  · rw [hmore]; omega)
                have hcdN : Hid (∀ t (h : t < A0.length), t < s → ∀ j ∈ J, ((mul A0[t].toNat j : Nat) : Int) ∈ putI A p) := Lib.hid (fun t ht hts j hj => (mem_putI A).2 (.inl (hcd.out t ht hts j hj)))
                clear hpN hpA hS hab hcd
                go_wp2_with (first
                  | (go_at_call 79; refine (l1Has_any _ _ A p _ (by omega) hown).mono ?_; rw [hh]; rintro e v1 ⟨rfl, rfl⟩)
                  | (go_at_call 104; refine (l1Put_any _ _ A _ _ (by omega) (by omega) hown).mono ?_; rintro e w3 ⟨x3, rfl, hon3, _, hB3⟩; have hZ3 := hB3.size))
                have hv3 : lenV x3 = (putI A p).length := by obtain ⟨_, _, rfl⟩ := own_shape hon3; rfl
                go_roundw
                case rel => exact ⟨putI A p, true, q + 1, rfl, rfl, hqt, hv3, hSN, Lib.hid (.inr ⟨rfl, habN.out⟩), hcdN, hpM, hon3, below_via hbel hB3 hz2⟩
                case measure => simp [intOf]; omega
            · have e : q = J.length := by omega
              have hcdN : Hid (∀ t (h : t < A0.length), t < s + 1 → ∀ j ∈ J, ((mul A0[t].toNat j : Nat) : Int) ∈ A) := Lib.hid (fun t ht hts j hj => by
                by_cases e2 : t = s
                · subst e2
                  rw [hi, Int.toNat_natCast]
                  obtain ⟨u, hu1, rfl⟩ := List.getElem_of_mem hj
                  exact hpd.out u hu1 (by omega)
                · exact hcd.out t ht (by omega) j hj)
              clear hcd hpd
              subst e
              go_wp2
              exact ⟨⟨A, b, s + 1, rfl, rfl, hst, hv, hS, hab, hcdN, hown, hbel⟩, by simp [intOf]; omega⟩
        · have e : s = A0.length := by omega
          have hAl2 := hS.out.len
          have hfn : Hid (b = false → ∀ i : Nat, (i : Int) ∈ A → ∀ j ∈ J, ((mul i j : Nat) : Int) ∈ A) := Lib.hid (fun hb i hiA j hj => by
            rcases hab.out with ⟨_, e1⟩ | ⟨e1, _⟩
            · rw [e1] at hiA
              obtain ⟨t, ht, hte⟩ := List.getElem_of_mem hiA
              have := hcd.out t ht (by omega) j hj
              rw [hte, Int.toNat_natCast] at this
              exact this
            · rw [hb] at e1; cases e1)
          have hms : 2 * (L.length - A.length) + bitV (.bool b) < 2 * (L.length - A0.length) + 1 := by
            rcases hab.out with ⟨e1, e2⟩ | ⟨e1, e2⟩
            · subst e1; rw [e2]; simp [bitV]
            · subst e1; simp [bitV]; omega
          have Hms := Lib.hid hms
          clear hab hcd hms
          subst e
          go_wp2
          exact ⟨⟨A, b, rfl, hv, hS, hfn, hown, below_via hbw hbel (by omega)⟩, by have := Hms.out; have h5 := hmeas.out; simp only [hv, h5]; simpa [bitV, h5, hv] using this⟩
end

section
open Go.RowKit

def LisSt (d : Int) (zs : List Fm) (w : World) (vi : Value) (wr : World) : Prop :=
  ∃ k : Nat, vi = .int .i64 k ∧ k ≤ zs.length ∧ Hid (∀ f ∈ zs.take k, okF d f = true) ∧ Below w.heap.size w wr

def IdxSt (L zs : List Fm) (w : World) (v vi : Value) (wr : World) : Prop :=
  ∃ k : Nat, vi = .int .i64 k ∧ k ≤ zs.length ∧ wr.ownsRow w.heap.size 3 1 v (nats (gensN L (zs.take k))).length (cellsI (nats (gensN L (zs.take k)))) ∧ Below w.heap.size w wr

end
end Go.Proofs.YtkkamlhpappebaaGreat
