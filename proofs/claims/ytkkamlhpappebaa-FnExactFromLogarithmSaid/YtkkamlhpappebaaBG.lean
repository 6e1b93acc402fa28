/- Contract: the exponents of an element, of the reference. -/
import Derived.Test.YtkkamlhpappebaaBF
import Derived.Test.YtkkamlhpappebaaBD
namespace Go.Proofs.Ytkkamlhpappebaa
open Go.RowKit

/-- The rest of a number after k digits. -/
def rK (N : List Nat) (n k : Nat) : Nat := (N.take k).foldl (· / ·) n
theorem rK_le (N : List Nat) (n : Nat) : ∀ k, rK N n k ≤ n := by
  have : ∀ (M : List Nat) (n : Nat), M.foldl (· / ·) n ≤ n := by
    intro M
    induction M with
    | nil => intro n; exact Nat.le_refl _
    | cons m M ih => intro n; exact Nat.le_trans (ih _) (Nat.div_le_self _ _)
  intro k
  exact this _ _
/-- The row of the digits, the first k done. -/
def dgQ (N : List Nat) (n k q : Nat) : Value := if q < k then .int .i64 (((digL n N).getD q 0 : Nat) : Int) else .int .i64 0
theorem dgQ_next {N : List Nat} {n k : Nat} (h : k < N.length) (q : Nat) : (if q = k then Value.int .i64 ((rK N n k % N[k] : Nat) : Int) else dgQ N n k q) = dgQ N n (k + 1) q := by
  unfold dgQ
  by_cases h1 : q = k
  · subst h1
    rw [if_pos rfl, if_pos (by omega), List.getD_eq_getElem?_getD, List.getElem?_eq_getElem (by rw [digL_len]; exact h), Option.getD_some, digL_get n N q h]
    rfl
  · rw [if_neg h1]
    by_cases h2 : q < k
    · rw [if_pos h2, if_pos (by omega)]
    · rw [if_neg h2, if_neg (by omega)]
theorem tmod_nat {r N : Nat} (_ : 0 < N) : (r : Int).tmod (N : Int) = ((r % N : Nat) : Int) := by rw [Int.tmod_eq_emod_of_nonneg (by omega), Int.natCast_emod]
theorem tdiv_nat {r N : Nat} (_ : 0 < N) : (r : Int).tdiv (N : Int) = ((r / N : Nat) : Int) := by rw [Int.tdiv_eq_ediv_of_nonneg (by omega), Int.natCast_ediv]
/-- The exponents of the element i. -/
noncomputable def lgN (d : Int) (i : Nat) : List Nat := open Classical in if h : Dsc d then logN h i else []
theorem lgN_eq {d : Int} (D : Dsc d) (i : Nat) : lgN d i = logN D i := by unfold lgN; rw [dif_pos D]
def GlSt (n0 : Nat) (w3 : World) (v18 : Value) (wr : World) : Prop := ∃ n : Nat, v18 = .int .i64 n ∧ n ≤ n0 ∧ Below w3.heap.size w3 wr
def GlIn (N : List Nat) (n s : Nat) (wi : World) (v9 v27 : Value) (wr : World) : Prop :=
  ∃ k : Nat, v27 = .int .i64 k ∧ k ≤ s ∧ v9 = .int .i64 (rK N n k : Nat) ∧ Hid (wr.rowIs wi.heap.size 3 s (dgQ N n k)) ∧ wi.heap.size < wr.heap.size ∧ Below wi.heap.size wi wr

set_option maxRecDepth 100000 in
set_option maxHeartbeats 3200000 in
theorem grLog_any (d : Int) (L : List Fm) (B : Nat) (base : Option Addr) (cap i : Nat) (w : World) (D : Dsc d) (hL : clsL d = L) (hi : i < L.length) (ht : Tab d L B (.slice base L.length cap) w) :
    Calls Try.prog 149 #[.slice base L.length cap, .int .i64 i] w (RetI (nats (lgN d i)) w) := by
  rw [lgN_eq D]
  have hl : L.length ≤ 1640 := by rw [← hL]; exact clsL_len d
  have hO := Lib.hid (grOrders_any d L B base cap w D hL ht)
  have hBa := Lib.hid (fun (w : World) (ht : Tab d L B (.slice base L.length cap) w) => grBasis_any d L B base cap w D hL ht)
  have hn := facN_ge D
  have hC := Lib.hid (fun (n : Nat) (vb ve : Value) (bo : Option Addr) (co B2 B3 B4 : Nat) (w : World) ht hb ho he => (show Calls Try.prog 143 #[.slice base L.length cap, vb, .slice bo L.length co, ve] w fun e w' => e = .returned (.int .i64 (cmbN D (digL n (facN d)) (facN d).length : Nat)) ∧ Below w.heap.size w w' from by
    have h := grCombine_any d L B base cap vb ve bo co B2 B3 B4 (nats (digL n (facN d))) w D hL (by rw [nats_len, digL_len]) ht hb ho he
    rwa [redE_nats (digL_small n _ (fun m hm => by have := hn m hm; omega))] at h))
  have hU := Lib.hid (fun n (h : cmbN D (digL n (facN d)) (facN d).length = i) => (show digL n (facN d) = logN D i from logN_uniq D (digL_small n _ (fun m hm => by have := hn m hm; omega)) h))
  obtain ⟨n0, hn0, he0⟩ := digL_ex (logN_small D i)
  have hV := Lib.hid (fun n (h : cmbN D (digL n (facN d)) (facN d).length ≠ i) => (show n ≠ n0 from fun e => h (by rw [e, he0]; exact logN_cmb D (by rw [hL]; exact hi))))
  have hn1 : n0 < L.length := by
    have := facN_prod D
    rw [hL] at this
    rw [← this]; exact hn0
  have hbl : (nats (basN d)).length = (facN d).length := by rw [nats_len, basN_len]
  have hs20 : (nats (basN d)).length ≤ 20 := by rw [hbl, facN_len]; exact inv_len20 D
  have hK := Lib.hid (fun k (hk : k < (nats (basN d)).length) => (show ∃ (b N : Nat) (h : b < L.length), (nats (basN d))[k] = (b : Int) ∧ ordF d L[b] = N ∧ 2 ≤ N ∧ N ≤ 1640 ∧ (∀ n, rK (facN d) n (k + 1) = rK (facN d) n k / N) ∧ ∀ n q, (if q = k then Value.int .i64 ((rK (facN d) n k % N : Nat) : Int) else dgQ (facN d) n k q) = dgQ (facN d) n (k + 1) q from by
    subst hL
    have hk2 : k < (basN d).length := by rw [nats_len] at hk; exact hk
    have hk3 : k < (facN d).length := by omega
    have hlt := basN_lt D _ (List.getElem_mem hk2)
    have hn := facN_ge D _ (List.getElem_mem hk3)
    exact ⟨(basN d)[k], (facN d)[k], hlt, (nats_get _ hk2).2, bas_ord D hk2 hk3 hlt, hn.1, hn.2, fun n => rest_step hk3, fun n q => dgQ_next hk3 q⟩))
  have hdl := Lib.hid (fun n => (show (nats (digL n (facN d))).length = (nats (basN d)).length from by rw [nats_len, digL_len, hbl]))
  have hq0 := Lib.hid (fun n q => (show Value.int .i64 0 = dgQ (facN d) n 0 q from by unfold dgQ; rw [if_neg (by omega)]))
  have hfull := Lib.hid (fun n q (hq : q < (nats (basN d)).length) => (show (cellsI (nats (digL n (facN d))))[q]? = some (dgQ (facN d) n (nats (basN d)).length q) from by
    unfold dgQ
    rw [if_pos hq]
    have : q < (digL n (facN d)).length := by rw [digL_len]; omega
    unfold cellsI nats
    simp [List.getD_eq_getElem?_getD, this]))
  have hr0 := Lib.hid (fun n => (show rK (facN d) n 0 = n from rfl))
  have hrl := Lib.hid (fun n k => rK_le (facN d) n k)
  have HT := Lib.hid ht
  generalize hG : (fun n => cmbN D (digL n (facN d)) (facN d).length) = Gn at *
  have HC := Lib.hid (fun (n : Nat) (vb ve : Value) (bo : Option Addr) (co B2 B3 B4 : Nat) (w : World) ht hb ho he => (show Calls Try.prog 143 #[.slice base L.length cap, vb, .slice bo L.length co, ve] w fun e w' => e = .returned (.int .i64 (Gn n : Nat)) ∧ Below w.heap.size w w' from by
    have h := hC.out n vb ve bo co B2 B3 B4 w ht hb ho he
    rw [← hG]; exact h))
  have HU := Lib.hid (fun n (h : Gn n = i) => hU.out n (by rw [← hG] at h; exact h))
  have HV := Lib.hid (fun n (h : Gn n ≠ i) => hV.out n (by rw [← hG] at h; exact h))
  have hGl := Lib.hid (fun n => (show Gn n ≤ 1640 from by rw [← hG]; have := cmbN_lt D (digL n (facN d)) (facN d).length; rw [hL] at this; show cmbN D _ _ ≤ _; omega))
  generalize logN D i = T at *
  clear hC hU hV hG hbl hn hn0 he0
  have hmk := run_make_row' (P := Try.prog) 30 3 (.int .i64 0) 8 Try.underlying30 infoInt rfl .i64 .i64 (nats (basN d)).length (by omega) (by omega)
  generalize facN d = NN at *
  generalize nats (basN d) = Bs at *
  clear D hL ht
  go_enter Try.func149, Try.ntmps149
  go_wp2_with (first
    | (go_at_call 144; refine hO.out.mono ?_; rintro e w1 ⟨vo, rfl, hoo, hb1⟩; rw [ordsL_len] at hoo; obtain ⟨bo, co, rfl⟩ := own_shape hoo; have hz1 := hb1.size)
    | (go_at_call 138; refine (hBa.out _ (HT.out.call hb1)).mono ?_; rintro e w3 ⟨vb, rfl, hob, hb3⟩; obtain ⟨bb, cb, rfl⟩ := own_shape hob; have hz3 := hb3.size))
  have HO := Lib.hid (own_call hb3 hoo)
  have HB := Lib.hid hob
  have hb13 : Below w.heap.size w w3 := below_via hb1 hb3 hz1
  clear hoo hob hb1 hb3
  go_loopw [18] (fun v18 wr => GlSt n0 w3 v18 wr) (fun v18 _ => L.length - (intOf v18).toNat)
  case atStart => exact ⟨0, rfl, Nat.zero_le _, Below.refl _ _⟩
  case round =>
    obtain ⟨n, rfl, hnn, hbel⟩ := hrel
    have hz := hbel.size
    have hnl : n < L.length := by omega
    go_wp2
    obtain ⟨wo, rfl⟩ : ∃ wo : World, wo = wr := ⟨_, rfl⟩
    go_loopw [9, 27] (fun v9 v27 wr => GlIn NN n Bs.length wo v9 v27 wr) (fun _ v27 _ => Bs.length - (intOf v27).toNat)
    case atStart => exact ⟨0, rfl, Nat.zero_le _, by rw [hr0.out], Lib.hid ((World.rowIs_made wo _ _ _).congr (fun j _ => hq0.out n j)), by simp, (by repeat (first | with_reducible exact Below.refl _ _ | with_reducible assumption | with_reducible apply Below.drew | with_reducible apply below_drewN | (with_reducible apply below_setp; (first | omega | (simp <;> omega))) | (with_reducible apply below_allocp; (first | omega | (simp <;> omega))) | (with_reducible refine below_viap (by assumption) ?_ ?_; (first | omega | (simp <;> omega)))))⟩
    case round =>
      obtain ⟨k, rfl, hk, rfl, hR, hlt0, hbi⟩ := hrel
      have hzi := hbi.size
      have hb3r : Below w3.heap.size w3 wr := below_via hbel hbi (by omega)
      by_cases hkl : k < Bs.length
      · obtain ⟨b, N, hbL, b1, o1, n2, n3, r1, q1⟩ := hK.out k hkl
        obtain ⟨gb, rfl, lb, cb0⟩ := own_elemI HB.out hkl
        obtain ⟨go, rfl, lo, c0⟩ := own_elemO HO.out hbL
        rw [b1] at cb0
        rw [o1] at c0
        have cb1 := (hb3r.cell (p := ⟨gb, k, none⟩) lb).trans cb0
        have c1 := (hb3r.cell (p := ⟨go, b, none⟩) lo).trans c0
        have ne1 : ¬ go = wo.heap.size := by omega
        have ne2 : ¬ wo.heap.size = go := by omega
        have lb2 : gb < wr.heap.size := by omega
        have lo2 : go < wr.heap.size := by omega
        clear cb0 c0
        have Hr1 := Lib.hid (r1 n)
        have Hq1 := Lib.hid (q1 n)
        have hrn := hrl.out n k
        generalize rK NN n k = r at *
        have t1 := tmod_nat (r := r) (N := N) (by omega)
        have t2 := tdiv_nat (r := r) (N := N) (by omega)
        have t3 : wrap64 ((r : Int) / (N : Int)) = (r : Int) / (N : Int) := by
          have h1 : r / N ≤ r := Nat.div_le_self _ _
          have e : (r : Int) / (N : Int) = ((r / N : Nat) : Int) := by simp
          rw [e]
          revert h1
          generalize r / N = qq
          intro h1
          exact IntWalk.wrap64_in _ (by omega)
        have cR := hR.out.cell hkl
        have fR := hR.out.frozen k
        generalize dgQ NN n k k = y at cR
        clear b1 o1 r1 q1
        go_wp2
        go_roundw
        case rel => exact ⟨k + 1, by go_num, hkl, by rw [Hr1.out]; (first | rfl | (simp; done) | (simp; exact t3)), Lib.hid ((hR.out.set k _).congr (fun j _ => Hq1.out j)), by simp; omega, (by repeat (first | with_reducible exact Below.refl _ _ | with_reducible assumption | with_reducible apply Below.drew | with_reducible apply below_drewN | (with_reducible apply below_setp; (first | omega | (simp <;> omega))) | (with_reducible apply below_allocp; (first | omega | (simp <;> omega))) | (with_reducible refine below_viap (by assumption) ?_ ?_; (first | omega | (simp <;> omega)))))⟩
        case measure => (first | (simp [intOf]; done) | (simp [intOf]; omega))
      · have e : k = Bs.length := by omega
        subst e
        have hown := rowIs_own (xs := cellsI (nats (digL n NN))) (B := wo.heap.size) hR.out (by rw [cellsI_len, hdl.out]) (hfull.out n) (by omega) (by unfold maxLen; omega)
        have HE := Lib.hid (show wr.ownsRow wo.heap.size 3 1 _ (nats (digL n NN)).length (cellsI (nats (digL n NN))) from by rw [hdl.out]; exact hown)
        have hb0r : Below w.heap.size w wr := below_via hb13 hb3r (by omega)
        have hCn := Lib.hid (HC.out n _ _ _ _ _ _ _ wr (HT.out.call hb0r) (own_call hb3r HB.out) (own_call hb3r HO.out) HE.out)
        have hgl := hGl.out n
        by_cases hgi : Gn n = i
        · have hT := HU.out n hgi
          rw [hT] at HE
          rw [hgi] at hCn
          clear hown hR
          go_wp2_with (go_at_call 143; refine hCn.out.mono ?_; rintro e w5 ⟨rfl, hb5⟩; have hz5 := hb5.size)
          go_ret
          exact ⟨_, rfl, own_base (by omega) (own_call hb5 HE.out), below_via hb0r hb5 (by omega)⟩
        · have hne := HV.out n hgi
          have hgb : (((Gn n : Nat) : Int) == (i : Int)) = false := by rw [beq_eq_false_iff_ne]; omega
          generalize Gn n = gg at *
          clear hown hR
          go_wp2_with (go_at_call 143; refine hCn.out.mono ?_; rintro e w5 ⟨rfl, hb5⟩; have hz5 := hb5.size)
          go_roundw
          case rel => exact ⟨n + 1, by go_num, by omega, below_via hb3r hb5 (by omega)⟩
          case measure => (first | (simp [intOf]; done) | (simp [intOf]; omega))
end Go.Proofs.Ytkkamlhpappebaa
