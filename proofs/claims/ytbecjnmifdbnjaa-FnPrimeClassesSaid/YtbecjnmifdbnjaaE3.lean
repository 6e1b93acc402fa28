/- Parts EL EM EN EO laid together by tp.py. -/
import Derived.Test.YtbecjnmifdbnjaaDY
import Derived.Test.YtbecjnmifdbnjaaPA
import Derived.Test.YtbecjnmifdbnjaaDX
import Derived.Test.YtbecjnmifdbnjaaDK
import Derived.Test.YtbecjnmifdbnjaaN7
import Derived.Test.YtbecjnmifdbnjaaSX
import Derived.Test.YtbecjnmifdbnjaaNB
import Derived.Test.YtbecjnmifdbnjaaPB
import Derived.Test.YtbecjnmifdbnjaaRF
import Derived.Test.YtbecjnmifdbnjaaQ6
import Derived.Test.YtbecjnmifdbnjaaE2
import Derived.Test.YtbecjnmifdbnjaaGX
namespace Go.Proofs.Ytbecjnmifdbnjaa
section
open Go.RowKit

theorem prm_9007 : prmB 9007 = true := by decide +kernel
section
variable {zs : List Int} {v : Value} {B G n : Nat} {w0 w : World}
theorem among_el (h : Drw zs v B G n w0 w) (hB : B ≤ G) (L : List Int) (P : Int → Prop) (hP : ∀ x ∈ L, P x) (h1 : 1 ≤ L.length) (h2 : L.length ≤ 1000) (hn : n + 2 ≤ 100000000) {N k : Nat} {xs : Array Value} (hN : N = w.heap.size) (hk : L.length = k) (hxs : (cellsI L).toArray = xs) :
    Calls Try.prog 200 #[.pointer (some ⟨G, 0, none⟩), .slice (some ⟨N, 0, none⟩) k k] (w.alloc (.cells xs 3)) fun e w' => ∃ x : Int, e = .returned (.int .i64 x) ∧ P x ∧ Drw zs v B G (n + 2) w0 w' ∧ w.grownBy w' (some G) := by
  subst hN hk hxs
  exact among_d h hB L P hP h1 h2 hn
def ShSt (v3 : Value) : Prop := ∃ p : Int, v3 = .int .i64 p ∧ 2 ≤ p ∧ p ≤ 9007

set_option maxRecDepth 100000 in
set_option maxHeartbeats 3200000 in
theorem shownPrime_d (h : Drw zs v B G n w0 w) (hB : B ≤ G) (hn : n + 4 ≤ 100000000) :
    Calls Try.prog 225 #[.pointer (some ⟨G, 0, none⟩)] w fun e w' => ∃ x : Int, e = .returned (.int .i64 x) ∧ True ∧ Drw zs v B G (n + 4) w0 w' ∧ w.grownBy w' (some G) := by
  have H := Lib.hid h
  have lG0 := h.lt
  have hD0 := Lib.hid (Drw.start h.rd h.cur)
  clear h
  have hfin : Hid (∀ (x : Int) (w' : World), Drw zs v B G (n + 4) w w' → ∃ y : Int, Ending.returned (.int .i64 x) = .returned (.int .i64 y) ∧ True ∧ Drw zs v B G (n + 4) w0 w' ∧ w.grownBy w' (some G)) :=
    Lib.hid (fun x w' hd => ⟨x, rfl, trivial, H.out.next hB hd.cur hd.gr, hd.gr⟩)
  have hNp := Lib.hid nuPrime_any
  go_enter Try.func225, Try.ntmps225
  go_wp2_with fail
  refine (pick_d (by repeat (first | with_reducible assumption | (with_reducible apply Hid.out; assumption) | with_reducible apply Drw.drewN | with_reducible apply Drw.drew | with_reducible apply Drw.alloc | (with_reducible refine Drw.setp ?_ ?_ ?_ ?_; (first | omega | (simp <;> omega)); (first | omega | (simp <;> omega)); (first | omega | (simp <;> omega))))) hB 8 (by omega) (by omega)).mono ?_
  rintro e v1 ⟨x1, rfl, hx1, hD1', hG1⟩
  have hD1 := Lib.hid hD1'
  have lG1 := hD1'.lt
  have zG1 := hG1.size
  (try simp at zG1)
  clear hD1' hG1
  by_cases h0 : x1 = 0
  · subst h0
    clear hx1
    go_wp2_with fail
    refine (among_el (w := v1) (Hid.out hD1) hB [2, 3, 9973, 10007, 1, 0, -3, 9999, 4] (fun _ => True) (fun _ _ => trivial) (by simp) (by simp) (by omega) rfl rfl rfl).mono ?_
    rintro e v2 ⟨y, rfl, _, hD2', hG2⟩
    have hD2 := Lib.hid hD2'
    go_wp2
    go_ret
    exact hfin.out _ _ (Drw.more (n := n + 2 + 2) (by repeat (first | with_reducible assumption | (with_reducible apply Hid.out; assumption) | with_reducible apply Drw.drewN | with_reducible apply Drw.drew | with_reducible apply Drw.alloc | (with_reducible refine Drw.setp ?_ ?_ ?_ ?_; (first | omega | (simp <;> omega)); (first | omega | (simp <;> omega)); (first | omega | (simp <;> omega))))) (by omega))
  · have e0 : (x1 == 0) = false := by rw [beq_eq_false_iff_ne]; exact h0
    by_cases h1 : x1 = 1
    · subst h1
      clear hx1
      go_wp2_with fail
      refine (pick_d (by repeat (first | with_reducible assumption | (with_reducible apply Hid.out; assumption) | with_reducible apply Drw.drewN | with_reducible apply Drw.drew | with_reducible apply Drw.alloc | (with_reducible refine Drw.setp ?_ ?_ ?_ ?_; (first | omega | (simp <;> omega)); (first | omega | (simp <;> omega)); (first | omega | (simp <;> omega))))) hB 9000 (by omega) (by omega)).mono ?_
      rintro e v2 ⟨x2, rfl, hx2, hD2', hG2⟩
      have hD2 := Lib.hid hD2'
      have lG2 := hD2'.lt
      have zG2 := hG2.size
      (try simp at zG2)
      clear hD2' hG2
      have hw : wrap64 (2 + x2) = 2 + x2 := IntWalk.wrap64_in _ (by omega)
      have hD2o := hD2
      go_wp2
      go_loop [3] (fun v3 => ShSt v3) (fun v3 => (9007 - intOf v3).toNat)
      case atStart => exact ⟨2 + x2, rfl, by omega, by omega⟩
      case round =>
        obtain ⟨p, rfl, p1, p2⟩ := hrel
        have hN := Lib.hid (fun w => hNp.out p w (by omega))
        cases hp : prmB p with
        | true =>
          rw [hp] at hN
          clear hp
          go_wp2_with (go_at_call 226; (with_reducible refine (hN.out _).mono ?_); rintro e v ⟨rfl, rfl⟩)
          go_ret
          exact hfin.out _ _ (Drw.more (n := n + 2 + 2) hD2o.out (by omega))
        | false =>
          rw [hp] at hN
          have hne : p ≠ 9007 := fun e => by rw [e, prm_9007] at hp; cases hp
          have hw2 : wrap64 (p + 1) = p + 1 := IntWalk.wrap64_in _ (by omega)
          clear hp
          go_wp2_with (go_at_call 226; (with_reducible refine (hN.out _).mono ?_); rintro e v ⟨rfl, rfl⟩)
          go_round
          case rel => exact ⟨p + 1, rfl, by omega, by omega⟩
          case measure => simp [intOf]; omega
    · have e1 : (x1 == 1) = false := by rw [beq_eq_false_iff_ne]; exact h1
      clear hx1
      go_wp2_with fail
      refine (pick_d (by repeat (first | with_reducible assumption | (with_reducible apply Hid.out; assumption) | with_reducible apply Drw.drewN | with_reducible apply Drw.drew | with_reducible apply Drw.alloc | (with_reducible refine Drw.setp ?_ ?_ ?_ ?_; (first | omega | (simp <;> omega)); (first | omega | (simp <;> omega)); (first | omega | (simp <;> omega))))) hB 500 (by omega) (by omega)).mono ?_
      rintro e v2 ⟨x2, rfl, hx2, hD2', hG2⟩
      have hD2 := Lib.hid hD2'
      have lG2 := hD2'.lt
      have zG2 := hG2.size
      (try simp at zG2)
      clear hD2' hG2
      have hw : wrap64 (2 + x2) = 2 + x2 := IntWalk.wrap64_in _ (by omega)
      have hD2o := hD2
      go_wp2
      go_loop [4] (fun v3 => ShSt v3) (fun v3 => (9007 - intOf v3).toNat)
      case atStart => exact ⟨2 + x2, rfl, by omega, by omega⟩
      case round =>
        obtain ⟨p, rfl, p1, p2⟩ := hrel
        have hN := Lib.hid (fun w => hNp.out p w (by omega))
        cases hp : prmB p with
        | true =>
          rw [hp] at hN
          clear hp
          go_wp2_with (go_at_call 226; (with_reducible refine (hN.out _).mono ?_); rintro e v ⟨rfl, rfl⟩)
          go_ret
          exact hfin.out _ _ (Drw.more (n := n + 2 + 2) hD2o.out (by omega))
        | false =>
          rw [hp] at hN
          have hne : p ≠ 9007 := fun e => by rw [e, prm_9007] at hp; cases hp
          have hw2 : wrap64 (p + 1) = p + 1 := IntWalk.wrap64_in _ (by omega)
          clear hp
          go_wp2_with (go_at_call 226; (with_reducible refine (hN.out _).mono ?_); rintro e v ⟨rfl, rfl⟩)
          go_round
          case rel => exact ⟨p + 1, rfl, by omega, by omega⟩
          case measure => simp [intOf]; omega
end
end

section
open Go.RowKit

/-- What a draw of two numbers gives. -/
def RetDi (w : World) (e : Ending) (w' : World) : Prop := ∃ d p : Int, e = .returned (.tuple #[.int .i64 d, .int .i64 p]) ∧ Below w.heap.size w w'
theorem prims_pos {n : Int} (h3 : 3 ≤ n) (h2 : n ≤ 200000) : 1 ≤ (prims n).length := by
  obtain ⟨p, hp, hd⟩ := Ab.prime_ex n.toNat (by omega)
  have hpi : PrI (p : Int) := by
    refine ⟨by have := hp.1; omega, fun q h2 hq hd => ?_⟩
    have hd2 : q.toNat ∣ p := by
      apply Int.natCast_dvd_natCast.1
      rw [Int.toNat_of_nonneg (by omega)]
      exact hd
    rcases hp.2 _ hd2 with e | e <;> omega
  have hm := (mem_prims (n := n) (x := p) (by omega) h2).2 ⟨hpi, by
    have := Int.natCast_dvd_natCast.2 hd
    rwa [Int.toNat_of_nonneg (by omega)] at this⟩
  exact List.length_pos_of_mem hm
set_option maxRecDepth 100000 in
set_option maxHeartbeats 3200000 in
theorem drawPF_any (zs : List Int) (v : Value) (B : Nat) (w : World) (hr : RdB zs v B w) (hB : B ≤ w.heap.size) :
    Calls Try.prog 138 #[v] w (RetDi w) := by
  obtain ⟨A, m, c, rfl⟩ := hr.shape
  have hD0 := Lib.hid (drw_start hr)
  clear hr
  go_enter Try.func138, Try.ntmps138
  go_wp2_with fail
  refine (disc_d (by repeat (first | with_reducible assumption | (with_reducible apply Hid.out; assumption) | with_reducible apply Drw.drewN | with_reducible apply Drw.drew | with_reducible apply Drw.alloc | (with_reducible refine Drw.setp ?_ ?_ ?_ ?_; (first | omega | (simp <;> omega)); (first | omega | (simp <;> omega)); (first | omega | (simp <;> omega))))) hB (by omega)).mono ?_
  rintro e v1 ⟨x1, rfl, hx1, hD1', hG1⟩
  have hD1 := Lib.hid hD1'
  clear hD1' hx1
  have hRD := Lib.hid (fun w => reDisc_any x1 w)
  cases hc : isDisc x1 with
  | false =>
    rw [hc] at hRD
    clear hc
    go_wp2_with (go_at_call 86; (with_reducible refine (hRD.out _).mono ?_); rintro e v ⟨rfl, rfl⟩)
    refine (shownPrime_d (by repeat (first | with_reducible assumption | (with_reducible apply Hid.out; assumption) | with_reducible apply Drw.drewN | with_reducible apply Drw.drew | with_reducible apply Drw.alloc | (with_reducible refine Drw.setp ?_ ?_ ?_ ?_; (first | omega | (simp <;> omega)); (first | omega | (simp <;> omega)); (first | omega | (simp <;> omega))))) hB (by omega)).mono ?_
    rintro e v2 ⟨x2, rfl, _, hD2', hG2⟩
    have hb2 := below_cur (hG1.trans hG2)
    go_wp2
    go_ret2
    exact ⟨_, _, rfl, hb2⟩
  | true =>
    rw [hc] at hRD
    have D := dsc_of hc
    have hP := Lib.hid (fun w => nuPrimes_any (-x1) w (by have := D.hi; omega) (by have := D.lo; omega))
    have hw : wrap64 (-x1) = -x1 := IntWalk.wrap64_in _ (by have := D.lo; have := D.hi; omega)
    clear hc
    go_wp2_with (go_at_call 86; (with_reducible refine (hRD.out _).mono ?_); rintro e v ⟨rfl, rfl⟩)
    refine (one_d (by repeat (first | with_reducible assumption | (with_reducible apply Hid.out; assumption) | with_reducible apply Drw.drewN | with_reducible apply Drw.drew | with_reducible apply Drw.alloc | (with_reducible refine Drw.setp ?_ ?_ ?_ ?_; (first | omega | (simp <;> omega)); (first | omega | (simp <;> omega)); (first | omega | (simp <;> omega))))) hB 4 (by omega) (by omega)).mono ?_
    rintro e v2 ⟨x2, rfl, _, hD2', hG2⟩
    have hD2 := Lib.hid hD2'
    have hb2 := below_cur (hG1.trans hG2)
    clear hD2' hD1
    cases x2 with
    | false =>
      go_wp2_with fail
      refine (shownPrime_d (by repeat (first | with_reducible assumption | (with_reducible apply Hid.out; assumption) | with_reducible apply Drw.drewN | with_reducible apply Drw.drew | with_reducible apply Drw.alloc | (with_reducible refine Drw.setp ?_ ?_ ?_ ?_; (first | omega | (simp <;> omega)); (first | omega | (simp <;> omega)); (first | omega | (simp <;> omega))))) hB (by omega)).mono ?_
      rintro e v3 ⟨x3, rfl, _, hD3', hG3⟩
      have hb3 := below_cur ((hG1.trans hG2).trans hG3)
      go_wp2
      go_ret2
      exact ⟨_, _, rfl, hb3⟩
    | true =>
      have lG2 := hD2.out.lt
      have hpp := prims_pos (n := -x1) (by have := D.hi; omega) (by have := D.lo; omega)
      have hpl := prims_len (-x1) (by have := D.lo; omega)
      clear D
      generalize prims (-x1) = L at *
      go_wp2_with (go_at_call 224; refine (hP.out _).mono ?_; rintro e v3 ⟨vl, rfl, hl, hb3⟩; obtain ⟨base, cap, rfl⟩ := own_shape hl)
      have hD3 : Drw zs _ B w.heap.size _ _ v3 := Drw.call (w := _) (by repeat (first | with_reducible assumption | (with_reducible apply Hid.out; assumption) | with_reducible apply Drw.drewN | with_reducible apply Drw.drew | with_reducible apply Drw.alloc | (with_reducible refine Drw.setp ?_ ?_ ?_ ?_; (first | omega | (simp <;> omega)); (first | omega | (simp <;> omega)); (first | omega | (simp <;> omega))))) hB hb3
      have hD3h := Lib.hid hD3
      have lG3 := hD3.lt
      clear hD3
      obtain ⟨n, hn⟩ : ∃ n, L.length = n := ⟨_, rfl⟩
      have HL := Lib.hid hn
      rw [hn] at hl hpp hpl ⊢
      clear hn
      have h64 : wrap64 (n : Int) = n := IntWalk.wrap64_in _ (by omega)
      have hLn := HL.out
      have hol := Lib.hid hl
      clear hl hG1 hG2 hb3 hP
      go_wp2
      go_region_with (go_at_call 120; refine (pick_d (Drw.drew (Hid.out hD3h)) hB n (by omega) (by omega)).mono ?_; rintro e v4 ⟨x4, rfl, hx4, hD4', hG4⟩; have ho4 := own_drw (own_drew hol.out) (by omega) hG4; have hz4 := hG4.size; obtain ⟨k, rfl⟩ : ∃ k : Nat, x4 = k := ⟨x4.toNat, by omega⟩; have hk : k < L.length := (by rw [hLn]; omega); have hkn : (k : Int) < n := (by omega); rw [← hLn] at ho4; obtain ⟨g, rfl, lg, d1⟩ := own_elemI ho4 hk; have hb4 := below_cur hD4'.gr; clear hD4' hG4 ho4 hx4; generalize L[k] = x at d1)
      all_goals
        go_wp2
        go_ret2
        exact ⟨_, _, rfl, hb4⟩
set_option maxHeartbeats 400000 in
theorem drawPC_any (zs : List Int) (v : Value) (B : Nat) (w : World) (hr : RdB zs v B w) (hB : B ≤ w.heap.size) :
    Calls Try.prog 51 #[v] w (RetDi w) := by
  have h := Lib.hid (fun w (hr : RdB zs v B w) (hB : B ≤ w.heap.size) => drawPF_any zs v B w hr hB)
  have H := Lib.hid hr
  clear hr
  go_enter Try.func51, Try.ntmps51
  go_wp2_with fail
  refine (h.out _ H.out hB).mono ?_
  rintro e v1 ⟨d, p, rfl, hb⟩
  go_wp2
  go_ret2
  exact ⟨_, _, rfl, hb⟩
end

section
open Go.RowKit

theorem prF_parts {d p : Int} {g : Fm} (hg : prF d p = some g) : isDisc d = true ∧ shB p = true ∧ pf d p = some g ∧ primB g = true := by
  unfold prF at hg
  split at hg
  · rename_i h
    rw [Bool.and_eq_true] at h
    rw [Option.filter_eq_some_iff] at hg
    exact ⟨h.1, h.2, hg.1, hg.2⟩
  · simp at hg
theorem pfO_no {d p : Int} (h : isDisc d = true) (h2 : shB p = true) (hn : prF d p = none) : pfO (pf d p) = false := by
  rw [prF_yes h h2] at hn
  cases hp : pf d p with
  | none => rfl
  | some f =>
    rw [hp] at hn
    cases hb : primB f with
    | false => exact hb
    | true => simp [Option.filter, hb] at hn
theorem pfO_some {f : Fm} (h : primB f = true) : pfO (some f) = true := h
set_option maxHeartbeats 800000 in
theorem primeC_no (d z : Int) (w : World) (h : prF d z = none) :
    Calls Try.prog 52 #[.int .i64 d, .int .i64 z] w fun e w' => e = .returned (.tuple #[.agg #[.int .i64 0, .int .i64 0, .int .i64 0], .bool false]) ∧ Below w.heap.size w w' := by
  have hP := Lib.hid (fun w => implPF_any d z w)
  rw [h] at hP
  dsimp only [pfV, Option.isSome_none, Option.getD_none] at hP
  clear h
  go_enter Try.func52, Try.ntmps52
  go_wp2_with (go_at_call 60; (with_reducible refine (hP.out _).mono ?_); rintro e v1 ⟨rfl, hB1⟩; have hZ1 := hB1.size; (try simp at hZ1); (try have zl1 : w.heap.size < v1.heap.size := by omega); (try have ze1 : w.heap.size ≤ v1.heap.size := by omega); (try have zn1 : ¬ w.heap.size = v1.heap.size := by omega); (try have zm1 : ¬ v1.heap.size = w.heap.size := by omega); have hC1_0 := fun o => (calm_cells hB1).1 (w.heap.size) o (by first | omega | (simp <;> omega)); have hF1_0 := fun o => (calm_cells hB1).2 (w.heap.size) o (by first | omega | (simp <;> omega)); (try have hl1_0 : w.heap.size < v1.heap.size := by omega); (try have hm1_0 : ¬ w.heap.size = v1.heap.size := by omega); (try have hn1_0 : ¬ v1.heap.size = w.heap.size := by omega))
  exact bodyPost_ret (v := .tuple #[.agg #[.int .i64 0, .int .i64 0, .int .i64 0], .bool false]) (by simp [results, Try.results52, go_sem, *]) rfl ⟨rfl, (by repeat (first | with_reducible exact Below.refl _ _ | with_reducible assumption | with_reducible apply Below.drew | with_reducible apply below_drewN | (with_reducible apply below_setp; (first | omega | (simp <;> omega))) | (with_reducible apply below_allocp; (first | omega | (simp <;> omega))) | (with_reducible refine below_viap (by assumption) ?_ ?_; (first | omega | (simp <;> omega)))))⟩

set_option maxHeartbeats 1600000 in
theorem specPC_no (d z : Int) (w : World) (h : prF d z = none) :
    Calls Try.prog 53 #[.int .i64 d, .int .i64 z] w fun e w' => e = .returned (.tuple #[.agg #[.int .i64 0, .int .i64 0, .int .i64 0], .bool false]) ∧ Below w.heap.size w w' := by
  have hRD := Lib.hid (fun w => reDisc_any d w)
  have hIP := Lib.hid (fun w => ipPrime_any z w)
  cases hc : isDisc d with
  | false =>
    rw [hc] at hRD
    clear hc h
    go_enter Try.func53, Try.ntmps53
    go_wp2_with (go_at_call 86; (with_reducible refine (hRD.out _).mono ?_); rintro e v ⟨rfl, rfl⟩)
    exact bodyPost_ret (v := .tuple #[.agg #[.int .i64 0, .int .i64 0, .int .i64 0], .bool false]) (by simp [results, Try.results53, go_sem, *]) rfl ⟨rfl, (by repeat (first | with_reducible exact Below.refl _ _ | with_reducible assumption | with_reducible apply Below.drew | with_reducible apply below_drewN | (with_reducible apply below_setp; (first | omega | (simp <;> omega))) | (with_reducible apply below_allocp; (first | omega | (simp <;> omega))) | (with_reducible refine below_viap (by assumption) ?_ ?_; (first | omega | (simp <;> omega)))))⟩
  | true =>
    cases hs : shB z with
    | false =>
      rw [hc] at hRD
      rw [hs] at hIP
      clear hc h hs
      go_enter Try.func53, Try.ntmps53
      go_wp2_with (first | (go_at_call 86; (with_reducible refine (hRD.out _).mono ?_); rintro e v ⟨rfl, rfl⟩) | (go_at_call 139; (with_reducible refine (hIP.out _).mono ?_); rintro e v ⟨rfl, rfl⟩))
      exact bodyPost_ret (v := .tuple #[.agg #[.int .i64 0, .int .i64 0, .int .i64 0], .bool false]) (by simp [results, Try.results53, go_sem, *]) rfl ⟨rfl, (by repeat (first | with_reducible exact Below.refl _ _ | with_reducible assumption | with_reducible apply Below.drew | with_reducible apply below_drewN | (with_reducible apply below_setp; (first | omega | (simp <;> omega))) | (with_reducible apply below_allocp; (first | omega | (simp <;> omega))) | (with_reducible refine below_viap (by assumption) ?_ ?_; (first | omega | (simp <;> omega)))))⟩
    | true =>
      have hF := Lib.hid (fun w => ipForm_any d z w (dsc_of hc) (shB_lo hs))
      rw [pfO_no hc hs h] at hF
      rw [hc] at hRD
      rw [hs] at hIP
      clear hc h hs
      generalize pfV (pf d z) = f at hF
      go_enter Try.func53, Try.ntmps53
      go_wp2_with (first | (go_at_call 86; (with_reducible refine (hRD.out _).mono ?_); rintro e v ⟨rfl, rfl⟩) | (go_at_call 139; (with_reducible refine (hIP.out _).mono ?_); rintro e v ⟨rfl, rfl⟩) | (go_at_call 140; (with_reducible refine (hF.out _).mono ?_); rintro e v1 ⟨rfl, hB1⟩; have hZ1 := hB1.size; (try simp at hZ1); (try have zl1 : w.heap.size < v1.heap.size := by omega); (try have ze1 : w.heap.size ≤ v1.heap.size := by omega); (try have zn1 : ¬ w.heap.size = v1.heap.size := by omega); (try have zm1 : ¬ v1.heap.size = w.heap.size := by omega); have hC1_0 := fun o => (calm_cells hB1).1 (w.heap.size) o (by first | omega | (simp <;> omega)); have hF1_0 := fun o => (calm_cells hB1).2 (w.heap.size) o (by first | omega | (simp <;> omega)); (try have hl1_0 : w.heap.size < v1.heap.size := by omega); (try have hm1_0 : ¬ w.heap.size = v1.heap.size := by omega); (try have hn1_0 : ¬ v1.heap.size = w.heap.size := by omega)))
      exact bodyPost_ret (v := .tuple #[.agg #[.int .i64 0, .int .i64 0, .int .i64 0], .bool false]) (by simp [results, Try.results53, go_sem, *]) rfl ⟨rfl, (by repeat (first | with_reducible exact Below.refl _ _ | with_reducible assumption | with_reducible apply Below.drew | with_reducible apply below_drewN | (with_reducible apply below_setp; (first | omega | (simp <;> omega))) | (with_reducible apply below_allocp; (first | omega | (simp <;> omega))) | (with_reducible refine below_viap (by assumption) ?_ ?_; (first | omega | (simp <;> omega)))))⟩

set_option maxHeartbeats 1600000 in
theorem specPC_some (d z : Int) (f : Fm) (w : World) (h : prF d z = some f) :
    Calls Try.prog 53 #[.int .i64 d, .int .i64 z] w fun e w' => e = .returned (.tuple #[.agg #[.int .i64 (red f).a, .int .i64 (red f).b, .int .i64 (red f).c], .bool true]) ∧ Below w.heap.size w w' := by
  have cf := prF_cf h
  have hRD := Lib.hid (fun w => reDisc_any d w)
  have hIP := Lib.hid (fun w => ipPrime_any z w)
  obtain ⟨hc, hs, hp, hb⟩ := prF_parts h
  have hF := Lib.hid (fun w => ipForm_any d z w (dsc_of hc) (shB_lo hs))
  rw [hp, pfO_some hb] at hF
  dsimp only [pfV, Option.getD_some] at hF
  rw [hc] at hRD
  rw [hs] at hIP
  have hR := Lib.hid (fun w => reClass_any f.a f.b f.c (red f).a (red f).b (red f).c w cf.df rfl)
  generalize red f = r at *
  clear cf h hc hs hp hb
  go_enter Try.func53, Try.ntmps53
  go_wp2_with (first | (go_at_call 86; (with_reducible refine (hRD.out _).mono ?_); rintro e v ⟨rfl, rfl⟩) | (go_at_call 139; (with_reducible refine (hIP.out _).mono ?_); rintro e v ⟨rfl, rfl⟩) | (go_at_call 140; (with_reducible refine (hF.out _).mono ?_); rintro e v1 ⟨rfl, hB1⟩; have hZ1 := hB1.size; (try simp at hZ1); (try have zl1 : w.heap.size < v1.heap.size := by omega); (try have ze1 : w.heap.size ≤ v1.heap.size := by omega); (try have zn1 : ¬ w.heap.size = v1.heap.size := by omega); (try have zm1 : ¬ v1.heap.size = w.heap.size := by omega); have hC1_0 := fun o => (calm_cells hB1).1 (w.heap.size) o (by first | omega | (simp <;> omega)); have hF1_0 := fun o => (calm_cells hB1).2 (w.heap.size) o (by first | omega | (simp <;> omega)); (try have hl1_0 : w.heap.size < v1.heap.size := by omega); (try have hm1_0 : ¬ w.heap.size = v1.heap.size := by omega); (try have hn1_0 : ¬ v1.heap.size = w.heap.size := by omega)) | (go_at_call 114; (with_reducible refine (hR.out _).mono ?_); rintro e v2 ⟨rfl, hB2⟩; have hZ2 := hB2.size; (try simp at hZ2); (try have zl2 : w.heap.size < v2.heap.size := by omega); (try have ze2 : w.heap.size ≤ v2.heap.size := by omega); (try have zn2 : ¬ w.heap.size = v2.heap.size := by omega); (try have zm2 : ¬ v2.heap.size = w.heap.size := by omega); have hC2_0 := fun o => (calm_cells hB2).1 (w.heap.size) o (by first | omega | (simp <;> omega)); have hF2_0 := fun o => (calm_cells hB2).2 (w.heap.size) o (by first | omega | (simp <;> omega)); (try have hl2_0 : w.heap.size < v2.heap.size := by omega); (try have hm2_0 : ¬ w.heap.size = v2.heap.size := by omega); (try have hn2_0 : ¬ v2.heap.size = w.heap.size := by omega)))
  exact bodyPost_ret (v := .tuple #[.agg #[.int .i64 r.a, .int .i64 r.b, .int .i64 r.c], .bool true]) (by simp [results, Try.results53, go_sem, *]) rfl ⟨rfl, (by repeat (first | with_reducible exact Below.refl _ _ | with_reducible assumption | with_reducible apply Below.drew | with_reducible apply below_drewN | (with_reducible apply below_setp; (first | omega | (simp <;> omega))) | (with_reducible apply below_allocp; (first | omega | (simp <;> omega))) | (with_reducible refine below_viap (by assumption) ?_ ?_; (first | omega | (simp <;> omega)))))⟩

set_option maxHeartbeats 800000 in
theorem implIsPr_any (n : Int) (w : World) (h1 : 1 ≤ n) (h2 : n ≤ 10000) :
    Calls Try.prog 55 #[.int .i64 n] w fun e w' => e = .returned (.bool (prmB n)) ∧ Below w.heap.size w w' := by
  have hN := Lib.hid (fun w => areNum1 n true 3 w ((isNum_iff n).2 ⟨by omega, by omega⟩))
  have hP := Lib.hid (fun w => isPrime_any n w h2)
  generalize prmB n = b at *
  go_enter Try.func55, Try.ntmps55
  go_wp2_with (first | (go_at_call 91; (with_reducible refine (hN.out _).mono ?_); rintro e v ⟨rfl, rfl⟩) | (go_at_call 141; (with_reducible refine (hP.out _).mono ?_); rintro e v ⟨rfl, rfl⟩))
  go_ret
  exact ⟨rfl, (by repeat (first | with_reducible exact Below.refl _ _ | with_reducible assumption | with_reducible apply Below.drew | with_reducible apply below_drewN | (with_reducible apply below_setp; (first | omega | (simp <;> omega))) | (with_reducible apply below_allocp; (first | omega | (simp <;> omega))) | (with_reducible refine below_viap (by assumption) ?_ ?_; (first | omega | (simp <;> omega)))))⟩
end

section

theorem prep_of {f : Fm} {x y p : Int} (hg : Int.gcd x y = 1) (h : f.a * x * x + f.b * x * y + f.c * y * y = p) : prep f p := ⟨x, y, hg, by rw [← h]; grind⟩
theorem two_len {L : List Fm} {a b : Fm} (nd : L.Nodup) (h : ∀ f ∈ L, f = a ∨ f = b) : L.length ≤ 2 ∧ (a = b → L.length ≤ 1) := by
  match L, nd, h with
  | [], _, _ => simp
  | [x], _, _ => simp
  | x :: y :: T, nd, h =>
    have hx := h x (by simp)
    have hy := h y (by simp)
    rw [List.nodup_cons, List.nodup_cons] at nd
    have hxy : x ≠ y := fun e => nd.1 (by rw [e]; simp)
    refine ⟨?_, fun e => ?_⟩
    · match T, nd, h with
      | [], _, _ => simp
      | z :: T, nd, h =>
        exfalso
        have hz := h z (by simp)
        have h1 : x ≠ z := fun e => nd.1 (by rw [e]; simp)
        have h2 : y ≠ z := fun e => nd.2.1 (by rw [e]; simp)
        rcases hx with rfl | rfl <;> rcases hy with rfl | rfl <;> rcases hz with rfl | rfl <;> simp_all
    · exfalso
      subst e
      rcases hx with rfl | rfl <;> rcases hy with rfl | rfl <;> simp_all
structure PcRow (d p : Int) (g : Fm) : Prop where
  ds : isDisc d = true
  sh : shwB p = true
  pa : g.a = p
  dc : disc g = d
  icl : isCls g.a g.b g.c = true
  rm : red g ∈ clsL d
  L1 : red g ∈ (clsL d).filter (repP d p)
  L2 : red (oppF (red g)) ∈ (clsL d).filter (repP d p)
  l2 : ((clsL d).filter (repP d p)).length ≤ 2
  l1 : red g = red (oppF (red g)) → ((clsL d).filter (repP d p)).length ≤ 1
  gv : GenV (red g).a (red g).b (red g).c (gnL d (red g)) true
  vv : ∀ V ok, VaV d p V ok → ok = true → V = gnL d (red g)
theorem pc_row {d p : Int} {g : Fm} (hg : prF d p = some g) : PcRow d p g := by
  obtain ⟨hc, hs, hpf, hb⟩ := prF_parts hg
  have cg := prF_cf hg
  have D := cg.D
  obtain ⟨s1, s2⟩ := shB_lo hs
  obtain ⟨b, hbb, _, hgb⟩ := pfF_some _ _ _ _ _ hpf (Int.le_refl _)
  have ga : g.a = p := by rw [hgb]
  have gb : 0 ≤ g.b ∧ g.b ≤ p := by rw [hgb]; exact hbb
  have hgd : g.b * g.b - 4 * g.a * g.c = d := cg.dc
  have hmem := rp_some hg
  have hnd : ((clsL d).filter (repP d p)).Nodup := (clsL_nodup d).filter _
  have two := two_len hnd (fun f hf => (hmem f).1 hf)
  have cs := cf_self D cg.mem
  obtain ⟨x, y, v, hgp, hv⟩ := gn_ex D cg.mem
  refine ⟨hc, ?_, ga, cg.dc, ?_, cg.mem, (hmem _).2 (.inl rfl), (hmem _).2 (.inr rfl), two.1, two.2, ?_, ?_⟩
  · unfold shwB; rw [decide_eq_true (show 1 ≤ p by omega), decide_eq_true s2]; rfl
  · have d1 := D.lo
    have d2 := D.hi
    have hbb0 : 0 ≤ g.b * g.b := Int.mul_nonneg gb.1 gb.1
    have hbb1 : g.b * g.b ≤ p * p := Int.mul_le_mul gb.2 gb.2 gb.1 (by omega)
    have hc0 := cg.df.c0
    have hcb : g.c ≤ 1000000 := by
      apply Int.not_lt.1
      intro hlt
      have h1 : 4 * p * 1000001 ≤ 4 * p * g.c := Int.mul_le_mul_of_nonneg_left (by omega) (by omega)
      rw [ga] at hgd
      have h2 : p * p ≤ p * 10000 := Int.mul_le_mul_of_nonneg_left s2 (by omega)
      omega
    unfold isCls isShown isDefB isFm isNum
    have hgcd : Int.gcd g.a (Int.gcd g.b g.c) = 1 := of_decide_eq_true hb
    have hdd : disc ⟨g.a, g.b, g.c⟩ = d := cg.dc
    rw [hdd, ga]
    rw [ga] at hgcd
    simp only [Bool.and_eq_true, decide_eq_true_eq]
    refine ⟨⟨⟨⟨⟨?_, ?_⟩, ⟨?_, ?_⟩, ?_, ?_⟩, ?_, ?_⟩, ?_⟩, hgcd⟩ <;> omega
  · have hcl := cls_isCls D cg.mem
    refine .inr ⟨hcl, x, y, v, ?_, ?_, rfl⟩
    · rw [cs.rd, cs.dc]; exact hgp
    · rw [cs.dc]; exact hv.symm
  · rintro V ok (⟨h1, _⟩ | ⟨_, _, _, rfl⟩ | ⟨_, _, _, _, rfl⟩ | ⟨_, _, hgc, rfl, _⟩) hok
    · rw [h1] at hc; cases hc
    · cases hok
    · cases hok
    · obtain ⟨x', y', hxy, hvv⟩ := rep_self cg
      rw [ga] at hvv
      exact vals_gn D cg.mem (prep_of hxy hvv) hgc
theorem vaV_ex (d p : Int) : ∃ V ok, VaV d p V ok ∧ (ok = false → V = []) := by
  cases hc : isDisc d with
  | false => exact ⟨_, _, .inl ⟨hc, rfl, rfl⟩, fun _ => rfl⟩
  | true =>
    cases hn : isNum p with
    | false => exact ⟨_, _, .inr (.inl ⟨hc, hn, rfl, rfl⟩), fun _ => rfl⟩
    | true =>
      by_cases hg : Int.gcd p (2 * d) = 1
      · exact ⟨_, _, .inr (.inr (.inr ⟨hc, hn, hg, rfl, rfl⟩)), by simp⟩
      · exact ⟨_, _, .inr (.inr (.inl ⟨hc, hn, hg, rfl, rfl⟩)), fun _ => rfl⟩
/-- Where there is no form of the prime. -/
theorem pc_none {d p : Int} (h : prF d p = none) {L : List Fm} {ok : Bool} (hr : RpL d p L ok) (hok : ok = true) : (1 ≤ p ∧ p ≤ 10000) ∧ (prmB p = true → L = []) := by
  rcases hr with ⟨_, _, rfl⟩ | ⟨_, _, _, rfl⟩ | ⟨hc, hs, rfl, _⟩
  · cases hok
  · cases hok
  · have hb : 1 ≤ p ∧ p ≤ 10000 := by unfold shwB at hs; simpa using hs
    exact ⟨hb, fun hp => rp_none hc hp hb.2 h⟩
end
end Go.Proofs.Ytbecjnmifdbnjaa
