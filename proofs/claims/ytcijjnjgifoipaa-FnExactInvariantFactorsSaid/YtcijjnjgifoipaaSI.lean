/- Contracts of InvariantFactors and IsCyclic, of both sides. -/
import Derived.Test.YtcijjnjgifoipaaSH
namespace Go.Proofs.Ytcijjnjgifoipaa
open Go.RowKit Go.Maps

theorem fold_len_iff {d : Int} : ∀ (F : List Int) (out : List Int) (n : Nat), (F.foldl (facE d) out).length ≤ n ↔ out.length ≤ n ∧ ∀ x ∈ F, ∀ i, i < exE (clsL d).length x.toNat → rkP d x.toNat i ≤ n
  | [], out, n => by simp
  | x :: F, out, n => by
    rw [List.foldl_cons, fold_len_iff F, facE, facP_len]
    constructor
    · rintro ⟨⟨h1, h2⟩, h3⟩
      refine ⟨h1, fun y hy i hi => ?_⟩
      rcases List.mem_cons.1 hy with rfl | hy
      · exact h2 i hi
      · exact h3 y hy i hi
    · rintro ⟨h1, h2⟩
      exact ⟨⟨h1, fun i hi => h2 x (by simp) i hi⟩, fun y hy => h2 y (by simp [hy])⟩
theorem prn_int {p : Nat} (h : Ab.PrN p) : PrI (p : Int) := by
  refine ⟨by have := h.1; omega, fun q h2 hq hd => ?_⟩
  have hd2 : q.toNat ∣ p := by
    apply Int.natCast_dvd_natCast.1
    rw [Int.toNat_of_nonneg (by omega)]
    exact hd
  rcases h.2 _ hd2 with e | e <;> omega
/-- One generator is enough just if some class has all classes as powers. -/
theorem inv_cyc {d : Int} (D : Dsc d) : (invL d).length < 2 ↔ ∃ f ∈ clsL d, ordF d f = (clsL d).length := by
  have hm0 : 0 < (clsL d).length := List.length_pos_of_mem D.one
  have hm1 := clsL_len d
  rw [← cyc_iff D]
  have h := fold_len_iff (d := d) (prims (clsL d).length) [] 1
  unfold invL
  constructor
  · intro hl p e r hp hm _ i hi
    have hmem : (p : Int) ∈ prims (clsL d).length := (mem_prims (by omega) (by omega)).2 ⟨prn_int hp, Int.natCast_dvd_natCast.2 (by
      rw [hm]
      exact Nat.dvd_trans (Nat.dvd_trans (Nat.dvd_refl p) (by
        have := Nat.pow_dvd_pow p (show 1 ≤ e by omega)
        rwa [Nat.pow_one] at this)) (Nat.dvd_mul_right _ _))⟩
    obtain ⟨r2, hP, hx⟩ := pf_of D hmem
    have h2 := (h.1 (by omega)).2 _ hmem
    rw [show (p : Int).toNat = p from rfl] at h2 hP
    refine h2 i ((hP.md i).1 (Nat.mod_eq_zero_of_dvd ?_))
    rw [hm]
    exact Nat.dvd_trans (Nat.pow_dvd_pow p (by omega)) (Nat.dvd_mul_right _ _)
  · intro hc
    have := h.2 ⟨by simp, fun x hx i hi => ?_⟩
    · omega
    · have hp := prI_nat ((mem_prims (by omega) (by omega)).1 hx).1
      obtain ⟨r, h1, h2⟩ := exE_ok hp hm0
      exact hc _ _ r hp h1 h2 i hi
/-- A list of integers in new memory, and a word. -/
def RetIb (L : List Int) (ok : Bool) (w : World) (e : Ending) (w' : World) : Prop := ∃ v, e = .returned (.tuple #[v, .bool ok]) ∧ w'.ownsRow w.heap.size 3 1 v L.length (cellsI L) ∧ Below w.heap.size w w'
/-- What InvariantFactors gives. -/
def IvL (d : Int) (L : List Int) (ok : Bool) : Prop := (isDisc d = false ∧ L = [] ∧ ok = false) ∨ (isDisc d = true ∧ L = (invL d).reverse ∧ ok = true)
theorem ivL_ex (d : Int) : ∃ L ok, IvL d L ok ∧ L.length ≤ 100000 := by
  cases hc : isDisc d with
  | false => exact ⟨_, _, .inl ⟨hc, rfl, rfl⟩, by simp⟩
  | true =>
    refine ⟨_, _, .inr ⟨hc, rfl, rfl⟩, ?_⟩
    have := inv_len (dsc_of hc) (prims (clsL d).length) [] (fun _ h => h) (by simp)
    rw [List.length_reverse]
    unfold invL
    omega

set_option maxRecDepth 100000 in
set_option maxHeartbeats 1600000 in
theorem implIv_any (d : Int) (R : List Int) (ok : Bool) (w : World) (h : IvL d R ok) : Calls Try.prog 28 #[.int .i64 d] w (RetIb R ok w) := by
  rcases h with ⟨hc, rfl, rfl⟩ | ⟨hc, rfl, rfl⟩
  · go_enter Try.func28, Try.ntmps28
    go_wp2_with (go_at_call 33; (with_reducible refine (negDisc_eq d false _ hc).mono ?_); rintro e v ⟨rfl, rfl⟩)
    go_ret2
    exact ⟨_, rfl, own_empty (by omega), (by repeat (first | with_reducible exact Below.refl _ _ | with_reducible assumption | with_reducible apply Below.drew | with_reducible apply below_drewN | (with_reducible apply below_setp; (first | omega | (simp <;> omega))) | (with_reducible apply below_allocp; (first | omega | (simp <;> omega))) | (with_reducible refine below_viap (by assumption) ?_ ?_; (first | omega | (simp <;> omega)))))⟩
  · have D := dsc_of hc
    obtain ⟨L, hL⟩ : ∃ L, clsL d = L := ⟨_, rfl⟩
    have hG := Lib.hid (fun w => groupOf_any d w D)
    rw [hL] at hG
    have hO := Lib.hid (fun (B G : Nat) (w : World) (hg : Grp L B G w) => gorders_any d L B G w D hL hg)
    have hI := Lib.hid (fun (B : Nat) (bo : Option Addr) (co : Nat) (w : World) h => invariants_any d L B bo co w D hL h)
    obtain ⟨R, hR⟩ : ∃ R, (invL d).reverse = R := ⟨_, rfl⟩
    rw [hR] at hI ⊢
    clear D hL hR
    go_enter Try.func28, Try.ntmps28
    go_wp2_with (first
      | (go_at_call 33; (with_reducible refine (negDisc_eq d true _ hc).mono ?_); rintro e v ⟨rfl, rfl⟩)
      | (go_at_call 34; refine (hG.out _).mono ?_; rintro e w1 ⟨G, rfl, hg1, hG0, hb1⟩; have hz1' := hb1.size)
      | (go_at_call 35; refine (hO.out _ _ _ hg1).mono ?_; rintro e w3 ⟨vo, rfl, hoo, hb3⟩; rw [ordsL_len] at hoo; obtain ⟨bo, co, rfl⟩ := own_shape hoo; have hz3 := hb3.size)
      | (go_at_call 62; refine (hI.out _ _ _ _ hoo).mono ?_; rintro e w4 ⟨vr, rfl, hor, hb4⟩))
    go_ret2
    exact ⟨_, rfl, own_base (by omega) hor, below_via (below_via hb1 hb3 hz1') hb4 (by omega)⟩

set_option maxRecDepth 100000 in
set_option maxHeartbeats 1600000 in
theorem specIv_any (d : Int) (R : List Int) (ok : Bool) (w : World) (h : IvL d R ok) : Calls Try.prog 27 #[.int .i64 d] w (RetIb R ok w) := by
  rcases h with ⟨hc, rfl, rfl⟩ | ⟨hc, rfl, rfl⟩
  · go_enter Try.func27, Try.ntmps27
    go_wp2_with (go_at_call 29; (with_reducible refine (rDisc_eq d false _ hc).mono ?_); rintro e v ⟨rfl, rfl⟩)
    go_ret2
    exact ⟨_, rfl, World.ownsRow_nil _ _ _ _, (by repeat (first | with_reducible exact Below.refl _ _ | with_reducible assumption | with_reducible apply Below.drew | with_reducible apply below_drewN | (with_reducible apply below_setp; (first | omega | (simp <;> omega))) | (with_reducible apply below_allocp; (first | omega | (simp <;> omega))) | (with_reducible refine below_viap (by assumption) ?_ ?_; (first | omega | (simp <;> omega)))))⟩
  · have D := dsc_of hc
    obtain ⟨L, hL⟩ : ∃ L, clsL d = L := ⟨_, rfl⟩
    have hT := Lib.hid (fun w => grTable_any d w D)
    rw [hL] at hT
    have hO := Lib.hid (fun (B : Nat) (base : Option Addr) (cap : Nat) (w : World) (ht : Tab d L B (.slice base L.length cap) w) => grOrders_any d L B base cap w D hL ht)
    have hI := Lib.hid (fun (B : Nat) (bo : Option Addr) (co : Nat) (w : World) h => grFactors_any d L B bo co w D hL h)
    obtain ⟨R, hR⟩ : ∃ R, (invL d).reverse = R := ⟨_, rfl⟩
    rw [hR] at hI ⊢
    clear D hL hR
    go_enter Try.func27, Try.ntmps27
    go_wp2_with (first
      | (go_at_call 29; (with_reducible refine (rDisc_eq d true _ hc).mono ?_); rintro e v ⟨rfl, rfl⟩)
      | (go_at_call 32; refine (hT.out _).mono ?_; rintro e w1 ⟨base, cap, rfl, ht1, hb1⟩; have hz1' := hb1.size)
      | (go_at_call 31; refine (hO.out _ _ _ _ ht1).mono ?_; rintro e w3 ⟨vo, rfl, hoo, hb3⟩; rw [ordsL_len] at hoo; obtain ⟨bo, co, rfl⟩ := own_shape hoo; have hz3 := hb3.size)
      | (go_at_call 30; refine (hI.out _ _ _ _ hoo).mono ?_; rintro e w4 ⟨vr, rfl, hor, hb4⟩))
    go_ret2
    exact ⟨_, rfl, own_base (by omega) hor, below_via (below_via hb1 hb3 hz1') hb4 (by omega)⟩

/-- What IsCyclic gives. -/
def CyB (d : Int) (b ok : Bool) : Prop := (isDisc d = false ∧ b = false ∧ ok = false) ∨ (isDisc d = true ∧ (b = true ↔ ∃ f ∈ clsL d, ordF d f = (clsL d).length) ∧ ok = true)
theorem cyB_ex (d : Int) : ∃ b ok, CyB d b ok := by
  cases hc : isDisc d with
  | false => exact ⟨_, _, .inl ⟨hc, rfl, rfl⟩⟩
  | true => open Classical in exact ⟨decide (∃ f ∈ clsL d, ordF d f = (clsL d).length), _, .inr ⟨hc, by simp, rfl⟩⟩
def CySt (d : Int) (L : List Fm) (vi : Value) : Prop := ∃ k : Nat, vi = .int .i64 k ∧ k ≤ L.length ∧ Hid (∀ j (h : j < L.length), j < k → ordF d L[j] ≠ L.length)

set_option maxRecDepth 100000 in
set_option maxHeartbeats 1600000 in
theorem implCy_any (d : Int) (b ok : Bool) (w : World) (h : CyB d b ok) : Calls Try.prog 10 #[.int .i64 d] w fun e w' => e = .returned (.tuple #[.bool b, .bool ok]) ∧ Below w.heap.size w w' := by
  rcases h with ⟨hc, rfl, rfl⟩ | ⟨hc, hb, rfl⟩
  · go_enter Try.func10, Try.ntmps10
    go_wp2_with (go_at_call 33; (with_reducible refine (negDisc_eq d false _ hc).mono ?_); rintro e v ⟨rfl, rfl⟩)
    go_ret2
    exact ⟨rfl, (by repeat (first | with_reducible exact Below.refl _ _ | with_reducible assumption | with_reducible apply Below.drew | with_reducible apply below_drewN | (with_reducible apply below_setp; (first | omega | (simp <;> omega))) | (with_reducible apply below_allocp; (first | omega | (simp <;> omega))) | (with_reducible refine below_viap (by assumption) ?_ ?_; (first | omega | (simp <;> omega)))))⟩
  · have D := dsc_of hc
    obtain ⟨L, hL⟩ : ∃ L, clsL d = L := ⟨_, rfl⟩
    have hl : L.length ≤ 1640 := by rw [← hL]; exact clsL_len d
    have hl1 : 1 ≤ L.length := by rw [← hL]; exact List.length_pos_of_mem D.one
    have hG := Lib.hid (fun w => groupOf_any d w D)
    rw [hL] at hG hb
    have hO := Lib.hid (fun (B G : Nat) (w : World) (hg : Grp L B G w) => gorders_any d L B G w D hL hg)
    have Hb := Lib.hid hb
    clear D hL hb
    go_enter Try.func10, Try.ntmps10
    go_wp2_with (first
      | (go_at_call 33; (with_reducible refine (negDisc_eq d true _ hc).mono ?_); rintro e v ⟨rfl, rfl⟩)
      | (go_at_call 34; refine (hG.out _).mono ?_; rintro e w1 ⟨G, rfl, hg1, hG0, hb1⟩; have hz1' := hb1.size)
      | (go_at_call 35; refine (hO.out _ _ _ hg1).mono ?_; rintro e w3 ⟨vo, rfl, hoo, hb3⟩; rw [ordsL_len] at hoo; obtain ⟨bo, co, rfl⟩ := own_shape hoo; have hz3 := hb3.size))
    have HO := Lib.hid hoo
    have hbw : Below w.heap.size w w3 := below_via hb1 hb3 hz1'
    obtain ⟨go, rfl, hgo, _⟩ := own_elemO hoo (k := 0) hl1
    clear hoo hb3 hb1 hg1
    go_loop [15] (fun vi => CySt d L vi) (fun vi => L.length - (intOf vi).toNat)
    case atStart => exact ⟨0, rfl, Nat.zero_le _, Lib.hid (fun _ _ h => absurd h (Nat.not_lt_zero _))⟩
    case round =>
      obtain ⟨k, rfl, hk, hs⟩ := hrel
      by_cases hlt : k < L.length
      · obtain ⟨g2, e1, e2, o1⟩ := own_elemO HO.out hlt
        injection e1 with e1; injection e1 with e1; subst e1
        by_cases he : ordF d L[k] = L.length
        · have hbt : b = true := Hb.out.2 ⟨L[k], List.getElem_mem hlt, he⟩
          rw [he] at o1
          subst hbt
          clear he
          go_wp2
          go_ret2
          exact ⟨rfl, hbw⟩
        · have hs2 : Hid (∀ j (h : j < L.length), j < k + 1 → ordF d L[j] ≠ L.length) := Lib.hid (fun j h hj => by
            by_cases e : j = k
            · subst e; exact he
            · exact hs.out j h (by omega))
          have he1 : (((ordF d L[k] : Nat) : Int) == (L.length : Int)) = false := by rw [beq_eq_false_iff_ne]; intro h; exact he (by omega)
          have hne : ¬ ordF d L[k] = L.length := he
          generalize ordF d L[k] = N at *
          clear he hs
          go_wp2
          go_round
          case rel => exact ⟨k + 1, by go_num, hlt, hs2⟩
          case measure => simp [intOf]; omega
      · have hbf : b = false := by
          rw [← Bool.not_eq_true]
          intro h
          obtain ⟨f, hf, ho⟩ := Hb.out.1 h
          obtain ⟨j, hj, rfl⟩ := List.getElem_of_mem hf
          exact hs.out j hj (by omega) ho
        subst hbf
        clear hs
        go_wp2
        go_ret2
        exact ⟨rfl, hbw⟩

set_option maxRecDepth 100000 in
set_option maxHeartbeats 1600000 in
theorem specCy_any (d : Int) (b ok : Bool) (w : World) (h : CyB d b ok) : Calls Try.prog 9 #[.int .i64 d] w fun e w' => e = .returned (.tuple #[.bool b, .bool ok]) ∧ Below w.heap.size w w' := by
  rcases h with ⟨hc, rfl, rfl⟩ | ⟨hc, hb, rfl⟩
  · go_enter Try.func9, Try.ntmps9
    go_wp2_with (go_at_call 29; (with_reducible refine (rDisc_eq d false _ hc).mono ?_); rintro e v ⟨rfl, rfl⟩)
    go_ret2
    exact ⟨rfl, (by repeat (first | with_reducible exact Below.refl _ _ | with_reducible assumption | with_reducible apply Below.drew | with_reducible apply below_drewN | (with_reducible apply below_setp; (first | omega | (simp <;> omega))) | (with_reducible apply below_allocp; (first | omega | (simp <;> omega))) | (with_reducible refine below_viap (by assumption) ?_ ?_; (first | omega | (simp <;> omega)))))⟩
  · have D := dsc_of hc
    obtain ⟨L, hL⟩ : ∃ L, clsL d = L := ⟨_, rfl⟩
    have hT := Lib.hid (fun w => grTable_any d w D)
    rw [hL] at hT
    have hO := Lib.hid (fun (B : Nat) (base : Option Addr) (cap : Nat) (w : World) (ht : Tab d L B (.slice base L.length cap) w) => grOrders_any d L B base cap w D hL ht)
    have hI := Lib.hid (fun (B : Nat) (bo : Option Addr) (co : Nat) (w : World) h => grFactors_any d L B bo co w D hL h)
    have hb2 := hb.trans (inv_cyc D).symm
    have hln : (invL d).reverse.length = (invL d).length := List.length_reverse
    rw [← hln] at hb2
    have hRl : (invL d).reverse.length ≤ 2000 := by
      have := inv_len D (prims (clsL d).length) [] (fun _ h => h) (by simp)
      rw [hln]
      exact this
    obtain ⟨R, hR⟩ : ∃ R, (invL d).reverse = R := ⟨_, rfl⟩
    rw [hR] at hI hb2 hRl
    clear D hL hR hb hln
    have He := Lib.hid (show decide ((R.length : Int) < 2) = b by
      rw [Bool.eq_iff_iff, hb2, decide_eq_true_iff]
      omega)
    clear hb2
    go_enter Try.func9, Try.ntmps9
    go_wp2_with (first
      | (go_at_call 29; (with_reducible refine (rDisc_eq d true _ hc).mono ?_); rintro e v ⟨rfl, rfl⟩)
      | (go_at_call 32; refine (hT.out _).mono ?_; rintro e w1 ⟨base, cap, rfl, ht1, hb1⟩; have hz1' := hb1.size)
      | (go_at_call 31; refine (hO.out _ _ _ _ ht1).mono ?_; rintro e w3 ⟨vo, rfl, hoo, hb3⟩; rw [ordsL_len] at hoo; obtain ⟨bo, co, rfl⟩ := own_shape hoo; have hz3 := hb3.size)
      | (go_at_call 30; refine (hI.out _ _ _ _ hoo).mono ?_; rintro e w4 ⟨vr, rfl, hor, hb4⟩; obtain ⟨br, cr, rfl⟩ := own_shape hor))
    go_ret2
    exact ⟨congrArg (fun x => Ending.returned (.tuple #[.bool x, .bool true])) He.out, below_via (below_via hb1 hb3 hz1') hb4 (by omega)⟩
end Go.Proofs.Ytcijjnjgifoipaa
