/- Contracts of SquareCoset, of the reference. -/
import Derived.Test.YtononfokhdmofaaK6
import Derived.Test.YtononfokhdmofaaK7
import Derived.Test.YtononfokhdmofaaK9
namespace Go.Proofs.Ytononfokhdmofaa
open Go.RowKit

theorem fmEq_comm (f g : Fm) : fmEq f g = fmEq g f := by
  rw [Bool.eq_iff_iff, fmEq_iff, fmEq_iff]
  exact ⟨fun h => h.symm, fun h => h.symm⟩
/-- The composites of r with the forms of S. -/
noncomputable def cosT (d : Int) (r : Fm) (S : List Fm) : List Fm := S.map fun g => cmp d r g
theorem cosT_next {d : Int} {r : Fm} {S : List Fm} {k : Nat} (h : k < S.length) : cosT d r (S.take (k + 1)) = cosT d r (S.take k) ++ [cmp d r S[k]] := by
  unfold cosT
  rw [List.take_succ_eq_append_getElem h, List.map_append]; rfl
theorem cosT_len (d : Int) (r : Fm) (S : List Fm) : (cosT d r S).length = S.length := by unfold cosT; simp
theorem cosT_all {d : Int} {r : Fm} {S : List Fm} (D : Dsc d) (hr : r ∈ clsL d) (hS : ∀ g ∈ S, g ∈ clsL d) : frm (clsL d) (ixs (clsL d) (cosT d r S)) = (clsL d).filter (hasF (cosT d r S)) := by
  rw [frm_ixs (clsL_nodup d) (by intro t ht; obtain ⟨g, hg, rfl⟩ := List.mem_map.1 ht; exact D.cmpm hr (hS g hg))]
  congr 1
  funext f
  unfold hasF
  congr 1
  funext t
  exact fmEq_comm f t
theorem ixs_len2 (L T : List Fm) : (ixs L T).length ≤ T.length := by
  have := ixs_len L T T.length
  rwa [List.take_length] at this
/-- The state of the reference's loop. -/
def GcSt (d : Int) (r : Fm) (L S : List Fm) (w3 : World) (v vi : Value) (wr : World) : Prop :=
  ∃ k : Nat, vi = .int .i64 k ∧ k ≤ S.length ∧ wr.ownsRow w3.heap.size 3 1 v (ixs L (cosT d r (S.take k))).length (cellsI (ixs L (cosT d r (S.take k)))) ∧ Below w3.heap.size w3 wr

set_option maxRecDepth 100000 in
set_option maxHeartbeats 3200000 in
theorem geCoset_any (d : Int) (f0 r : Fm) (w : World) (cf : CF d f0 r) :
    Calls Try.prog 77 #[.agg #[.int .i64 f0.a, .int .i64 f0.b, .int .i64 f0.c]] w (RetF ((clsL d).filter (hasF (cosT d r ((clsL d).filter (powP d 2 (clsL d)))))) w) := by
  have hl : (clsL d).length ≤ 100000 := Nat.le_trans (clsL_len d) (by decide)
  have hD := cf.D
  have Hr := Lib.hid (fun w => reList_any d w hD.lo hD.hi)
  have HP := Lib.hid (fun w => gePowers_any d 2 w hD (by decide))
  have HDc := Lib.hid (fun w => foDisc_cf d f0 r w cf)
  have hS : ∀ g ∈ (clsL d).filter (powP d 2 (clsL d)), g ∈ clsL d := fun g hg => (List.mem_filter.1 hg).1
  have hsl : ((clsL d).filter (powP d 2 (clsL d))).length ≤ 100000 := Nat.le_trans (List.length_filter_le _ _) hl
  rw [← cosT_all hD cf.mem hS]
  generalize (clsL d).filter (powP d 2 (clsL d)) = S at *
  have hcm := Lib.hid (fun g (h : g ∈ S) w => coMul_cf d f0 g r g _ w cf (CF.of_mem hD (hS g h)) rfl)
  have hA := Lib.hid (ixs_lt (L := clsL d) (T := cosT d r S) (by intro t ht; obtain ⟨g, hg, rfl⟩ := List.mem_map.1 ht; exact hD.cmpm cf.mem (hS g hg)))
  generalize clsL d = L at *
  clear cf hD hS
  go_enter Try.func77, Try.ntmps77
  go_wp2_with (first
    | (go_at_call 57; (with_reducible refine (HDc.out _).mono ?_); rintro e v1 ⟨rfl, hB1⟩; have hZ1 := hB1.size; (try simp at hZ1); (try have zl1 : w.heap.size < v1.heap.size := by omega); (try have ze1 : w.heap.size ≤ v1.heap.size := by omega); (try have zn1 : ¬ w.heap.size = v1.heap.size := by omega); (try have zm1 : ¬ v1.heap.size = w.heap.size := by omega); have hA1 : Blk v1 (w.heap.size) 26 #[.int .i64 f0.a, .int .i64 f0.b, .int .i64 f0.c] := Blk.call (by (repeat (first | with_reducible assumption | (with_reducible apply Blk.new_at; (first | rfl | (simp; done))) | with_reducible apply Blk.store3 | with_reducible apply Blk.store4 | (with_reducible apply Blk.farp; (first | omega | (simp <;> omega))) | with_reducible apply Blk.allocp | with_reducible apply Blk.drew | with_reducible apply Blk.drewN))) hB1; have cA1 := hA1.cell; have fA1 := hA1.frozen; have lA1 := hA1.lt; have mA1 := Nat.ne_of_gt lA1; have nA1 := Nat.ne_of_lt lA1)
    | (go_at_call 67; refine (Hr.out _).mono ?_; rintro e v2 ⟨vl, rfl, howl, hB2⟩; obtain ⟨base, cap, rfl⟩ := own_shape howl; have hZ2 := hB2.size; have hA2 := Blk.call hA1 hB2)
    | (go_at_call 56; refine (HP.out _).mono ?_; rintro e v3 ⟨vs, rfl, hos, hB3⟩; obtain ⟨bs, cs, rfl⟩ := own_shape hos; have hZ3 := hB3.size; have hA3 := Blk.call hA2 hB3))
  obtain ⟨B, hB⟩ : ∃ B : Nat, B = v1.heap.size := ⟨_, rfl⟩
  rw [← hB] at howl
  obtain ⟨B2, hBe2⟩ : ∃ B2 : Nat, B2 = v2.heap.size := ⟨_, rfl⟩
  rw [← hBe2] at hos
  have HL := Lib.hid (own_call hB3 howl)
  have HS := Lib.hid hos
  have HA := Lib.hid hA3
  have hbw : Below w.heap.size w v3 := (by repeat (first | with_reducible exact Below.refl _ _ | with_reducible assumption | with_reducible apply Below.drew | with_reducible apply below_drewN | (with_reducible apply below_setp; (first | omega | (simp <;> omega))) | (with_reducible apply below_allocp; (first | omega | (simp <;> omega))) | (with_reducible refine below_viap (by assumption) ?_ ?_; (first | omega | (simp <;> omega)))))
  have hwA := hA3.lt
  clear howl hos hA3 hA2 hA1 cA1 fA1 lA1 hB1 hB2 hB3
  go_loopw [5, 15] (fun v i wr => GcSt d r L S v3 v i wr) (fun _ i _ => S.length - (intOf i).toNat)
  case atStart => exact ⟨0, rfl, Nat.zero_le _, World.ownsRow_nil _ _ _ _, (by repeat (first | with_reducible exact Below.refl _ _ | with_reducible assumption | with_reducible apply Below.drew | with_reducible apply below_drewN | (with_reducible apply below_setp; (first | omega | (simp <;> omega))) | (with_reducible apply below_allocp; (first | omega | (simp <;> omega))) | (with_reducible refine below_viap (by assumption) ?_ ?_; (first | omega | (simp <;> omega)))))⟩
  case round =>
    obtain ⟨k, rfl, hk, hown, hbel⟩ := hrel
    have hz := hbel.size
    have howl := own_call hbel HL.out
    have hAr := Blk.call HA.out hbel
    have cA := hAr.cell; have fA := hAr.frozen; have lA := hAr.lt
    by_cases hlt : k < S.length
    · have hft := cosT_next (d := d) (r := r) hlt
      have hql : (ixs L (cosT d r (S.take k))).length ≤ 100000 := by have := ixs_len2 L (cosT d r (S.take k)); rw [cosT_len, List.length_take] at this; omega
      obtain ⟨g, rfl, hg2, d1, d2, d3⟩ := own_elem (own_call hbel HS.out) hlt
      have hfm := List.getElem_mem hlt
      generalize S[k] = f at d1 d2 d3 hft hfm
      have hW := Lib.hid (hcm.out f hfm)
      generalize Go.Proofs.Ytononfokhdmofaa.cmp d r f = P at hW hft
      have hft2 : ixs L (cosT d r (S.take (k + 1))) = putI (ixs L (cosT d r (S.take k))) (gix L P) := by rw [hft, ixs_snoc]
      generalize ixs L (cosT d r (S.take k)) = Q at hft2 hown hql
      have Hft := Lib.hid hft2
      have n1 : ¬ w.heap.size = wr.heap.size := by omega
      have n2 : w.heap.size < wr.heap.size + 1 := by omega
      clear hft hft2 hfm
      go_wp2_with (first
        | (go_at_call 116; (with_reducible refine (hW.out _).mono ?_); rintro e v1 ⟨rfl, hB1⟩; have hZ1 := hB1.size; (try simp at hZ1); (try have zl1 : w.heap.size < v1.heap.size := by omega); (try have ze1 : w.heap.size ≤ v1.heap.size := by omega); (try have zn1 : ¬ w.heap.size = v1.heap.size := by omega); (try have zm1 : ¬ v1.heap.size = w.heap.size := by omega); have hC1_0 := fun o => (calm_cells hB1).1 (wr.heap.size) o (by first | omega | (simp <;> omega)); have hF1_0 := fun o => (calm_cells hB1).2 (wr.heap.size) o (by first | omega | (simp <;> omega)); (try have hl1_0 : wr.heap.size < v1.heap.size := by omega); (try have hm1_0 : ¬ wr.heap.size = v1.heap.size := by omega); (try have hn1_0 : ¬ v1.heap.size = wr.heap.size := by omega))
        | (have hol1 : v1.ownsRow B 26 3 (.slice base L.length cap) L.length (cellsF L) := (by repeat (first | with_reducible assumption | with_reducible apply own_alloc | with_reducible apply own_drew | with_reducible apply own_drewN | (with_reducible refine own_setp (by assumption) ?_ ?_; (first | omega | (simp <;> omega))) | (with_reducible refine own_call (by assumption) ?_)))
           have hon1 : v1.ownsRow v3.heap.size 3 1 u5 Q.length (cellsI Q) := (by repeat (first | with_reducible assumption | with_reducible apply own_alloc | with_reducible apply own_drew | with_reducible apply own_drewN | (with_reducible refine own_setp (by assumption) ?_ ?_; (first | omega | (simp <;> omega))) | (with_reducible refine own_call (by assumption) ?_)))
           (go_at_call 55; (with_reducible refine (grIndex_any _ B L P _ hl hol1).mono ?_); rintro e v2 ⟨rfl, hB2⟩; have hZ2 := hB2.size; (try simp at hZ2); (try have zl2 : w.heap.size < v2.heap.size := by omega); (try have ze2 : w.heap.size ≤ v2.heap.size := by omega); (try have zn2 : ¬ w.heap.size = v2.heap.size := by omega); (try have zm2 : ¬ v2.heap.size = w.heap.size := by omega); have hC2_0 := fun o => (calm_cells hB2).1 (wr.heap.size) o (by first | omega | (simp <;> omega)); have hF2_0 := fun o => (calm_cells hB2).2 (wr.heap.size) o (by first | omega | (simp <;> omega)); (try have hl2_0 : wr.heap.size < v2.heap.size := by omega); (try have hm2_0 : ¬ wr.heap.size = v2.heap.size := by omega); (try have hn2_0 : ¬ v2.heap.size = wr.heap.size := by omega))
           have hon2 := own_call hB2 hon1)
        | (go_at_call 101; refine (l1Put_any _ v3.heap.size Q _ _ (by omega) (by omega) hon2).mono ?_; rintro e w3 ⟨x3, rfl, hon3, _, hB3⟩; have hZ3 := hB3.size))
      have hb3 : Below v3.heap.size v3 w3 := (by repeat (first | with_reducible exact Below.refl _ _ | with_reducible assumption | with_reducible apply Below.drew | with_reducible apply below_drewN | (with_reducible apply below_setp; (first | omega | (simp <;> omega))) | (with_reducible apply below_allocp; (first | omega | (simp <;> omega))) | (with_reducible refine below_viap (by assumption) ?_ ?_; (first | omega | (simp <;> omega)))))
      rw [← Hft.out] at hon3
      clear hown howl hbel
      go_wp2
      go_roundw
      case rel => exact ⟨k + 1, rfl, hlt, hon3, hb3⟩
      case measure => simp [intOf]; omega
    · have e : k = S.length := by omega
      have hx : cosT d r (S.take k) = cosT d r S := by rw [e, List.take_length]
      have hql : (ixs L (cosT d r S)).length ≤ 100000 := by have := ixs_len2 L (cosT d r S); rw [cosT_len] at this; omega
      rw [hx] at hown
      subst e
      clear hx
      obtain ⟨A, hAe⟩ : ∃ A, ixs L (cosT d r S) = A := ⟨_, rfl⟩
      rw [hAe] at hown hql hA
      have HAe := Lib.hid hAe
      clear hAe
      go_wp2_with (go_at_call 88; refine (grForms_any _ _ B v3.heap.size L A _ hql hA.out howl hown).mono ?_; rintro e w4 ⟨x4, rfl, how4, hB4⟩)
      have hz5 := hbw.size
      go_ret
      exact ⟨_, rfl, by rw [HAe.out]; exact own_base (by omega) how4, (by repeat (first | with_reducible exact Below.refl _ _ | with_reducible assumption | with_reducible apply Below.drew | with_reducible apply below_drewN | (with_reducible apply below_setp; (first | omega | (simp <;> omega))) | (with_reducible apply below_allocp; (first | omega | (simp <;> omega))) | (with_reducible refine below_viap (by assumption) ?_ ?_; (first | omega | (simp <;> omega)))))⟩

/-- What SquareCoset gives. -/
def ScL (a b c : Int) (L : List Fm) (ok : Bool) : Prop :=
  (isCls a b c = false ∧ L = [] ∧ ok = false) ∨
  (isCls a b c = true ∧ L = (clsL (disc ⟨a, b, c⟩)).filter (hasF (cosT (disc ⟨a, b, c⟩) (red ⟨a, b, c⟩) ((clsL (disc ⟨a, b, c⟩)).filter (powP (disc ⟨a, b, c⟩) 2 (clsL (disc ⟨a, b, c⟩)))))) ∧ ok = true)
theorem scL_ex (a b c : Int) : ∃ L ok, ScL a b c L ok ∧ L.length ≤ 100000 := by
  cases hc : isCls a b c with
  | false => exact ⟨_, _, .inl ⟨hc, rfl, rfl⟩, by simp⟩
  | true => exact ⟨_, _, .inr ⟨hc, rfl, rfl⟩, Nat.le_trans (List.length_filter_le _ _) (Nat.le_trans (clsL_len _) (by decide))⟩

set_option maxRecDepth 100000 in
set_option maxHeartbeats 1600000 in
theorem specSC_any (a b c : Int) (L : List Fm) (ok : Bool) (w : World) (h : ScL a b c L ok) :
    Calls Try.prog 27 #[.agg #[.int .i64 a, .int .i64 b, .int .i64 c]] w (RetFb L ok w) := by
  rcases h with ⟨hc, rfl, rfl⟩ | ⟨hc, hL, rfl⟩
  · go_enter Try.func27, Try.ntmps27
    go_wp2_with (go_at_call 54; (with_reducible refine (scls_any a b c _).mono ?_); rw [hc]; rintro e v1 ⟨rfl, hB1⟩; have hZ1 := hB1.size; (try simp at hZ1); (try have zl1 : w.heap.size < v1.heap.size := by omega); (try have ze1 : w.heap.size ≤ v1.heap.size := by omega); (try have zn1 : ¬ w.heap.size = v1.heap.size := by omega); (try have zm1 : ¬ v1.heap.size = w.heap.size := by omega); have hC1_0 := fun o => (calm_cells hB1).1 (w.heap.size) o (by first | omega | (simp <;> omega)); have hF1_0 := fun o => (calm_cells hB1).2 (w.heap.size) o (by first | omega | (simp <;> omega)); (try have hl1_0 : w.heap.size < v1.heap.size := by omega); (try have hm1_0 : ¬ w.heap.size = v1.heap.size := by omega); (try have hn1_0 : ¬ v1.heap.size = w.heap.size := by omega))
    go_ret2
    exact ⟨_, rfl, World.ownsRow_nil _ _ _ _, (by repeat (first | with_reducible exact Below.refl _ _ | with_reducible assumption | with_reducible apply Below.drew | with_reducible apply below_drewN | (with_reducible apply below_setp; (first | omega | (simp <;> omega))) | (with_reducible apply below_allocp; (first | omega | (simp <;> omega))) | (with_reducible refine below_viap (by assumption) ?_ ?_; (first | omega | (simp <;> omega)))))⟩
  · have hG := fun w => geCoset_any _ ⟨a, b, c⟩ _ w (CF.of_cls hc)
    rw [← hL] at hG
    have HG := Lib.hid hG
    clear hL hG
    go_enter Try.func27, Try.ntmps27
    go_wp2_with (first
      | (go_at_call 54; (with_reducible refine (scls_any a b c _).mono ?_); rw [hc]; rintro e v1 ⟨rfl, hB1⟩; have hZ1 := hB1.size; (try simp at hZ1); (try have zl1 : w.heap.size < v1.heap.size := by omega); (try have ze1 : w.heap.size ≤ v1.heap.size := by omega); (try have zn1 : ¬ w.heap.size = v1.heap.size := by omega); (try have zm1 : ¬ v1.heap.size = w.heap.size := by omega); have hA1 : Blk v1 (w.heap.size) 26 #[.int .i64 a, .int .i64 b, .int .i64 c] := Blk.call (by (repeat (first | with_reducible assumption | (with_reducible apply Blk.new_at; (first | rfl | (simp; done))) | with_reducible apply Blk.store3 | with_reducible apply Blk.store4 | (with_reducible apply Blk.farp; (first | omega | (simp <;> omega))) | with_reducible apply Blk.allocp | with_reducible apply Blk.drew | with_reducible apply Blk.drewN))) hB1; have cA1 := hA1.cell; have fA1 := hA1.frozen; have lA1 := hA1.lt; have mA1 := Nat.ne_of_gt lA1; have nA1 := Nat.ne_of_lt lA1)
      | (go_at_call 77; refine (HG.out _).mono ?_; rintro e v5 ⟨vl, rfl, howl, hB5⟩; have hZ5 := hB5.size))
    go_ret2
    exact ⟨_, rfl, own_base (by omega) howl, (by repeat (first | with_reducible exact Below.refl _ _ | with_reducible assumption | with_reducible apply Below.drew | with_reducible apply below_drewN | (with_reducible apply below_setp; (first | omega | (simp <;> omega))) | (with_reducible apply below_allocp; (first | omega | (simp <;> omega))) | (with_reducible refine below_viap (by assumption) ?_ ?_; (first | omega | (simp <;> omega)))))⟩
end Go.Proofs.Ytononfokhdmofaa
