/- Parts R4 R5 R6 laid together by tp.py. -/
import Derived.Test.YteehcjjhkphdnaaGreatKX
import Derived.Test.YteehcjjhkphdnaaGreatK7
import Derived.Test.YteehcjjhkphdnaaGreatK9
import Derived.Test.YteehcjjhkphdnaaGreatK2
import Derived.Test.YteehcjjhkphdnaaGreatW4
import Derived.Deep.RegionLaw
import Derived.Test.YteehcjjhkphdnaaGreatTZ
namespace Go.Proofs.YteehcjjhkphdnaaGreat
section
open Go.RowKit

theorem fmEq_comm (f g : Fm) : fmEq f g = fmEq g f := by
  rw [Bool.eq_iff_iff, fmEq_iff, fmEq_iff]
  exact ⟨fun h => h.symm, fun h => h.symm⟩
/-- The composites of r with the forms of S. -/
noncomputable def cosT (d : Int) (r : Fm) (S : List Fm) : List Fm := S.map fun g => cmp d r g
theorem cosT_next {d : Int} {r : Fm} {S : List Fm} {k : Nat} (h : k < S.length) : cosT d r (S.take (k + 1)) = cosT d r (S.take k) ++ [cmp d r S[k]] := by
  unfold cosT
  rw [List.take_succ_eq_append_getElem h, List.map_append]; rfl
theorem cosT_len (d : Int) (r : Fm) (S : List Fm) : (cosT d r S).length = S.length := by unfold cosT; simp
theorem cosT_all {d : Int} {r : Fm} {S : List Fm} (D : Dsc d) (hr : r ∈ clsL d) (hS : ∀ g ∈ S, g ∈ clsL d) : frm (clsL d) (ixs (clsL d) (cosT d r S)) = (clsL d).filter (hasF (cosT d r S)) := by
  rw [frm_ixs (clsL_nodup d) (by intro t ht; obtain ⟨g, hg, rfl⟩ := List.mem_map.1 ht; exact D.cmpm hr (hS g hg))]
  congr 1
  funext f
  unfold hasF
  congr 1
  funext t
  exact fmEq_comm f t
theorem ixs_len2 (L T : List Fm) : (ixs L T).length ≤ T.length := by
  have := ixs_len L T T.length
  rwa [List.take_length] at this
/-- The state of the reference's loop. -/
def GcSt (d : Int) (r : Fm) (L S : List Fm) (w3 : World) (v vi : Value) (wr : World) : Prop :=
  ∃ k : Nat, vi = .int .i64 k ∧ k ≤ S.length ∧ wr.ownsRow w3.heap.size 3 1 v (ixs L (cosT d r (S.take k))).length (cellsI (ixs L (cosT d r (S.take k)))) ∧ Below w3.heap.size w3 wr

set_option maxRecDepth 100000 in
set_option maxHeartbeats 3200000 in
theorem geCoset_any (d : Int) (f0 r : Fm) (w : World) (cf : CF d f0 r) :
    Calls Tryz.prog 128 #[.agg #[.int .i64 f0.a, .int .i64 f0.b, .int .i64 f0.c]] w (RetF ((clsL d).filter (hasF (cosT d r ((clsL d).filter (powP d 2 (clsL d)))))) w) := by
  have hl : (clsL d).length ≤ 100000 := Nat.le_trans (clsL_len d) (by decide)
  have hD := cf.D
  have Hr := Lib.hid (fun w => reList_any d w hD.lo hD.hi)
  have HP := Lib.hid (fun w => gePowers_any d 2 w hD (by decide))
  have HDc := Lib.hid (fun w => foDisc_cf d f0 r w cf)
  have hS : ∀ g ∈ (clsL d).filter (powP d 2 (clsL d)), g ∈ clsL d := fun g hg => (List.mem_filter.1 hg).1
  have hsl : ((clsL d).filter (powP d 2 (clsL d))).length ≤ 100000 := Nat.le_trans (List.length_filter_le _ _) hl
  rw [← cosT_all hD cf.mem hS]
  generalize (clsL d).filter (powP d 2 (clsL d)) = S at *
  have hcm := Lib.hid (fun g (h : g ∈ S) w => coMul_cf d f0 g r g _ w cf (CF.of_mem hD (hS g h)) rfl)
  have hA := Lib.hid (ixs_lt (L := clsL d) (T := cosT d r S) (by intro t ht; obtain ⟨g, hg, rfl⟩ := List.mem_map.1 ht; exact hD.cmpm cf.mem (hS g hg)))
  generalize clsL d = L at *
  clear cf hD hS
  go_enter Tryz.func128, Tryz.ntmps128
  go_wp2_with (first
    | (go_at_call 137; (with_reducible refine (HDc.out _).mono ?_); rintro e v1 ⟨rfl, hB1⟩; have hZ1 := hB1.size; (try simp at hZ1); (try have zl1 : w.heap.size < v1.heap.size := by omega); (try have ze1 : w.heap.size ≤ v1.heap.size := by omega); (try have zn1 : ¬ w.heap.size = v1.heap.size := by omega); (try have zm1 : ¬ v1.heap.size = w.heap.size := by omega); have hA1 : Blk v1 (w.heap.size) 36 #[.int .i64 f0.a, .int .i64 f0.b, .int .i64 f0.c] := Blk.call (by (repeat (first | with_reducible assumption | (with_reducible apply Blk.new_at; (first | rfl | (simp; done))) | with_reducible apply Blk.store3 | with_reducible apply Blk.store4 | (with_reducible apply Blk.farp; (first | omega | (simp <;> omega))) | with_reducible apply Blk.allocp | with_reducible apply Blk.drew | with_reducible apply Blk.drewN))) hB1; have cA1 := hA1.cell; have fA1 := hA1.frozen; have lA1 := hA1.lt; have mA1 := Nat.ne_of_gt lA1; have nA1 := Nat.ne_of_lt lA1)
    | (go_at_call 140; refine (Hr.out _).mono ?_; rintro e v2 ⟨vl, rfl, howl, hB2⟩; obtain ⟨base, cap, rfl⟩ := own_shape howl; have hZ2 := hB2.size; have hA2 := Blk.call hA1 hB2)
    | (go_at_call 75; refine (HP.out _).mono ?_; rintro e v3 ⟨vs, rfl, hos, hB3⟩; obtain ⟨bs, cs, rfl⟩ := own_shape hos; have hZ3 := hB3.size; have hA3 := Blk.call hA2 hB3))
  obtain ⟨B, hB⟩ : ∃ B : Nat, B = v1.heap.size := ⟨_, rfl⟩
  rw [← hB] at howl
  obtain ⟨B2, hBe2⟩ : ∃ B2 : Nat, B2 = v2.heap.size := ⟨_, rfl⟩
  rw [← hBe2] at hos
  have HL := Lib.hid (own_call hB3 howl)
  have HS := Lib.hid hos
  have HA := Lib.hid hA3
  have hbw : Below w.heap.size w v3 := (by repeat (first | with_reducible exact Below.refl _ _ | with_reducible assumption | with_reducible apply Below.drew | with_reducible apply below_drewN | (with_reducible apply below_setp; (first | omega | (simp <;> omega))) | (with_reducible apply below_allocp; (first | omega | (simp <;> omega))) | (with_reducible refine below_viap (by assumption) ?_ ?_; (first | omega | (simp <;> omega)))))
  have hwA := hA3.lt
  clear howl hos hA3 hA2 hA1 cA1 fA1 lA1 hB1 hB2 hB3
  go_loopw [5, 15] (fun v i wr => GcSt d r L S v3 v i wr) (fun _ i _ => S.length - (intOf i).toNat)
  case atStart => exact ⟨0, rfl, Nat.zero_le _, World.ownsRow_nil _ _ _ _, (by repeat (first | with_reducible exact Below.refl _ _ | with_reducible assumption | with_reducible apply Below.drew | with_reducible apply below_drewN | (with_reducible apply below_setp; (first | omega | (simp <;> omega))) | (with_reducible apply below_allocp; (first | omega | (simp <;> omega))) | (with_reducible refine below_viap (by assumption) ?_ ?_; (first | omega | (simp <;> omega)))))⟩
  case round =>
    obtain ⟨k, rfl, hk, hown, hbel⟩ := hrel
    have hz := hbel.size
    have howl := own_call hbel HL.out
    have hAr := Blk.call HA.out hbel
    have cA := hAr.cell; have fA := hAr.frozen; have lA := hAr.lt
    by_cases hlt : k < S.length
    · have hft := cosT_next (d := d) (r := r) hlt
      have hql : (ixs L (cosT d r (S.take k))).length ≤ 100000 := by have := ixs_len2 L (cosT d r (S.take k)); rw [cosT_len, List.length_take] at this; omega
      obtain ⟨g, rfl, hg2, d1, d2, d3⟩ := own_elem (own_call hbel HS.out) hlt
      have hfm := List.getElem_mem hlt
      generalize S[k] = f at d1 d2 d3 hft hfm
      have hW := Lib.hid (hcm.out f hfm)
      generalize Go.Proofs.YteehcjjhkphdnaaGreat.cmp d r f = P at hW hft
      have hft2 : ixs L (cosT d r (S.take (k + 1))) = putI (ixs L (cosT d r (S.take k))) (gix L P) := by rw [hft, ixs_snoc]
      generalize ixs L (cosT d r (S.take k)) = Q at hft2 hown hql
      have Hft := Lib.hid hft2
      have n1 : ¬ w.heap.size = wr.heap.size := by omega
      have n2 : w.heap.size < wr.heap.size + 1 := by omega
      clear hft hft2 hfm
      go_wp2_with (first
        | (go_at_call 174; (with_reducible refine (hW.out _).mono ?_); rintro e v1 ⟨rfl, hB1⟩; have hZ1 := hB1.size; (try simp at hZ1); (try have zl1 : w.heap.size < v1.heap.size := by omega); (try have ze1 : w.heap.size ≤ v1.heap.size := by omega); (try have zn1 : ¬ w.heap.size = v1.heap.size := by omega); (try have zm1 : ¬ v1.heap.size = w.heap.size := by omega); have hC1_0 := fun o => (calm_cells hB1).1 (wr.heap.size) o (by first | omega | (simp <;> omega)); have hF1_0 := fun o => (calm_cells hB1).2 (wr.heap.size) o (by first | omega | (simp <;> omega)); (try have hl1_0 : wr.heap.size < v1.heap.size := by omega); (try have hm1_0 : ¬ wr.heap.size = v1.heap.size := by omega); (try have hn1_0 : ¬ v1.heap.size = wr.heap.size := by omega))
        | (have hol1 : v1.ownsRow B 36 3 (.slice base L.length cap) L.length (cellsF L) := (by repeat (first | with_reducible assumption | with_reducible apply own_alloc | with_reducible apply own_drew | with_reducible apply own_drewN | (with_reducible refine own_setp (by assumption) ?_ ?_; (first | omega | (simp <;> omega))) | (with_reducible refine own_call (by assumption) ?_)))
           have hon1 : v1.ownsRow v3.heap.size 3 1 u5 Q.length (cellsI Q) := (by repeat (first | with_reducible assumption | with_reducible apply own_alloc | with_reducible apply own_drew | with_reducible apply own_drewN | (with_reducible refine own_setp (by assumption) ?_ ?_; (first | omega | (simp <;> omega))) | (with_reducible refine own_call (by assumption) ?_)))
           (go_at_call 139; (with_reducible refine (grIndex_any _ B L P _ hl hol1).mono ?_); rintro e v2 ⟨rfl, hB2⟩; have hZ2 := hB2.size; (try simp at hZ2); (try have zl2 : w.heap.size < v2.heap.size := by omega); (try have ze2 : w.heap.size ≤ v2.heap.size := by omega); (try have zn2 : ¬ w.heap.size = v2.heap.size := by omega); (try have zm2 : ¬ v2.heap.size = w.heap.size := by omega); have hC2_0 := fun o => (calm_cells hB2).1 (wr.heap.size) o (by first | omega | (simp <;> omega)); have hF2_0 := fun o => (calm_cells hB2).2 (wr.heap.size) o (by first | omega | (simp <;> omega)); (try have hl2_0 : wr.heap.size < v2.heap.size := by omega); (try have hm2_0 : ¬ wr.heap.size = v2.heap.size := by omega); (try have hn2_0 : ¬ v2.heap.size = wr.heap.size := by omega))
           have hon2 := own_call hB2 hon1)
        | (go_at_call 122; refine (l1Put_any _ v3.heap.size Q _ _ (by omega) (by omega) hon2).mono ?_; rintro e w3 ⟨x3, rfl, hon3, _, hB3⟩; have hZ3 := hB3.size))
      have hb3 : Below v3.heap.size v3 w3 := (by repeat (first | with_reducible exact Below.refl _ _ | with_reducible assumption | with_reducible apply Below.drew | with_reducible apply below_drewN | (with_reducible apply below_setp; (first | omega | (simp <;> omega))) | (with_reducible apply below_allocp; (first | omega | (simp <;> omega))) | (with_reducible refine below_viap (by assumption) ?_ ?_; (first | omega | (simp <;> omega)))))
      rw [← Hft.out] at hon3
      clear hown howl hbel
      go_wp2
      go_roundw
      case rel => exact ⟨k + 1, rfl, hlt, hon3, hb3⟩
      case measure => simp [intOf]; omega
    · have e : k = S.length := by omega
      have hx : cosT d r (S.take k) = cosT d r S := by rw [e, List.take_length]
      have hql : (ixs L (cosT d r S)).length ≤ 100000 := by have := ixs_len2 L (cosT d r S); rw [cosT_len] at this; omega
      rw [hx] at hown
      subst e
      clear hx
      obtain ⟨A, hAe⟩ : ∃ A, ixs L (cosT d r S) = A := ⟨_, rfl⟩
      rw [hAe] at hown hql hA
      have HAe := Lib.hid hAe
      clear hAe
      go_wp2_with (go_at_call 166; refine (grForms_any _ _ B v3.heap.size L A _ hql hA.out howl hown).mono ?_; rintro e w4 ⟨x4, rfl, how4, hB4⟩)
      have hz5 := hbw.size
      go_ret
      exact ⟨_, rfl, by rw [HAe.out]; exact own_base (by omega) how4, (by repeat (first | with_reducible exact Below.refl _ _ | with_reducible assumption | with_reducible apply Below.drew | with_reducible apply below_drewN | (with_reducible apply below_setp; (first | omega | (simp <;> omega))) | (with_reducible apply below_allocp; (first | omega | (simp <;> omega))) | (with_reducible refine below_viap (by assumption) ?_ ?_; (first | omega | (simp <;> omega)))))⟩

/-- What SquareCoset gives. -/
def ScL (a b c : Int) (L : List Fm) (ok : Bool) : Prop :=
  (isCls a b c = false ∧ L = [] ∧ ok = false) ∨
  (isCls a b c = true ∧ L = (clsL (disc ⟨a, b, c⟩)).filter (hasF (cosT (disc ⟨a, b, c⟩) (red ⟨a, b, c⟩) ((clsL (disc ⟨a, b, c⟩)).filter (powP (disc ⟨a, b, c⟩) 2 (clsL (disc ⟨a, b, c⟩)))))) ∧ ok = true)
theorem scL_ex (a b c : Int) : ∃ L ok, ScL a b c L ok ∧ L.length ≤ 100000 := by
  cases hc : isCls a b c with
  | false => exact ⟨_, _, .inl ⟨hc, rfl, rfl⟩, by simp⟩
  | true => exact ⟨_, _, .inr ⟨hc, rfl, rfl⟩, Nat.le_trans (List.length_filter_le _ _) (Nat.le_trans (clsL_len _) (by decide))⟩

set_option maxRecDepth 100000 in
set_option maxHeartbeats 1600000 in
theorem specSC_any (a b c : Int) (L : List Fm) (ok : Bool) (w : World) (h : ScL a b c L ok) :
    Calls Tryz.prog 50 #[.agg #[.int .i64 a, .int .i64 b, .int .i64 c]] w (RetFb L ok w) := by
  rcases h with ⟨hc, rfl, rfl⟩ | ⟨hc, hL, rfl⟩
  · go_enter Tryz.func50, Tryz.ntmps50
    go_wp2_with (go_at_call 127; (with_reducible refine (scls_any a b c _).mono ?_); rw [hc]; rintro e v1 ⟨rfl, hB1⟩; have hZ1 := hB1.size; (try simp at hZ1); (try have zl1 : w.heap.size < v1.heap.size := by omega); (try have ze1 : w.heap.size ≤ v1.heap.size := by omega); (try have zn1 : ¬ w.heap.size = v1.heap.size := by omega); (try have zm1 : ¬ v1.heap.size = w.heap.size := by omega); have hC1_0 := fun o => (calm_cells hB1).1 (w.heap.size) o (by first | omega | (simp <;> omega)); have hF1_0 := fun o => (calm_cells hB1).2 (w.heap.size) o (by first | omega | (simp <;> omega)); (try have hl1_0 : w.heap.size < v1.heap.size := by omega); (try have hm1_0 : ¬ w.heap.size = v1.heap.size := by omega); (try have hn1_0 : ¬ v1.heap.size = w.heap.size := by omega))
    go_ret2
    exact ⟨_, rfl, World.ownsRow_nil _ _ _ _, (by repeat (first | with_reducible exact Below.refl _ _ | with_reducible assumption | with_reducible apply Below.drew | with_reducible apply below_drewN | (with_reducible apply below_setp; (first | omega | (simp <;> omega))) | (with_reducible apply below_allocp; (first | omega | (simp <;> omega))) | (with_reducible refine below_viap (by assumption) ?_ ?_; (first | omega | (simp <;> omega)))))⟩
  · have hG := fun w => geCoset_any _ ⟨a, b, c⟩ _ w (CF.of_cls hc)
    rw [← hL] at hG
    have HG := Lib.hid hG
    clear hL hG
    go_enter Tryz.func50, Tryz.ntmps50
    go_wp2_with (first
      | (go_at_call 127; (with_reducible refine (scls_any a b c _).mono ?_); rw [hc]; rintro e v1 ⟨rfl, hB1⟩; have hZ1 := hB1.size; (try simp at hZ1); (try have zl1 : w.heap.size < v1.heap.size := by omega); (try have ze1 : w.heap.size ≤ v1.heap.size := by omega); (try have zn1 : ¬ w.heap.size = v1.heap.size := by omega); (try have zm1 : ¬ v1.heap.size = w.heap.size := by omega); have hA1 : Blk v1 (w.heap.size) 36 #[.int .i64 a, .int .i64 b, .int .i64 c] := Blk.call (by (repeat (first | with_reducible assumption | (with_reducible apply Blk.new_at; (first | rfl | (simp; done))) | with_reducible apply Blk.store3 | with_reducible apply Blk.store4 | (with_reducible apply Blk.farp; (first | omega | (simp <;> omega))) | with_reducible apply Blk.allocp | with_reducible apply Blk.drew | with_reducible apply Blk.drewN))) hB1; have cA1 := hA1.cell; have fA1 := hA1.frozen; have lA1 := hA1.lt; have mA1 := Nat.ne_of_gt lA1; have nA1 := Nat.ne_of_lt lA1)
      | (go_at_call 128; refine (HG.out _).mono ?_; rintro e v5 ⟨vl, rfl, howl, hB5⟩; have hZ5 := hB5.size))
    go_ret2
    exact ⟨_, rfl, own_base (by omega) howl, (by repeat (first | with_reducible exact Below.refl _ _ | with_reducible assumption | with_reducible apply Below.drew | with_reducible apply below_drewN | (with_reducible apply below_setp; (first | omega | (simp <;> omega))) | (with_reducible apply below_allocp; (first | omega | (simp <;> omega))) | (with_reducible refine below_viap (by assumption) ?_ ?_; (first | omega | (simp <;> omega)))))⟩
end

section
open Go.RowKit

set_option maxRecDepth 100000 in
set_option maxHeartbeats 1600000 in
theorem cosetFn_any (f : Fm) (T : List Fm) (vc : Value) (B C : Nat) (w : World) (hl : T.length ≤ 100000) (hC : w.cell? ⟨C, 0, none⟩ = some vc) (lC : C < w.heap.size) (ho : w.ownsRow B 36 3 vc T.length (cellsF T)) :
    Calls Tryz.prog 112 #[.agg #[.int .i64 f.a, .int .i64 f.b, .int .i64 f.c], .pointer (some ⟨C, 0, none⟩)] w fun e w' => e = .returned (.bool (hasF T f)) ∧ Below w.heap.size w w' := by
  obtain ⟨base, cap, rfl⟩ := own_shape ho
  have n1 : ¬ C = w.heap.size := by omega
  have n2 : C < w.heap.size + 1 := by omega
  have H := Lib.hid ho
  clear ho
  go_enter Tryz.func112, Tryz.ntmps112
  go_wp2_with (go_at_call 113; refine (hasForm_any _ B T f _ hl (own_alloc H.out)).mono ?_; rintro e v5 ⟨rfl, hB5⟩; have hZ5 := hB5.size)
  go_ret
  exact ⟨rfl, (by repeat (first | with_reducible exact Below.refl _ _ | with_reducible assumption | with_reducible apply Below.drew | with_reducible apply below_drewN | (with_reducible apply below_setp; (first | omega | (simp <;> omega))) | (with_reducible apply below_allocp; (first | omega | (simp <;> omega))) | (with_reducible refine below_viap (by assumption) ?_ ?_; (first | omega | (simp <;> omega)))))⟩

set_option maxRecDepth 100000 in
set_option maxHeartbeats 1600000 in
theorem formsCos_any (d : Int) (p : Fm → Bool) (C : Nat) (w : World) (hd1 : -2000 ≤ d) (hd2 : d ≤ -3)
    (hcall : ∀ f ∈ clsL d, ∀ w', Below w.heap.size w w' → Calls Tryz.prog 112 #[.agg #[.int .i64 f.a, .int .i64 f.b, .int .i64 f.c], .pointer (some ⟨C, 0, none⟩)] w' fun e w'' => e = .returned (.bool (p f)) ∧ Below w'.heap.size w' w'') :
    Calls Tryz.prog 111 #[.int .i64 d, .func (.func 112) #[] #[.pointer (some ⟨C, 0, none⟩)]] w (RetF ((clsL d).filter p) w) := by
  obtain ⟨i0, hi, hz0, hz1, hz2⟩ := info_parts infoForm
  have hl : (clsL d).length ≤ 100000 := Nat.le_trans (clsL_len d) (by decide)
  have Hr := reducedForms_any d
  have Hc := Lib.hid hcall
  clear hcall
  generalize clsL d = L at *
  go_enter Tryz.func111, Tryz.ntmps111
  go_wp2_with (go_at_call 107; refine (Hr _ hd1 hd2).mono ?_; rintro e w1 ⟨vl, rfl, howl, hb1⟩; obtain ⟨base, cap, rfl⟩ := own_shape howl)
  obtain ⟨B, hB⟩ : ∃ B : Nat, B = (w.alloc (.cells #[] 36)).heap.size := ⟨_, rfl⟩
  rw [← hB] at howl
  have hz1' := hb1.size
  go_loopw [5, 12] (fun v i wr => FlkSt p L B (.slice base L.length cap) w v i wr) (fun _ i _ => L.length - (intOf i).toNat)
  case atStart => exact ⟨0, rfl, Nat.zero_le _, own_call hb1 (own_empty (Nat.le_refl _)), howl, apart_below howl (by simp [hB]), (by repeat (first | with_reducible exact Below.refl _ _ | with_reducible assumption | with_reducible apply Below.drew | with_reducible apply below_drewN | (with_reducible apply below_setp; (first | omega | (simp <;> omega))) | (with_reducible apply below_allocp; (first | omega | (simp <;> omega))) | (with_reducible refine below_viap (by assumption) ?_ ?_; (first | omega | (simp <;> omega)))))⟩
  case round =>
    clear howl hb1 hz1'
    obtain ⟨k, rfl, hk, hown, howl, hap, hbel⟩ := hrel
    by_cases hlt : k < L.length
    · obtain ⟨g, rfl, hg2, d1, d2, d3⟩ := own_elem howl hlt
      have hft := filter_take (p := p) hlt
      have hfm := List.getElem_mem hlt
      generalize L[k] = f at d1 d2 d3 hft hfm
      have Hft := Lib.hid hft
      have Hfm := Lib.hid hfm
      clear hft hfm
      have hz := hbel.size
      have hlf := filter_len (p := p) L k hl
      by_cases hp : p f = true
      · have hx := Lib.hid (Hft.out.trans (by rw [if_pos hp]))
        have hp2 := Lib.hid hp
        clear hp
        go_wp2_with (first
          | (go_at_call 112; (with_reducible refine (Hc.out f Hfm.out _ (by repeat (first | with_reducible exact Below.refl _ _ | with_reducible assumption | with_reducible apply Below.drew | with_reducible apply below_drewN | (with_reducible apply below_setp; (first | omega | (simp <;> omega))) | (with_reducible apply below_allocp; (first | omega | (simp <;> omega))) | (with_reducible refine below_viap (by assumption) ?_ ?_; (first | omega | (simp <;> omega)))))).mono ?_); rw [hp2.out]; rintro e v1 ⟨rfl, hB1⟩; have hZ1 := hB1.size; (try simp at hZ1); (try have zl1 : w.heap.size < v1.heap.size := by omega); (try have ze1 : w.heap.size ≤ v1.heap.size := by omega); (try have zn1 : ¬ w.heap.size = v1.heap.size := by omega); (try have zm1 : ¬ v1.heap.size = w.heap.size := by omega); have hC1_0 := fun o => (calm_cells hB1).1 (wr.heap.size) o (by first | omega | (simp <;> omega)); have hF1_0 := fun o => (calm_cells hB1).2 (wr.heap.size) o (by first | omega | (simp <;> omega)); (try have hl1_0 : wr.heap.size < v1.heap.size := by omega); (try have hm1_0 : ¬ wr.heap.size = v1.heap.size := by omega); (try have hn1_0 : ¬ v1.heap.size = wr.heap.size := by omega))
          | (at_builtin; refine wpList_append_own_at _ rfl (.tmp 19) (.tmp 21) 25 rfl w.heap.size 36 i0 _ 3 24 Tryz.underlying25 hi hz0 hz1 hz2 rfl (by decide) u5 ((L.take k).filter p).length (cellsF ((L.take k).filter p)) rfl ?_ ⟨v1.heap.size, 0, none⟩ 1 1 [.int .i64 f.a, .int .i64 f.b, .int .i64 f.c] rfl rfl ?_ (one3 _ _ _) ?_ ?_ ?_ ?_; exact (by repeat (first | with_reducible assumption | with_reducible apply own_alloc | with_reducible apply own_drew | with_reducible apply own_drewN | (with_reducible refine own_setp (by assumption) ?_ ?_; (first | omega | (simp <;> omega))) | (with_reducible refine own_call (by assumption) ?_))); exact cells3 (Blk.new _ _ _); (unfold maxLen; omega); omega; (simp; omega); intro v2 w2 hown2 hg2 _ hloc))
        have hb2 : Below w.heap.size w w2 := below_grown (own_ge hown) (by simp; omega) hg2 (by repeat (first | with_reducible exact Below.refl _ _ | with_reducible assumption | with_reducible apply Below.drew | with_reducible apply below_drewN | (with_reducible apply below_setp; (first | omega | (simp <;> omega))) | (with_reducible apply below_allocp; (first | omega | (simp <;> omega))) | (with_reducible refine below_viap (by assumption) ?_ ?_; (first | omega | (simp <;> omega)))))
        have ho2 := own_snoc hx.out hown2
        have hol1 : (v1.alloc (Obj.cells #[Value.int IntKind.i64 f.a, Value.int IntKind.i64 f.b, Value.int IntKind.i64 f.c] 36)).ownsRow B 36 3 (.slice (some ⟨g, 0, none⟩) L.length cap) L.length (cellsF L) := (by repeat (first | with_reducible assumption | with_reducible apply own_alloc | with_reducible apply own_drew | with_reducible apply own_drewN | (with_reducible refine own_setp (by assumption) ?_ ?_; (first | omega | (simp <;> omega))) | (with_reducible refine own_call (by assumption) ?_)))
        have hol2 := hol1.kept hg2 hap
        have hap2 := apart_next hap hol1 (Nat.le_refl _) hloc
        clear hg2 hown2 hown hbel howl hap hol1 hloc
        go_wp2
        go_roundw
        case rel => exact ⟨k + 1, rfl, hlt, ho2, hol2, hap2, hb2⟩
        case measure => simp [intOf]; omega
      · have hx := Lib.hid (Hft.out.trans (by rw [if_neg hp, List.append_nil]))
        have hp2 := Lib.hid (show p f = false by simpa using hp)
        clear hp
        go_wp2_with (go_at_call 112; (with_reducible refine (Hc.out f Hfm.out _ (by repeat (first | with_reducible exact Below.refl _ _ | with_reducible assumption | with_reducible apply Below.drew | with_reducible apply below_drewN | (with_reducible apply below_setp; (first | omega | (simp <;> omega))) | (with_reducible apply below_allocp; (first | omega | (simp <;> omega))) | (with_reducible refine below_viap (by assumption) ?_ ?_; (first | omega | (simp <;> omega)))))).mono ?_); rw [hp2.out]; rintro e v1 ⟨rfl, hB1⟩; have hZ1 := hB1.size; (try simp at hZ1); (try have zl1 : w.heap.size < v1.heap.size := by omega); (try have ze1 : w.heap.size ≤ v1.heap.size := by omega); (try have zn1 : ¬ w.heap.size = v1.heap.size := by omega); (try have zm1 : ¬ v1.heap.size = w.heap.size := by omega); have hC1_0 := fun o => (calm_cells hB1).1 (wr.heap.size) o (by first | omega | (simp <;> omega)); have hF1_0 := fun o => (calm_cells hB1).2 (wr.heap.size) o (by first | omega | (simp <;> omega)); (try have hl1_0 : wr.heap.size < v1.heap.size := by omega); (try have hm1_0 : ¬ wr.heap.size = v1.heap.size := by omega); (try have hn1_0 : ¬ v1.heap.size = wr.heap.size := by omega))
        go_roundw
        case rel => exact ⟨k + 1, rfl, hlt, by rw [hx.out]; exact (by repeat (first | with_reducible assumption | with_reducible apply own_alloc | with_reducible apply own_drew | with_reducible apply own_drewN | (with_reducible refine own_setp (by assumption) ?_ ?_; (first | omega | (simp <;> omega))) | (with_reducible refine own_call (by assumption) ?_))), (by repeat (first | with_reducible assumption | with_reducible apply own_alloc | with_reducible apply own_drew | with_reducible apply own_drewN | (with_reducible refine own_setp (by assumption) ?_ ?_; (first | omega | (simp <;> omega))) | (with_reducible refine own_call (by assumption) ?_))), hap, (by repeat (first | with_reducible exact Below.refl _ _ | with_reducible assumption | with_reducible apply Below.drew | with_reducible apply below_drewN | (with_reducible apply below_setp; (first | omega | (simp <;> omega))) | (with_reducible apply below_allocp; (first | omega | (simp <;> omega))) | (with_reducible refine below_viap (by assumption) ?_ ?_; (first | omega | (simp <;> omega)))))⟩
        case measure => simp [intOf]; omega
    · have e : k = L.length := by omega
      have hx : (L.take k).filter p = L.filter p := by rw [e, List.take_length]
      have Hx := Lib.hid hx
      clear hx
      subst e
      go_wp2
      go_ret
      exact ⟨_, rfl, by rw [← Hx.out]; exact hown, hbel⟩
end

section
open Go.RowKit

def ScSt (d : Int) (r : Fm) (S : List Fm) (C B2 : Nat) (vs : Value) (v1 : World) (vi : Value) (wr : World) : Prop :=
  ∃ (k : Nat) (vc : Value), vi = .int .i64 k ∧ k ≤ S.length ∧ Hid (Blk wr C 25 #[vc]) ∧ wr.ownsRow v1.heap.size 36 3 vc (cosT d r (S.take k)).length (cellsF (cosT d r (S.take k))) ∧ (∀ q, vc.ownBlock = some q → q ≠ C) ∧
    wr.ownsRow B2 36 3 vs S.length (cellsF S) ∧ Apart vc vs ∧ Below v1.heap.size v1 wr

set_option maxRecDepth 100000 in
set_option maxHeartbeats 6400000 in
theorem implSC_any (a b c : Int) (L : List Fm) (ok : Bool) (w : World) (h : ScL a b c L ok) :
    Calls Tryz.prog 38 #[.agg #[.int .i64 a, .int .i64 b, .int .i64 c]] w (RetFb L ok w) := by
  rcases h with ⟨hc, rfl, rfl⟩ | ⟨hc, hL, rfl⟩
  · go_enter Tryz.func38, Tryz.ntmps38
    go_wp2_with (go_at_call 93; (with_reducible refine (icls_any a b c _).mono ?_); rw [hc]; rintro e v1 ⟨rfl, hB1⟩; have hZ1 := hB1.size; (try simp at hZ1); (try have zl1 : w.heap.size < v1.heap.size := by omega); (try have ze1 : w.heap.size ≤ v1.heap.size := by omega); (try have zn1 : ¬ w.heap.size = v1.heap.size := by omega); (try have zm1 : ¬ v1.heap.size = w.heap.size := by omega); have hC1_0 := fun o => (calm_cells hB1).1 (w.heap.size) o (by first | omega | (simp <;> omega)); have hF1_0 := fun o => (calm_cells hB1).2 (w.heap.size) o (by first | omega | (simp <;> omega)); (try have hl1_0 : w.heap.size < v1.heap.size := by omega); (try have hm1_0 : ¬ w.heap.size = v1.heap.size := by omega); (try have hn1_0 : ¬ v1.heap.size = w.heap.size := by omega))
    go_ret2
    exact ⟨_, rfl, own_empty (by omega), (by repeat (first | with_reducible exact Below.refl _ _ | with_reducible assumption | with_reducible apply Below.drew | with_reducible apply below_drewN | (with_reducible apply below_setp; (first | omega | (simp <;> omega))) | (with_reducible apply below_allocp; (first | omega | (simp <;> omega))) | (with_reducible refine below_viap (by assumption) ?_ ?_; (first | omega | (simp <;> omega)))))⟩
  · have cf := CF.of_cls hc
    obtain ⟨i0, hi, hz0, hz1, hz2⟩ := info_parts infoForm
    obtain ⟨r, hr⟩ : ∃ r, red ⟨a, b, c⟩ = r := ⟨_, rfl⟩
    obtain ⟨d, hd⟩ : ∃ d, disc ⟨a, b, c⟩ = d := ⟨_, rfl⟩
    rw [hr, hd] at cf
    rw [hr, hd] at hL
    have hD := cf.D
    have hDc := Lib.hid (fun w => disc_cf d ⟨a, b, c⟩ r w cf)
    have hP := Lib.hid (fun w => powerClasses_any d 2 w hD (by decide))
    have hS : ∀ g ∈ (clsL d).filter (powP d 2 (clsL d)), g ∈ clsL d := fun g hg => (List.mem_filter.1 hg).1
    have hsl : ((clsL d).filter (powP d 2 (clsL d))).length ≤ 100000 := Nat.le_trans (List.length_filter_le _ _) (Nat.le_trans (clsL_len d) (by decide))
    generalize (clsL d).filter (powP d 2 (clsL d)) = S at *
    have hcm := Lib.hid (fun g (h : g ∈ S) w => compose_cf d ⟨a, b, c⟩ g r g _ w cf (CF.of_mem hD (hS g h)) rfl)
    have hFl := fun C w hcall => formsCos_any d (hasF (cosT d r S)) C w hD.lo hD.hi hcall
    rw [← hL] at hFl
    have HFl := Lib.hid hFl
    clear hFl hL hr hd cf hD hS
    go_enter Tryz.func38, Tryz.ntmps38
    go_wp2_with (first
      | (go_at_call 93; (with_reducible refine (icls_any a b c _).mono ?_); rw [hc]; rintro e v1 ⟨rfl, hB1⟩; have hZ1 := hB1.size; (try simp at hZ1); (try have zl1 : w.heap.size < v1.heap.size := by omega); (try have ze1 : w.heap.size ≤ v1.heap.size := by omega); (try have zn1 : ¬ w.heap.size = v1.heap.size := by omega); (try have zm1 : ¬ v1.heap.size = w.heap.size := by omega); have hA1 : Blk v1 (w.heap.size) 36 #[.int .i64 a, .int .i64 b, .int .i64 c] := Blk.call (by (repeat (first | with_reducible assumption | (with_reducible apply Blk.new_at; (first | rfl | (simp; done))) | with_reducible apply Blk.store3 | with_reducible apply Blk.store4 | (with_reducible apply Blk.farp; (first | omega | (simp <;> omega))) | with_reducible apply Blk.allocp | with_reducible apply Blk.drew | with_reducible apply Blk.drewN))) hB1; have cA1 := hA1.cell; have fA1 := hA1.frozen; have lA1 := hA1.lt; have mA1 := Nat.ne_of_gt lA1; have nA1 := Nat.ne_of_lt lA1)
      | (go_at_call 109; (with_reducible refine (hDc.out _).mono ?_); rintro e v2 ⟨rfl, hB2⟩; have hZ2 := hB2.size; (try simp at hZ2); (try have zl2 : w.heap.size < v2.heap.size := by omega); (try have ze2 : w.heap.size ≤ v2.heap.size := by omega); (try have zn2 : ¬ w.heap.size = v2.heap.size := by omega); (try have zm2 : ¬ v2.heap.size = w.heap.size := by omega); have hA2 : Blk v2 (w.heap.size) 36 #[.int .i64 a, .int .i64 b, .int .i64 c] := Blk.call (by (repeat (first | with_reducible assumption | (with_reducible apply Blk.new_at; (first | rfl | (simp; done))) | with_reducible apply Blk.store3 | with_reducible apply Blk.store4 | (with_reducible apply Blk.farp; (first | omega | (simp <;> omega))) | with_reducible apply Blk.allocp | with_reducible apply Blk.drew | with_reducible apply Blk.drewN))) hB2; have cA2 := hA2.cell; have fA2 := hA2.frozen; have lA2 := hA2.lt; have mA2 := Nat.ne_of_gt lA2; have nA2 := Nat.ne_of_lt lA2; have hC2 : Blk v2 (v1.heap.size + 1) 25 #[.slice (some ⟨v1.heap.size, 0, none⟩) 0 0] := Blk.call (by (repeat (first | with_reducible assumption | (with_reducible apply Blk.new_at; (first | rfl | (simp; done))) | with_reducible apply Blk.store3 | with_reducible apply Blk.store4 | (with_reducible apply Blk.farp; (first | omega | (simp <;> omega))) | with_reducible apply Blk.allocp | with_reducible apply Blk.drew | with_reducible apply Blk.drewN))) hB2; have cC2 := hC2.cell; have fC2 := hC2.frozen; have lC2 := hC2.lt; have mC2 := Nat.ne_of_gt lC2; have nC2 := Nat.ne_of_lt lC2)
      | (go_at_call 108; refine (hP.out _).mono ?_; rintro e v3 ⟨vs, rfl, hos, hB3⟩; have hZ3 := hB3.size; obtain ⟨bs, cs, rfl⟩ := own_shape hos; have hC3 : Blk v3 (v1.heap.size + 1) 25 #[.slice (some ⟨v1.heap.size, 0, none⟩) 0 0] := Blk.call hC2 hB3))
    obtain ⟨B2, hBe2⟩ : ∃ B2 : Nat, B2 = v2.heap.size := ⟨_, rfl⟩
    rw [← hBe2] at hos
    obtain ⟨C, hCe⟩ : ∃ C : Nat, C = v1.heap.size + 1 := ⟨_, rfl⟩
    have hCB : C < B2 := by omega
    have hon0 : v3.ownsRow v1.heap.size 36 3 (.slice (some ⟨v1.heap.size, 0, none⟩) 0 0) 0 [] := own_call hB3 (own_call hB2 (own_alloc (own_empty (Nat.le_refl _))))
    have hap0 : Apart (.slice (some ⟨v1.heap.size, 0, none⟩) 0 0) (.slice bs S.length cs) := apart_below hos (by omega)
    rw [← hCe] at hC3 ⊢
    have HC3 := Lib.hid hC3
    have hC1 : v1.heap.size < C := by omega
    clear hCe
    have hb3 : Below v1.heap.size v1 v3 := (by repeat (first | with_reducible exact Below.refl _ _ | with_reducible assumption | with_reducible apply Below.drew | with_reducible apply below_drewN | (with_reducible apply below_setp; (first | omega | (simp <;> omega))) | (with_reducible apply below_allocp; (first | omega | (simp <;> omega))) | (with_reducible refine below_viap (by assumption) ?_ ?_; (first | omega | (simp <;> omega)))))
    have hbw : Below w.heap.size w v1 := (by repeat (first | with_reducible exact Below.refl _ _ | with_reducible assumption | with_reducible apply Below.drew | with_reducible apply below_drewN | (with_reducible apply below_setp; (first | omega | (simp <;> omega))) | (with_reducible apply below_allocp; (first | omega | (simp <;> omega))) | (with_reducible refine below_viap (by assumption) ?_ ?_; (first | omega | (simp <;> omega)))))
    have HA1 := Lib.hid hA1
    clear hA2 hC2 hB2 hB3 hC3 hA1 cA2 fA2 cC2 fC2 cA1 fA1
    go_loopw [16] (fun i wr => ScSt d r S C B2 (.slice bs S.length cs) v1 i wr) (fun i _ => S.length - (intOf i).toNat)
    case atStart => exact ⟨0, _, rfl, Nat.zero_le _, HC3, hon0, (fun q hq => by simp [Value.ownBlock] at hq; omega), hos, hap0, hb3⟩
    case round =>
      clear hon0 hap0 HC3 hb3 hos
      obtain ⟨k, vc, rfl, hk, hCb, hown, hne, hos, hap, hbel⟩ := hrel
      have hz := hbel.size
      have hAr := Blk.call HA1.out hbel
      have cA := hAr.cell; have fA := hAr.frozen; have lA := hAr.lt
      have cC := hCb.out.cell; have fC := hCb.out.frozen; have lC := hCb.out.lt
      by_cases hlt : k < S.length
      · have hft := cosT_next (d := d) (r := r) hlt
        have hql : (cosT d r (S.take k)).length ≤ 100000 := by rw [cosT_len, List.length_take]; omega
        obtain ⟨g, rfl, hg2, d1, d2, d3⟩ := own_elem hos hlt
        have hfm := List.getElem_mem hlt
        generalize S[k] = f at d1 d2 d3 hft hfm
        have hW := Lib.hid (hcm.out f hfm)
        generalize Go.Proofs.YteehcjjhkphdnaaGreat.cmp d r f = P at hW hft
        generalize cosT d r (S.take k) = Q at hft hown hql
        have Hft := Lib.hid hft
        have n1 : ¬ w.heap.size = wr.heap.size := by omega
        have n2 : w.heap.size < wr.heap.size + 1 := by omega
        have n3 : ¬ C = wr.heap.size := by omega
        have n4 : C < wr.heap.size + 1 := by omega
        have cC0 : wr.cell? ⟨C, 0, none⟩ = some vc := (cC 0).trans rfl
        have fC0 := fC 0
        clear hft hfm cC fC
        go_wp2
        go_region_law (first
          | (refine step_append_any (v4.alloc (.cells #[.int .i64 P.a, .int .i64 P.b, .int .i64 P.c] 36)) rfl (.tmp 20) (.tmp 24) 25 rfl v1.heap.size 36 i0 _ 3 24 Tryz.underlying25 hi hz0 hz1 hz2 rfl (by omega) vc Q.length (cellsF Q) rfl (own_alloc hon4) (v4.heap.size + 1) (some ⟨v4.heap.size, 0, none⟩) 1 1 [.int .i64 P.a, .int .i64 P.b, .int .i64 P.c] rfl ⟨rfl, fun _ => ⟨_, rfl, (by simp), cells3 (Blk.new _ _ _)⟩⟩ (one3 _ _ _) (by unfold maxLen; omega) (by omega) (by simp; omega) ?_; intro x2 w2 hown2 hgr2 hloc2; obtain ⟨bx, cx, rfl⟩ := own_shape hown2; have hC5 := (Blk.allocp (o := .cells #[.int .i64 P.a, .int .i64 P.b, .int .i64 P.c] 36) hC4).grown hgr2 (fun he => hne C he.symm rfl); have cC5 : w2.cell? ⟨C, 0, none⟩ = some vc := (hC5.cell 0).trans rfl; have fC5 := hC5.frozen 0; have lC5 := hC5.lt)
          | (go_simp; go_wp2_with (go_at_call 110; (with_reducible refine (hW.out _).mono ?_); rintro e v4 ⟨rfl, hB4⟩; have hZ4 := hB4.size; (try simp at hZ4); have hC4 : Blk v4 C 25 #[vc] := Blk.call (Blk.drew (Blk.allocp hCb.out)) hB4; have cC4 : v4.cell? ⟨C, 0, none⟩ = some vc := (hC4.cell 0).trans rfl; have lC4 := hC4.lt; have mC4 : ¬ C = v4.heap.size := (by omega); have kC4 : C < v4.heap.size + 1 := (by omega); have hA4 : Blk v4 w.heap.size 36 #[.int .i64 a, .int .i64 b, .int .i64 c] := Blk.call (Blk.drew (Blk.allocp hAr)) hB4; have hon4 := own_call hB4 (own_drew (own_alloc hown)); have hos4 := own_call hB4 (own_drew (own_alloc hos)))))
        all_goals
          have hzz := hgr2.size
          simp at hzz
          have hneN : ∀ q, (Value.slice bx (Q.length + 1) cx).ownBlock = some q → q ≠ C := by
            intro q hq
            rcases hloc2 with e | e
            · exact hne q (e ▸ hq)
            · rw [e] at hq; injection hq with hq; simp at hq; omega
          have hosA := own_alloc (o := .cells #[.int .i64 P.a, .int .i64 P.b, .int .i64 P.c] 36) hos4
          have hapN := apart_next hap hosA (Nat.le_refl _) hloc2
          have hosK := hosA.kept hgr2 hap
          have hb4 : Below v1.heap.size v1 v4 := (by repeat (first | with_reducible exact Below.refl _ _ | with_reducible assumption | with_reducible apply Below.drew | with_reducible apply below_drewN | (with_reducible apply below_setp; (first | omega | (simp <;> omega))) | (with_reducible apply below_allocp; (first | omega | (simp <;> omega))) | (with_reducible refine below_viap (by assumption) ?_ ?_; (first | omega | (simp <;> omega)))))
          have hbN : Below v1.heap.size v1 w2 := below_grown (own_ge hon4) (by simp; omega) hgr2 (by repeat (first | with_reducible exact Below.refl _ _ | with_reducible assumption | with_reducible apply Below.drew | with_reducible apply below_drewN | (with_reducible apply below_setp; (first | omega | (simp <;> omega))) | (with_reducible apply below_allocp; (first | omega | (simp <;> omega))) | (with_reducible refine below_viap (by assumption) ?_ ?_; (first | omega | (simp <;> omega)))))
          have hbS : Below v1.heap.size v1 (w2.setCell ⟨C, 0, none⟩ (.slice bx (Q.length + 1) cx)) := hbN.setCell (by simp; omega) _
          have hblkN : Blk (w2.setCell ⟨C, 0, none⟩ (.slice bx (Q.length + 1) cx)) C 25 #[.slice bx (Q.length + 1) cx] := by
            have := hC5.set_ 0 (.slice bx (Q.length + 1) cx)
            simpa using this
          have hownN := own_set_ne (p := ⟨C, 0, none⟩) (u := .slice bx (Q.length + 1) cx) (fun q hq => hneN q hq) (own_snoc Hft.out hown2)
          have hosN := own_set_ne (p := ⟨C, 0, none⟩) (u := .slice bx (Q.length + 1) cx) (fun q hq => by have := own_ge hosK q hq; simp; omega) hosK
          have HbN := Lib.hid hblkN
          clear hblkN hosK hosA hC5 hb4 hbN hown2 hgr2 hon4 hos4 hown hos hap
          go_wp2
          exact ⟨⟨k + 1, _, rfl, hlt, HbN, hownN, hneN, hosN, hapN, hbS⟩, by simp [intOf]; omega⟩
      · have e : k = S.length := by omega
        have hx : cosT d r (S.take k) = cosT d r S := by rw [e, List.take_length]
        rw [hx] at hown
        have hTl : (cosT d r S).length ≤ 100000 := by rw [cosT_len]; exact hsl
        generalize cosT d r S = T at *
        have Hown := Lib.hid hown
        have hCbo := hCb.out
        subst e
        clear hx hown
        go_wp2_with (first
          | (go_at_call 109; (with_reducible refine (hDc.out _).mono ?_); rintro e v6 ⟨rfl, hB6⟩; have hZ6 := hB6.size; (try simp at hZ6); (try have zl6 : w.heap.size < v6.heap.size := by omega); (try have ze6 : w.heap.size ≤ v6.heap.size := by omega); (try have zn6 : ¬ w.heap.size = v6.heap.size := by omega); (try have zm6 : ¬ v6.heap.size = w.heap.size := by omega); have hC6 : Blk v6 (C) 25 #[vc] := Blk.call (by (repeat (first | with_reducible assumption | (with_reducible apply Blk.new_at; (first | rfl | (simp; done))) | with_reducible apply Blk.store3 | with_reducible apply Blk.store4 | (with_reducible apply Blk.farp; (first | omega | (simp <;> omega))) | with_reducible apply Blk.allocp | with_reducible apply Blk.drew | with_reducible apply Blk.drewN))) hB6; have cC6 := hC6.cell; have fC6 := hC6.frozen; have lC6 := hC6.lt; have mC6 := Nat.ne_of_gt lC6; have nC6 := Nat.ne_of_lt lC6)
          | (go_at_call 111; (with_reducible refine (HFl.out C _ ?_).mono ?_)))
        · intro f hf w' hb
          have cC' := hC6.below hb lC6
          have z := hb.size
          exact cosetFn_any f T vc v1.heap.size C w' hTl ((cC'.cell 0).trans rfl) (by omega) (own_bel hb (fun q hq => own_lt (own_call hB6 Hown.out) q hq) (own_call hB6 Hown.out))
        · rintro e v7 ⟨vl, rfl, how, hB7⟩
          have hz7 := hB7.size
          have hbw6 : Below w.heap.size w v6 := below_via hbw (below_via hbel hB6 hz) hbw.size
          go_wp2
          go_ret2
          exact ⟨_, rfl, own_base (by omega) how, (by repeat (first | with_reducible exact Below.refl _ _ | with_reducible assumption | with_reducible apply Below.drew | with_reducible apply below_drewN | (with_reducible apply below_setp; (first | omega | (simp <;> omega))) | (with_reducible apply below_allocp; (first | omega | (simp <;> omega))) | (with_reducible refine below_viap (by assumption) ?_ ?_; (first | omega | (simp <;> omega)))))⟩
end
end Go.Proofs.YteehcjjhkphdnaaGreat
