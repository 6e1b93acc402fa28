/- Parts K4 K5 K6 laid together by tp.py. -/
import Derived.Test.YteehcjjhkphdnaaGreatKT
import Derived.Test.YteehcjjhkphdnaaGreatGG
import Derived.Test.YteehcjjhkphdnaaGreatK2
namespace Go.Proofs.YteehcjjhkphdnaaGreat
section
open Go.RowKit

def GixSt (L : List Fm) (f : Fm) (B : Nat) (v : Value) (w : World) (vi : Value) (wr : World) : Prop :=
  ∃ k : Nat, vi = .int .i64 k ∧ k ≤ L.length ∧ Hid (∀ j (h : j < L.length), j < k → L[j] ≠ f) ∧ wr.ownsRow B 36 3 v L.length (cellsF L) ∧
    Blk wr w.heap.size 36 #[.int .i64 f.a, .int .i64 f.b, .int .i64 f.c] ∧ Below w.heap.size w wr

set_option maxRecDepth 100000 in
set_option maxHeartbeats 1600000 in
theorem grIndex_any (v : Value) (B : Nat) (L : List Fm) (f : Fm) (w : World) (hl : L.length ≤ 100000) (h : w.ownsRow B 36 3 v L.length (cellsF L)) :
    Calls Tryz.prog 139 #[v, .agg #[.int .i64 f.a, .int .i64 f.b, .int .i64 f.c]] w fun e w' => e = .returned (.int .i64 (gix L f)) ∧ Below w.heap.size w w' := by
  obtain ⟨base, cap, rfl⟩ := own_shape h
  have H := Lib.hid h
  clear h
  go_enter Tryz.func139, Tryz.ntmps139
  go_wp2
  go_loopw [9] (fun i wr => GixSt L f B (.slice base L.length cap) w i wr) (fun i _ => L.length - (intOf i).toNat)
  case atStart => exact ⟨0, rfl, Nat.zero_le _, Lib.hid (fun j _ hj => absurd hj (Nat.not_lt_zero _)), own_alloc H.out, Blk.new _ _ _, (by repeat (first | with_reducible exact Below.refl _ _ | with_reducible assumption | with_reducible apply Below.drew | with_reducible apply below_drewN | (with_reducible apply below_setp; (first | omega | (simp <;> omega))) | (with_reducible apply below_allocp; (first | omega | (simp <;> omega))) | (with_reducible refine below_viap (by assumption) ?_ ?_; (first | omega | (simp <;> omega)))))⟩
  case round =>
    clear H
    obtain ⟨k, rfl, hk, hno, howl, hblk, hbel⟩ := hrel
    have hz := hbel.size
    have hC := hblk.cell; have hF := hblk.frozen; have hlt0 := hblk.lt
    by_cases hlt : k < L.length
    · obtain ⟨g, rfl, hg2, d1, d2, d3⟩ := own_elem howl hlt
      have hat := Lib.hid (fun (e : L[k] = f) => gix_at hlt e hno.out)
      have hnx := Lib.hid (fun (e : L[k] ≠ f) => (show ∀ j (h : j < L.length), j < k + 1 → L[j] ≠ f from fun j h hj => if he : j = k then (by subst he; exact e) else hno.out j h (by omega)))
      generalize L[k] = r at d1 d2 d3 hat hnx
      rcases fm_cases r f with ⟨rfl, hv⟩ | ⟨hv, e1⟩ | ⟨hv, e1, e2⟩ | ⟨hv, e1, e2, e3⟩
      · have Hat := Lib.hid (hat.out rfl)
        clear hat hnx hv
        go_wp2
        go_ret
        exact ⟨ret_int Hat.out.symm, (by repeat (first | with_reducible exact Below.refl _ _ | with_reducible assumption | with_reducible apply Below.drew | with_reducible apply below_drewN | (with_reducible apply below_setp; (first | omega | (simp <;> omega))) | (with_reducible apply below_allocp; (first | omega | (simp <;> omega))) | (with_reducible refine below_viap (by assumption) ?_ ?_; (first | omega | (simp <;> omega)))))⟩
      all_goals
        have Hnx := Lib.hid (hnx.out ((fmEq_no _ _).1 hv))
        clear hat hnx hv hno
        go_wp2
        exact ⟨⟨k + 1, rfl, hlt, Hnx, own_alloc howl, Blk.allocp hblk, (by repeat (first | with_reducible exact Below.refl _ _ | with_reducible assumption | with_reducible apply Below.drew | with_reducible apply below_drewN | (with_reducible apply below_setp; (first | omega | (simp <;> omega))) | (with_reducible apply below_allocp; (first | omega | (simp <;> omega))) | (with_reducible refine below_viap (by assumption) ?_ ?_; (first | omega | (simp <;> omega)))))⟩, by simp [intOf]; omega⟩
    · have Hno := Lib.hid (gix_no (L := L) (f := f) (fun j h => hno.out j h (by omega)))
      clear hno
      go_wp2
      go_ret
      exact ⟨ret_int Hno.out.symm, hbel⟩
end

section
open Go.RowKit

theorem frm_next {L : List Fm} {A : List Int} {k : Nat} (h : k < A.length) {n : Nat} (hn : n < L.length) (hx : A[k] = n) : frm L (A.take (k + 1)) = frm L (A.take k) ++ [L[n]] := by
  unfold frm
  rw [List.take_succ_eq_append_getElem h, List.map_append, hx]
  simp [List.getElem?_eq_getElem hn]
theorem apart_of {w w2 : World} {B B2 : Nat} {e e2 : TypeId} {sz n sz2 n2 : Nat} {v vl : Value} {xs xs2 : List Value} (h : w.ownsRow B e sz vl n xs) (h2 : w2.ownsRow B2 e2 sz2 v n2 xs2) (hB : w.heap.size ≤ B2) : Apart v vl := by
  unfold Apart
  cases h3 : vl.ownBlock with
  | none => exact .inl rfl
  | some b =>
    have k1 := (h.lt b h3).2
    refine .inr (fun he => ?_)
    have k2 := (h2.lt b he.symm).1
    omega
def FrSt (L : List Fm) (A : List Int) (B B2 : Nat) (vl va : Value) (w : World) (v vi : Value) (wr : World) : Prop :=
  ∃ k : Nat, vi = .int .i64 k ∧ k ≤ A.length ∧ wr.ownsRow w.heap.size 36 3 v (frm L (A.take k)).length (cellsF (frm L (A.take k))) ∧ wr.ownsRow B 36 3 vl L.length (cellsF L) ∧
    wr.ownsRow B2 3 1 va A.length (cellsI A) ∧ Apart v vl ∧ Apart v va ∧ Below w.heap.size w wr

set_option maxRecDepth 100000 in
set_option maxHeartbeats 3200000 in
theorem grForms_any (v u : Value) (B B2 : Nat) (L : List Fm) (A : List Int) (w : World) (hl2 : A.length ≤ 100000) (hA : ∀ x ∈ A, 0 ≤ x ∧ x < L.length)
    (h : w.ownsRow B 36 3 v L.length (cellsF L)) (h2 : w.ownsRow B2 3 1 u A.length (cellsI A)) :
    Calls Tryz.prog 166 #[v, u] w (RetF (frm L A) w) := by
  obtain ⟨i0, hi, hz0, hz1, hz2⟩ := info_parts infoForm
  obtain ⟨base, cap, rfl⟩ := own_shape h
  obtain ⟨base2, cap2, rfl⟩ := own_shape h2
  have H := Lib.hid h
  have H2 := Lib.hid h2
  have HA := Lib.hid hA
  clear h h2 hA
  go_enter Tryz.func166, Tryz.ntmps166
  go_wp2
  go_loopw [5, 10] (fun v i wr => FrSt L A B B2 (.slice base L.length cap) (.slice base2 A.length cap2) w v i wr) (fun _ i _ => A.length - (intOf i).toNat)
  case atStart => exact ⟨0, rfl, Nat.zero_le _, World.ownsRow_nil _ _ _ _, H.out, H2.out, apart_nil, apart_nil, (by repeat (first | with_reducible exact Below.refl _ _ | with_reducible assumption | with_reducible apply Below.drew | with_reducible apply below_drewN | (with_reducible apply below_setp; (first | omega | (simp <;> omega))) | (with_reducible apply below_allocp; (first | omega | (simp <;> omega))) | (with_reducible refine below_viap (by assumption) ?_ ?_; (first | omega | (simp <;> omega)))))⟩
  case round =>
    clear H H2
    obtain ⟨k, rfl, hk, hown, howl, howa, hap, hap2, hbel⟩ := hrel
    have hz := hbel.size
    by_cases hlt : k < A.length
    · obtain ⟨g2, rfl, hg2, c1⟩ := own_elemI howa hlt
      obtain ⟨x0, x1⟩ := HA.out _ (List.getElem_mem hlt)
      obtain ⟨n, hn⟩ : ∃ n : Nat, A[k] = n := ⟨A[k].toNat, by omega⟩
      rw [hn] at c1 x1
      have hnl : n < L.length := by omega
      have hft := Lib.hid (frm_next hlt hnl hn)
      obtain ⟨g, rfl, hg1, d1, d2, d3⟩ := own_elem howl hnl
      have hfl : (frm L (A.take k)).length ≤ 100000 := by unfold frm; rw [List.length_map, List.length_take]; omega
      generalize L[n] = f at d1 d2 d3 hft
      clear hn x0
      go_wp2_with (at_builtin; refine wpList_append_own_at _ rfl (.tmp 14) (.tmp 19) 25 rfl w.heap.size 36 i0 _ 3 24 Tryz.underlying25 hi hz0 hz1 hz2 rfl (by decide) u5 (frm L (A.take k)).length (cellsF (frm L (A.take k))) rfl ?_ ⟨wr.heap.size, 0, none⟩ 1 1 [.int .i64 f.a, .int .i64 f.b, .int .i64 f.c] rfl rfl ?_ (one3 _ _ _) ?_ ?_ ?_ ?_; exact (by repeat (first | with_reducible assumption | with_reducible apply own_alloc | with_reducible apply own_drew | with_reducible apply own_drewN | (with_reducible refine own_setp (by assumption) ?_ ?_; (first | omega | (simp <;> omega))) | (with_reducible refine own_call (by assumption) ?_))); exact cells3 (Blk.new_at (by simp)); (unfold maxLen; omega); omega; (simp; omega); intro x2 w2 hown2 hgr _ hloc)
      have hb2 : Below w.heap.size w w2 := below_grown (own_ge hown) (by simp; omega) hgr (by repeat (first | with_reducible exact Below.refl _ _ | with_reducible assumption | with_reducible apply Below.drew | with_reducible apply below_drewN | (with_reducible apply below_setp; (first | omega | (simp <;> omega))) | (with_reducible apply below_allocp; (first | omega | (simp <;> omega))) | (with_reducible refine below_viap (by assumption) ?_ ?_; (first | omega | (simp <;> omega)))))
      have ho2 := own_snoc hft.out hown2
      have hol1 := own_alloc (o := Obj.cells #[Value.int IntKind.i64 f.a, Value.int IntKind.i64 f.b, Value.int IntKind.i64 f.c] 36) howl
      have hoa1 := own_alloc (o := Obj.cells #[Value.int IntKind.i64 f.a, Value.int IntKind.i64 f.b, Value.int IntKind.i64 f.c] 36) howa
      have hol2 := hol1.kept hgr hap
      have hoa2 := hoa1.kept hgr hap2
      have hap3 := apart_next hap hol1 (Nat.le_refl _) hloc
      have hap4 := apart_next hap2 hoa1 (Nat.le_refl _) hloc
      clear hgr hown2 hown hbel howl howa hap hap2 hol1 hoa1 hloc
      go_wp2
      go_roundw
      case rel => exact ⟨k + 1, rfl, hlt, ho2, hol2, hoa2, hap3, hap4, hb2⟩
      case measure => simp [intOf]; omega
    · have e : k = A.length := by omega
      have hx : frm L (A.take k) = frm L A := by rw [e, List.take_length]
      have Hx := Lib.hid hx
      clear hx
      subst e
      go_wp2
      go_ret
      exact ⟨_, rfl, by rw [← Hx.out]; exact hown, hbel⟩
end

section
open Go.RowKit

theorem pows_next {d : Int} {n k : Nat} {L : List Fm} (h : k < L.length) : ixs L ((L.take (k + 1)).map fun g => pw d g n) = putI (ixs L ((L.take k).map fun g => pw d g n)) (gix L (pw d L[k] n)) := by
  rw [List.take_succ_eq_append_getElem h, List.map_append, ← ixs_snoc]; rfl
theorem pows_len {d : Int} {n k : Nat} {L : List Fm} (h : L.length ≤ 100000) : (ixs L ((L.take k).map fun g => pw d g n)).length ≤ 100000 := by
  have := ixs_len L ((L.take k).map fun g => pw d g n) 100000
  rw [List.take_of_length_le (by rw [List.length_map, List.length_take]; omega)] at this
  exact this
theorem pows_all {d : Int} {n : Nat} (D : Dsc d) : frm (clsL d) (ixs (clsL d) ((clsL d).map fun g => pw d g n)) = (clsL d).filter (powP d n (clsL d)) := by
  rw [frm_ixs (clsL_nodup d) (by intro t ht; obtain ⟨g, hg, rfl⟩ := List.mem_map.1 ht; exact D.pwm hg n)]
  congr 1
  funext f
  unfold powP
  rw [List.any_map]; rfl
def GpSt (d : Int) (n : Nat) (L : List Fm) (B N0 : Nat) (vl : Value) (w : World) (v vi : Value) (wr : World) : Prop :=
  ∃ k : Nat, vi = .int .i64 k ∧ k ≤ L.length ∧ wr.ownsRow N0 3 1 v (ixs L ((L.take k).map fun g => pw d g n)).length (cellsI (ixs L ((L.take k).map fun g => pw d g n))) ∧
    wr.ownsRow B 36 3 vl L.length (cellsF L) ∧ N0 ≤ wr.heap.size ∧ Below w.heap.size w wr

set_option maxRecDepth 100000 in
set_option maxHeartbeats 3200000 in
theorem gePowers_any (d : Int) (n : Nat) (w : World) (hD : Dsc d) (hn : (n : Int) ≤ 100) :
    Calls Tryz.prog 75 #[.int .i64 d, .int .i64 n] w (RetF ((clsL d).filter (powP d n (clsL d))) w) := by
  have hl : (clsL d).length ≤ 100000 := Nat.le_trans (clsL_len d) (by decide)
  have Hr := Lib.hid (fun w => reList_any d w hD.lo hD.hi)
  have hcm := Lib.hid (fun f (h : f ∈ clsL d) => CF.of_mem hD h)
  have hA := Lib.hid (ixs_lt (L := clsL d) (T := (clsL d).map fun g => pw d g n) (by intro t ht; obtain ⟨g, hg, rfl⟩ := List.mem_map.1 ht; exact hD.pwm hg n))
  rw [← pows_all hD]
  generalize clsL d = L at *
  go_enter Tryz.func75, Tryz.ntmps75
  go_wp2_with (go_at_call 140; refine (Hr.out _).mono ?_; rintro e w1 ⟨vl, rfl, howl, hb1⟩; obtain ⟨base, cap, rfl⟩ := own_shape howl)
  have hz1' := hb1.size
  obtain ⟨B, hB⟩ : ∃ B : Nat, B = w.heap.size := ⟨_, rfl⟩
  rw [← hB] at howl
  obtain ⟨N0, hN0⟩ : ∃ N0 : Nat, N0 = w1.heap.size := ⟨_, rfl⟩
  go_loopw [6, 13] (fun v i wr => GpSt d n L B N0 (.slice base L.length cap) w v i wr) (fun _ i _ => L.length - (intOf i).toNat)
  case atStart => exact ⟨0, rfl, Nat.zero_le _, World.ownsRow_nil _ _ _ _, howl, by omega, (by repeat (first | with_reducible exact Below.refl _ _ | with_reducible assumption | with_reducible apply Below.drew | with_reducible apply below_drewN | (with_reducible apply below_setp; (first | omega | (simp <;> omega))) | (with_reducible apply below_allocp; (first | omega | (simp <;> omega))) | (with_reducible refine below_viap (by assumption) ?_ ?_; (first | omega | (simp <;> omega)))))⟩
  case round =>
    clear howl hb1
    obtain ⟨k, rfl, hk, hown, howl, hN1, hbel⟩ := hrel
    have hz := hbel.size
    by_cases hlt : k < L.length
    · have hft := pows_next (d := d) (n := n) hlt
      have hql := pows_len (d := d) (n := n) (k := k) hl
      obtain ⟨g, rfl, hg2, d1, d2, d3⟩ := own_elem howl hlt
      have hfm := List.getElem_mem hlt
      generalize L[k] = f at d1 d2 d3 hft hfm
      obtain ⟨P, hP⟩ : ∃ P, pw d f n = P := ⟨_, rfl⟩
      have hW := Lib.hid (fun w => coPower_any d f f P n w (hcm.out f hfm) (by omega) hP)
      rw [hP] at hft
      generalize hQ : ixs L ((L.take k).map fun g => pw d g n) = Q at hft hown hql
      have Hft := Lib.hid hft
      clear hft hfm hP hQ
      go_wp2_with (first
        | (go_at_call 165; (with_reducible refine (hW.out _).mono ?_); rintro e v1 ⟨rfl, hB1⟩; have hZ1 := hB1.size; (try simp at hZ1); (try have zl1 : w.heap.size < v1.heap.size := by omega); (try have ze1 : w.heap.size ≤ v1.heap.size := by omega); (try have zn1 : ¬ w.heap.size = v1.heap.size := by omega); (try have zm1 : ¬ v1.heap.size = w.heap.size := by omega); have hC1_0 := fun o => (calm_cells hB1).1 (wr.heap.size) o (by first | omega | (simp <;> omega)); have hF1_0 := fun o => (calm_cells hB1).2 (wr.heap.size) o (by first | omega | (simp <;> omega)); (try have hl1_0 : wr.heap.size < v1.heap.size := by omega); (try have hm1_0 : ¬ wr.heap.size = v1.heap.size := by omega); (try have hn1_0 : ¬ v1.heap.size = wr.heap.size := by omega))
        | (have hol1 : v1.ownsRow B 36 3 (.slice (some ⟨g, 0, none⟩) L.length cap) L.length (cellsF L) := (by repeat (first | with_reducible assumption | with_reducible apply own_alloc | with_reducible apply own_drew | with_reducible apply own_drewN | (with_reducible refine own_setp (by assumption) ?_ ?_; (first | omega | (simp <;> omega))) | (with_reducible refine own_call (by assumption) ?_)))
           have hon1 : v1.ownsRow N0 3 1 u6 Q.length (cellsI Q) := (by repeat (first | with_reducible assumption | with_reducible apply own_alloc | with_reducible apply own_drew | with_reducible apply own_drewN | (with_reducible refine own_setp (by assumption) ?_ ?_; (first | omega | (simp <;> omega))) | (with_reducible refine own_call (by assumption) ?_)))
           (go_at_call 139; (with_reducible refine (grIndex_any _ B L P _ hl hol1).mono ?_); rintro e v2 ⟨rfl, hB2⟩; have hZ2 := hB2.size; (try simp at hZ2); (try have zl2 : w.heap.size < v2.heap.size := by omega); (try have ze2 : w.heap.size ≤ v2.heap.size := by omega); (try have zn2 : ¬ w.heap.size = v2.heap.size := by omega); (try have zm2 : ¬ v2.heap.size = w.heap.size := by omega); have hC2_0 := fun o => (calm_cells hB2).1 (wr.heap.size) o (by first | omega | (simp <;> omega)); have hF2_0 := fun o => (calm_cells hB2).2 (wr.heap.size) o (by first | omega | (simp <;> omega)); (try have hl2_0 : wr.heap.size < v2.heap.size := by omega); (try have hm2_0 : ¬ wr.heap.size = v2.heap.size := by omega); (try have hn2_0 : ¬ v2.heap.size = wr.heap.size := by omega))
           have hol2 := own_call hB2 hol1
           have hon2 := own_call hB2 hon1)
        | (go_at_call 122; refine (l1Put_any _ N0 Q _ _ (by omega) (by omega) hon2).mono ?_; rintro e w3 ⟨x3, rfl, hon3, _, hB3⟩; have hZ3 := hB3.size))
      have hol3 := own_call hB3 hol2
      have hb3 : Below w.heap.size w w3 := (by repeat (first | with_reducible exact Below.refl _ _ | with_reducible assumption | with_reducible apply Below.drew | with_reducible apply below_drewN | (with_reducible apply below_setp; (first | omega | (simp <;> omega))) | (with_reducible apply below_allocp; (first | omega | (simp <;> omega))) | (with_reducible refine below_viap (by assumption) ?_ ?_; (first | omega | (simp <;> omega)))))
      rw [← Hft.out] at hon3
      clear hown howl hbel
      go_wp2
      go_roundw
      case rel => exact ⟨k + 1, rfl, hlt, hon3, hol3, by omega, hb3⟩
      case measure => simp [intOf]; omega
    · have e : k = L.length := by omega
      have hx : (L.take k).map (fun g => pw d g n) = L.map fun g => pw d g n := by rw [e, List.take_length]
      have hql := pows_len (d := d) (n := n) (k := k) hl
      rw [hx] at hown hql
      subst e
      clear hx
      obtain ⟨A, hAe⟩ : ∃ A, ixs L (L.map fun g => pw d g n) = A := ⟨_, rfl⟩
      rw [hAe] at hown hql hA
      have HAe := Lib.hid hAe
      clear hAe
      go_wp2_with (go_at_call 166; refine (grForms_any _ _ B N0 L A _ hql hA.out howl hown).mono ?_; rintro e w4 ⟨x4, rfl, how4, hB4⟩)
      go_ret
      exact ⟨_, rfl, by rw [HAe.out]; exact own_base (by omega) how4, (by repeat (first | with_reducible exact Below.refl _ _ | with_reducible assumption | with_reducible apply Below.drew | with_reducible apply below_drewN | (with_reducible apply below_setp; (first | omega | (simp <;> omega))) | (with_reducible apply below_allocp; (first | omega | (simp <;> omega))) | (with_reducible refine below_viap (by assumption) ?_ ?_; (first | omega | (simp <;> omega)))))⟩
end
end Go.Proofs.YteehcjjhkphdnaaGreat
