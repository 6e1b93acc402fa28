/- Parts K4 K5 K6 laid together by tp.py. -/
import Derived.Test.YtkkamlhpappebaaKT
import Derived.Test.YtkkamlhpappebaaGG
import Derived.Test.YtkkamlhpappebaaK2
namespace Go.Proofs.Ytkkamlhpappebaa
section
open Go.RowKit

def GixSt (L : List Fm) (f : Fm) (B : Nat) (v : Value) (w : World) (vi : Value) (wr : World) : Prop :=
  ∃ k : Nat, vi = .int .i64 k ∧ k ≤ L.length ∧ Hid (∀ j (h : j < L.length), j < k → L[j] ≠ f) ∧ wr.ownsRow B 35 3 v L.length (cellsF L) ∧
    Blk wr w.heap.size 35 #[.int .i64 f.a, .int .i64 f.b, .int .i64 f.c] ∧ Below w.heap.size w wr

set_option maxRecDepth 100000 in
set_option maxHeartbeats 1600000 in
theorem grIndex_any (v : Value) (B : Nat) (L : List Fm) (f : Fm) (w : World) (hl : L.length ≤ 100000) (h : w.ownsRow B 35 3 v L.length (cellsF L)) :
    Calls Try.prog 150 #[v, .agg #[.int .i64 f.a, .int .i64 f.b, .int .i64 f.c]] w fun e w' => e = .returned (.int .i64 (gix L f)) ∧ Below w.heap.size w w' := by
  obtain ⟨base, cap, rfl⟩ := own_shape h
  have H := Lib.hid h
  clear h
  go_enter Try.func150, Try.ntmps150
  go_wp2
  go_loopw [9] (fun i wr => GixSt L f B (.slice base L.length cap) w i wr) (fun i _ => L.length - (intOf i).toNat)
  case atStart => exact ⟨0, rfl, Nat.zero_le _, Lib.hid (fun j _ hj => absurd hj (Nat.not_lt_zero _)), own_alloc H.out, Blk.new _ _ _, (by repeat (first | with_reducible exact Below.refl _ _ | with_reducible assumption | with_reducible apply Below.drew | with_reducible apply below_drewN | (with_reducible apply below_setp; (first | omega | (simp <;> omega))) | (with_reducible apply below_allocp; (first | omega | (simp <;> omega))) | (with_reducible refine below_viap (by assumption) ?_ ?_; (first | omega | (simp <;> omega)))))⟩
  case round =>
    clear H
    obtain ⟨k, rfl, hk, hno, howl, hblk, hbel⟩ := hrel
    have hz := hbel.size
    have hC := hblk.cell; have hF := hblk.frozen; have hlt0 := hblk.lt
    by_cases hlt : k < L.length
    · obtain ⟨g, rfl, hg2, d1, d2, d3⟩ := own_elem howl hlt
      have hat := Lib.hid (fun (e : L[k] = f) => gix_at hlt e hno.out)
      have hnx := Lib.hid (fun (e : L[k] ≠ f) => (show ∀ j (h : j < L.length), j < k + 1 → L[j] ≠ f from fun j h hj => if he : j = k then (by subst he; exact e) else hno.out j h (by omega)))
      generalize L[k] = r at d1 d2 d3 hat hnx
      rcases fm_cases r f with ⟨rfl, hv⟩ | ⟨hv, e1⟩ | ⟨hv, e1, e2⟩ | ⟨hv, e1, e2, e3⟩
      · have Hat := Lib.hid (hat.out rfl)
        clear hat hnx hv
        go_wp2
        go_ret
        exact ⟨ret_int Hat.out.symm, (by repeat (first | with_reducible exact Below.refl _ _ | with_reducible assumption | with_reducible apply Below.drew | with_reducible apply below_drewN | (with_reducible apply below_setp; (first | omega | (simp <;> omega))) | (with_reducible apply below_allocp; (first | omega | (simp <;> omega))) | (with_reducible refine below_viap (by assumption) ?_ ?_; (first | omega | (simp <;> omega)))))⟩
      all_goals
        have Hnx := Lib.hid (hnx.out ((fmEq_no _ _).1 hv))
        clear hat hnx hv hno
        go_wp2
        exact ⟨⟨k + 1, rfl, hlt, Hnx, own_alloc howl, Blk.allocp hblk, (by repeat (first | with_reducible exact Below.refl _ _ | with_reducible assumption | with_reducible apply Below.drew | with_reducible apply below_drewN | (with_reducible apply below_setp; (first | omega | (simp <;> omega))) | (with_reducible apply below_allocp; (first | omega | (simp <;> omega))) | (with_reducible refine below_viap (by assumption) ?_ ?_; (first | omega | (simp <;> omega)))))⟩, by simp [intOf]; omega⟩
    · have Hno := Lib.hid (gix_no (L := L) (f := f) (fun j h => hno.out j h (by omega)))
      clear hno
      go_wp2
      go_ret
      exact ⟨ret_int Hno.out.symm, hbel⟩
end

section
open Go.RowKit

theorem frm_next {L : List Fm} {A : List Int} {k : Nat} (h : k < A.length) {n : Nat} (hn : n < L.length) (hx : A[k] = n) : frm L (A.take (k + 1)) = frm L (A.take k) ++ [L[n]] := by
  unfold frm
  rw [List.take_succ_eq_append_getElem h, List.map_append, hx]
  simp [List.getElem?_eq_getElem hn]
theorem apart_of {w w2 : World} {B B2 : Nat} {e e2 : TypeId} {sz n sz2 n2 : Nat} {v vl : Value} {xs xs2 : List Value} (h : w.ownsRow B e sz vl n xs) (h2 : w2.ownsRow B2 e2 sz2 v n2 xs2) (hB : w.heap.size ≤ B2) : Apart v vl := by
  unfold Apart
  cases h3 : vl.ownBlock with
  | none => exact .inl rfl
  | some b =>
    have k1 := (h.lt b h3).2
    refine .inr (fun he => ?_)
    have k2 := (h2.lt b he.symm).1
    omega
def FrSt (L : List Fm) (A : List Int) (B B2 : Nat) (vl va : Value) (w : World) (v vi : Value) (wr : World) : Prop :=
  ∃ k : Nat, vi = .int .i64 k ∧ k ≤ A.length ∧ wr.ownsRow w.heap.size 35 3 v (frm L (A.take k)).length (cellsF (frm L (A.take k))) ∧ wr.ownsRow B 35 3 vl L.length (cellsF L) ∧
    wr.ownsRow B2 3 1 va A.length (cellsI A) ∧ Apart v vl ∧ Apart v va ∧ Below w.heap.size w wr

set_option maxRecDepth 100000 in
set_option maxHeartbeats 3200000 in
theorem grForms_any (v u : Value) (B B2 : Nat) (L : List Fm) (A : List Int) (w : World) (hl2 : A.length ≤ 100000) (hA : ∀ x ∈ A, 0 ≤ x ∧ x < L.length)
    (h : w.ownsRow B 35 3 v L.length (cellsF L)) (h2 : w.ownsRow B2 3 1 u A.length (cellsI A)) :
    Calls Try.prog 137 #[v, u] w (RetF (frm L A) w) := by
  obtain ⟨i0, hi, hz0, hz1, hz2⟩ := info_parts infoForm
  obtain ⟨base, cap, rfl⟩ := own_shape h
  obtain ⟨base2, cap2, rfl⟩ := own_shape h2
  have H := Lib.hid h
  have H2 := Lib.hid h2
  have HA := Lib.hid hA
  clear h h2 hA
  go_enter Try.func137, Try.ntmps137
  go_wp2
  go_loopw [5, 10] (fun v i wr => FrSt L A B B2 (.slice base L.length cap) (.slice base2 A.length cap2) w v i wr) (fun _ i _ => A.length - (intOf i).toNat)
  case atStart => exact ⟨0, rfl, Nat.zero_le _, World.ownsRow_nil _ _ _ _, H.out, H2.out, apart_nil, apart_nil, (by repeat (first | with_reducible exact Below.refl _ _ | with_reducible assumption | with_reducible apply Below.drew | with_reducible apply below_drewN | (with_reducible apply below_setp; (first | omega | (simp <;> omega))) | (with_reducible apply below_allocp; (first | omega | (simp <;> omega))) | (with_reducible refine below_viap (by assumption) ?_ ?_; (first | omega | (simp <;> omega)))))⟩
  case round =>
    clear H H2
    obtain ⟨k, rfl, hk, hown, howl, howa, hap, hap2, hbel⟩ := hrel
    have hz := hbel.size
    by_cases hlt : k < A.length
    · obtain ⟨g2, rfl, hg2, c1⟩ := own_elemI howa hlt
      obtain ⟨x0, x1⟩ := HA.out _ (List.getElem_mem hlt)
      obtain ⟨n, hn⟩ : ∃ n : Nat, A[k] = n := ⟨A[k].toNat, by omega⟩
      rw [hn] at c1 x1
      have hnl : n < L.length := by omega
      have hft := Lib.hid (frm_next hlt hnl hn)
      obtain ⟨g, rfl, hg1, d1, d2, d3⟩ := own_elem howl hnl
      have hfl : (frm L (A.take k)).length ≤ 100000 := by unfold frm; rw [List.length_map, List.length_take]; omega
      generalize L[n] = f at d1 d2 d3 hft
      clear hn x0
      go_wp2_with (at_builtin; refine wpList_append_own_at _ rfl (.tmp 14) (.tmp 19) 27 rfl w.heap.size 35 i0 _ 3 24 Try.underlying27 hi hz0 hz1 hz2 rfl (by decide) u5 (frm L (A.take k)).length (cellsF (frm L (A.take k))) rfl ?_ ⟨wr.heap.size, 0, none⟩ 1 1 [.int .i64 f.a, .int .i64 f.b, .int .i64 f.c] rfl rfl ?_ (one3 _ _ _) ?_ ?_ ?_ ?_; exact (by repeat (first | with_reducible assumption | with_reducible apply own_alloc | with_reducible apply own_drew | with_reducible apply own_drewN | (with_reducible refine own_setp (by assumption) ?_ ?_; (first | omega | (simp <;> omega))) | (with_reducible refine own_call (by assumption) ?_))); exact cells3 (Blk.new_at (by simp)); (unfold maxLen; omega); omega; (simp; omega); intro x2 w2 hown2 hgr _ hloc)
      have hb2 : Below w.heap.size w w2 := below_grown (own_ge hown) (by simp; omega) hgr (by repeat (first | with_reducible exact Below.refl _ _ | with_reducible assumption | with_reducible apply Below.drew | with_reducible apply below_drewN | (with_reducible apply below_setp; (first | omega | (simp <;> omega))) | (with_reducible apply below_allocp; (first | omega | (simp <;> omega))) | (with_reducible refine below_viap (by assumption) ?_ ?_; (first | omega | (simp <;> omega)))))
      have ho2 := own_snoc hft.out hown2
      have hol1 := own_alloc (o := Obj.cells #[Value.int IntKind.i64 f.a, Value.int IntKind.i64 f.b, Value.int IntKind.i64 f.c] 35) howl
      have hoa1 := own_alloc (o := Obj.cells #[Value.int IntKind.i64 f.a, Value.int IntKind.i64 f.b, Value.int IntKind.i64 f.c] 35) howa
      have hol2 := hol1.kept hgr hap
      have hoa2 := hoa1.kept hgr hap2
      have hap3 := apart_next hap hol1 (Nat.le_refl _) hloc
      have hap4 := apart_next hap2 hoa1 (Nat.le_refl _) hloc
      clear hgr hown2 hown hbel howl howa hap hap2 hol1 hoa1 hloc
      go_wp2
      go_roundw
      case rel => exact ⟨k + 1, rfl, hlt, ho2, hol2, hoa2, hap3, hap4, hb2⟩
      case measure => simp [intOf]; omega
    · have e : k = A.length := by omega
      have hx : frm L (A.take k) = frm L A := by rw [e, List.take_length]
      have Hx := Lib.hid hx
      clear hx
      subst e
      go_wp2
      go_ret
      exact ⟨_, rfl, by rw [← Hx.out]; exact hown, hbel⟩
end

section
open Go.RowKit

theorem pows_next {d : Int} {n k : Nat} {L : List Fm} (h : k < L.length) : ixs L ((L.take (k + 1)).map fun g => pw d g n) = putI (ixs L ((L.take k).map fun g => pw d g n)) (gix L (pw d L[k] n)) := by
  rw [List.take_succ_eq_append_getElem h, List.map_append, ← ixs_snoc]; rfl
theorem pows_len {d : Int} {n k : Nat} {L : List Fm} (h : L.length ≤ 100000) : (ixs L ((L.take k).map fun g => pw d g n)).length ≤ 100000 := by
  have := ixs_len L ((L.take k).map fun g => pw d g n) 100000
  rw [List.take_of_length_le (by rw [List.length_map, List.length_take]; omega)] at this
  exact this
theorem pows_all {d : Int} {n : Nat} (D : Dsc d) : frm (clsL d) (ixs (clsL d) ((clsL d).map fun g => pw d g n)) = (clsL d).filter (powP d n (clsL d)) := by
  rw [frm_ixs (clsL_nodup d) (by intro t ht; obtain ⟨g, hg, rfl⟩ := List.mem_map.1 ht; exact D.pwm hg n)]
  congr 1
  funext f
  unfold powP
  rw [List.any_map]; rfl
def GpSt (d : Int) (n : Nat) (L : List Fm) (B N0 : Nat) (vl : Value) (w : World) (v vi : Value) (wr : World) : Prop :=
  ∃ k : Nat, vi = .int .i64 k ∧ k ≤ L.length ∧ wr.ownsRow N0 3 1 v (ixs L ((L.take k).map fun g => pw d g n)).length (cellsI (ixs L ((L.take k).map fun g => pw d g n))) ∧
    wr.ownsRow B 35 3 vl L.length (cellsF L) ∧ N0 ≤ wr.heap.size ∧ Below w.heap.size w wr

end
end Go.Proofs.Ytkkamlhpappebaa
