/- Contracts of the reference: the forms at some indices, the powers of classes. -/
import Derived.Test.YtononfokhdmofaaK4
import Derived.Test.YtononfokhdmofaaK2
namespace Go.Proofs.Ytononfokhdmofaa
open Go.RowKit

theorem frm_next {L : List Fm} {A : List Int} {k : Nat} (h : k < A.length) {n : Nat} (hn : n < L.length) (hx : A[k] = n) : frm L (A.take (k + 1)) = frm L (A.take k) ++ [L[n]] := by
  unfold frm
  rw [List.take_succ_eq_append_getElem h, List.map_append, hx]
  simp [List.getElem?_eq_getElem hn]
theorem apart_of {w w2 : World} {B B2 : Nat} {e e2 : TypeId} {sz n sz2 n2 : Nat} {v vl : Value} {xs xs2 : List Value} (h : w.ownsRow B e sz vl n xs) (h2 : w2.ownsRow B2 e2 sz2 v n2 xs2) (hB : w.heap.size ≤ B2) : Apart v vl := by
  unfold Apart
  cases h3 : vl.ownBlock with
  | none => exact .inl rfl
  | some b =>
    have k1 := (h.lt b h3).2
    refine .inr (fun he => ?_)
    have k2 := (h2.lt b he.symm).1
    omega
def FrSt (L : List Fm) (A : List Int) (B B2 : Nat) (vl va : Value) (w : World) (v vi : Value) (wr : World) : Prop :=
  ∃ k : Nat, vi = .int .i64 k ∧ k ≤ A.length ∧ wr.ownsRow w.heap.size 26 3 v (frm L (A.take k)).length (cellsF (frm L (A.take k))) ∧ wr.ownsRow B 26 3 vl L.length (cellsF L) ∧
    wr.ownsRow B2 3 1 va A.length (cellsI A) ∧ Apart v vl ∧ Apart v va ∧ Below w.heap.size w wr

set_option maxRecDepth 100000 in
set_option maxHeartbeats 3200000 in
theorem grForms_any (v u : Value) (B B2 : Nat) (L : List Fm) (A : List Int) (w : World) (hl2 : A.length ≤ 100000) (hA : ∀ x ∈ A, 0 ≤ x ∧ x < L.length)
    (h : w.ownsRow B 26 3 v L.length (cellsF L)) (h2 : w.ownsRow B2 3 1 u A.length (cellsI A)) :
    Calls Try.prog 88 #[v, u] w (RetF (frm L A) w) := by
  obtain ⟨i0, hi, hz0, hz1, hz2⟩ := info_parts infoForm
  obtain ⟨base, cap, rfl⟩ := own_shape h
  obtain ⟨base2, cap2, rfl⟩ := own_shape h2
  have H := Lib.hid h
  have H2 := Lib.hid h2
  have HA := Lib.hid hA
  clear h h2 hA
  go_enter Try.func88, Try.ntmps88
  go_wp2
  go_loopw [5, 10] (fun v i wr => FrSt L A B B2 (.slice base L.length cap) (.slice base2 A.length cap2) w v i wr) (fun _ i _ => A.length - (intOf i).toNat)
  case atStart => exact ⟨0, rfl, Nat.zero_le _, World.ownsRow_nil _ _ _ _, H.out, H2.out, apart_nil, apart_nil, (by repeat (first | with_reducible exact Below.refl _ _ | with_reducible assumption | with_reducible apply Below.drew | with_reducible apply below_drewN | (with_reducible apply below_setp; (first | omega | (simp <;> omega))) | (with_reducible apply below_allocp; (first | omega | (simp <;> omega))) | (with_reducible refine below_viap (by assumption) ?_ ?_; (first | omega | (simp <;> omega)))))⟩
  case round =>
    clear H H2
    obtain ⟨k, rfl, hk, hown, howl, howa, hap, hap2, hbel⟩ := hrel
    have hz := hbel.size
    by_cases hlt : k < A.length
    · obtain ⟨g2, rfl, hg2, c1⟩ := own_elemI howa hlt
      obtain ⟨x0, x1⟩ := HA.out _ (List.getElem_mem hlt)
      obtain ⟨n, hn⟩ : ∃ n : Nat, A[k] = n := ⟨A[k].toNat, by omega⟩
      rw [hn] at c1 x1
      have hnl : n < L.length := by omega
      have hft := Lib.hid (frm_next hlt hnl hn)
      obtain ⟨g, rfl, hg1, d1, d2, d3⟩ := own_elem howl hnl
      have hfl : (frm L (A.take k)).length ≤ 100000 := by unfold frm; rw [List.length_map, List.length_take]; omega
      generalize L[n] = f at d1 d2 d3 hft
      clear hn x0
      go_wp2_with (at_builtin; refine wpList_append_own_at _ rfl (.tmp 14) (.tmp 19) 29 rfl w.heap.size 26 i0 _ 3 24 Try.underlying29 hi hz0 hz1 hz2 rfl (by decide) u5 (frm L (A.take k)).length (cellsF (frm L (A.take k))) rfl ?_ ⟨wr.heap.size, 0, none⟩ 1 1 [.int .i64 f.a, .int .i64 f.b, .int .i64 f.c] rfl rfl ?_ (one3 _ _ _) ?_ ?_ ?_ ?_; exact (by repeat (first | with_reducible assumption | with_reducible apply own_alloc | with_reducible apply own_drew | with_reducible apply own_drewN | (with_reducible refine own_setp (by assumption) ?_ ?_; (first | omega | (simp <;> omega))) | (with_reducible refine own_call (by assumption) ?_))); exact cells3 (Blk.new_at (by simp)); (unfold maxLen; omega); omega; (simp; omega); intro x2 w2 hown2 hgr _ hloc)
      have hb2 : Below w.heap.size w w2 := below_grown (own_ge hown) (by simp; omega) hgr (by repeat (first | with_reducible exact Below.refl _ _ | with_reducible assumption | with_reducible apply Below.drew | with_reducible apply below_drewN | (with_reducible apply below_setp; (first | omega | (simp <;> omega))) | (with_reducible apply below_allocp; (first | omega | (simp <;> omega))) | (with_reducible refine below_viap (by assumption) ?_ ?_; (first | omega | (simp <;> omega)))))
      have ho2 := own_snoc hft.out hown2
      have hol1 := own_alloc (o := Obj.cells #[Value.int IntKind.i64 f.a, Value.int IntKind.i64 f.b, Value.int IntKind.i64 f.c] 26) howl
      have hoa1 := own_alloc (o := Obj.cells #[Value.int IntKind.i64 f.a, Value.int IntKind.i64 f.b, Value.int IntKind.i64 f.c] 26) howa
      have hol2 := hol1.kept hgr hap
      have hoa2 := hoa1.kept hgr hap2
      have hap3 := apart_next hap hol1 (Nat.le_refl _) hloc
      have hap4 := apart_next hap2 hoa1 (Nat.le_refl _) hloc
      clear hgr hown2 hown hbel howl howa hap hap2 hol1 hoa1 hloc
      go_wp2
      go_roundw
      case rel => exact ⟨k + 1, rfl, hlt, ho2, hol2, hoa2, hap3, hap4, hb2⟩
      case measure => simp [intOf]; omega
    · have e : k = A.length := by omega
      have hx : frm L (A.take k) = frm L A := by rw [e, List.take_length]
      have Hx := Lib.hid hx
      clear hx
      subst e
      go_wp2
      go_ret
      exact ⟨_, rfl, by rw [← Hx.out]; exact hown, hbel⟩
end Go.Proofs.Ytononfokhdmofaa
