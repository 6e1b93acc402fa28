/- Contracts: the forms at indices; GroupBasis, of both sides. -/
import Derived.Test.YtkkamlhpappebaaBB
import Derived.Test.YtkkamlhpappebaaBD
import Derived.Test.YtkkamlhpappebaaKX
namespace Go.Proofs.Ytkkamlhpappebaa
open Go.RowKit Go.Maps

def FaSt (L : List Fm) (A : List Int) (w : World) (v vi : Value) (wr : World) : Prop :=
  ∃ k : Nat, vi = .int .i64 k ∧ k ≤ A.length ∧ wr.ownsRow w.heap.size 35 3 v (frm L (A.take k)).length (cellsF (frm L (A.take k))) ∧ Below w.heap.size w wr

set_option maxRecDepth 100000 in
set_option maxHeartbeats 3200000 in
theorem formsAt_any (L : List Fm) (B G : Nat) (A : List Int) (v : Value) (B2 : Nat) (w : World) (hl2 : A.length ≤ 100000) (hA : ∀ x ∈ A, 0 ≤ x ∧ x < L.length) (hg : Grp L B G w)
    (ho : w.ownsRow B2 3 1 v A.length (cellsI A)) :
    Calls Try.prog 141 #[.pointer (some ⟨G, 0, none⟩), v] w (RetF (frm L A) w) := by
  obtain ⟨i0, hi, hz0, hz1, hz2⟩ := info_parts infoForm
  obtain ⟨b2, c2, rfl⟩ := own_shape ho
  have HO := Lib.hid ho
  have HA := Lib.hid hA
  have HG := Lib.hid hg
  clear ho hA hg
  go_enter Try.func141, Try.ntmps141
  go_wp2
  go_loopw [5, 11] (fun v i wr => FaSt L A w v i wr) (fun _ i _ => A.length - (intOf i).toNat)
  case atStart => exact ⟨0, rfl, Nat.zero_le _, own_empty (Nat.le_refl _), (by repeat (first | with_reducible exact Below.refl _ _ | with_reducible assumption | with_reducible apply Below.drew | with_reducible apply below_drewN | (with_reducible apply below_setp; (first | omega | (simp <;> omega))) | (with_reducible apply below_allocp; (first | omega | (simp <;> omega))) | (with_reducible refine below_viap (by assumption) ?_ ?_; (first | omega | (simp <;> omega)))))⟩
  case round =>
    obtain ⟨k, rfl, hk, hown, hbel⟩ := hrel
    have hz := hbel.size
    by_cases hlt : k < A.length
    · obtain ⟨ga, rfl, hga, c1⟩ := own_elemI (own_call hbel HO.out) hlt
      obtain ⟨x0, x1⟩ := HA.out _ (List.getElem_mem hlt)
      obtain ⟨n, hn⟩ : ∃ n : Nat, A[k] = n := ⟨A[k].toNat, by omega⟩
      rw [hn] at c1 x1
      have hnl : n < L.length := by omega
      have hft := Lib.hid (frm_next hlt hnl hn)
      obtain ⟨base, cap, M, Dm, hblk, howl, _, _⟩ := HG.out.call hbel
      have cG := hblk.cell; have fG := hblk.frozen; have lG := hblk.lt
      obtain ⟨g, rfl, hg1, d1, d2, d3⟩ := own_elem howl hnl
      have hfl : (frm L (A.take k)).length ≤ 100000 := by unfold frm; rw [List.length_map, List.length_take]; omega
      generalize L[n] = f at d1 d2 d3 hft
      clear hn x0 howl hblk
      go_wp2_with (at_builtin; refine wpList_append_own_at _ rfl (.tmp 15) (.tmp 23) 27 rfl w.heap.size 35 i0 _ 3 24 Try.underlying27 hi hz0 hz1 hz2 rfl (by decide) u5 (frm L (A.take k)).length (cellsF (frm L (A.take k))) rfl ?_ ⟨wr.heap.size, 0, none⟩ 1 1 [.int .i64 f.a, .int .i64 f.b, .int .i64 f.c] rfl rfl ?_ (one3 _ _ _) ?_ ?_ ?_ ?_; exact (by repeat (first | with_reducible assumption | with_reducible apply own_alloc | with_reducible apply own_drew | with_reducible apply own_drewN | (with_reducible refine own_setp (by assumption) ?_ ?_; (first | omega | (simp <;> omega))) | (with_reducible refine own_call (by assumption) ?_))); exact cells3 (Blk.new_at (by simp)); (unfold maxLen; omega); omega; (simp; omega); intro x2 w2 hown2 hgr _ hloc)
      have hb2 : Below w.heap.size w w2 := below_grown (own_ge hown) (by simp; omega) hgr (by repeat (first | with_reducible exact Below.refl _ _ | with_reducible assumption | with_reducible apply Below.drew | with_reducible apply below_drewN | (with_reducible apply below_setp; (first | omega | (simp <;> omega))) | (with_reducible apply below_allocp; (first | omega | (simp <;> omega))) | (with_reducible refine below_viap (by assumption) ?_ ?_; (first | omega | (simp <;> omega)))))
      have ho2 := own_snoc hft.out hown2
      clear hgr hown2 hown hbel hloc
      go_wp2
      go_roundw
      case rel => exact ⟨k + 1, rfl, hlt, ho2, hb2⟩
      case measure => simp [intOf]; omega
    · have e : k = A.length := by omega
      rw [e, List.take_length] at hown
      subst e
      go_wp2
      go_ret
      exact ⟨_, rfl, hown, hbel⟩

/-- What GroupBasis gives. -/
def GuL (d : Int) (L : List Fm) (ok : Bool) : Prop := (isDisc d = false ∧ L = [] ∧ ok = false) ∨ (isDisc d = true ∧ L = frm (clsL d) (nats (basN d)) ∧ ok = true)
theorem bas_len20 {d : Int} (D : Dsc d) : (nats (basN d)).length ≤ 20 := by rw [nats_len, basN_len, facN_len]; exact inv_len20 D
theorem bas_lt {d : Int} (D : Dsc d) : ∀ x ∈ nats (basN d), 0 ≤ x ∧ x < (clsL d).length := by
  intro x hx
  obtain ⟨j, hj, rfl⟩ := List.mem_map.1 hx
  have := basN_lt D j hj
  simp
  omega
theorem guL_ex (d : Int) : ∃ L ok, GuL d L ok ∧ L.length ≤ 100000 := by
  cases hc : isDisc d with
  | false => exact ⟨_, _, .inl ⟨hc, rfl, rfl⟩, by simp⟩
  | true =>
    refine ⟨_, _, .inr ⟨hc, rfl, rfl⟩, ?_⟩
    have := bas_len20 (dsc_of hc)
    unfold frm
    rw [List.length_map]
    omega

set_option maxRecDepth 100000 in
set_option maxHeartbeats 1600000 in
theorem implGu_any (d : Int) (R : List Fm) (ok : Bool) (w : World) (h : GuL d R ok) : Calls Try.prog 59 #[.int .i64 d] w (RetFb R ok w) := by
  rcases h with ⟨hc, rfl, rfl⟩ | ⟨hc, rfl, rfl⟩
  · go_enter Try.func59, Try.ntmps59
    go_wp2_with (go_at_call 76; (with_reducible refine (negDisc_eq d false _ hc).mono ?_); rintro e v ⟨rfl, rfl⟩)
    go_ret2
    exact ⟨_, rfl, own_empty (by omega), (by repeat (first | with_reducible exact Below.refl _ _ | with_reducible assumption | with_reducible apply Below.drew | with_reducible apply below_drewN | (with_reducible apply below_setp; (first | omega | (simp <;> omega))) | (with_reducible apply below_allocp; (first | omega | (simp <;> omega))) | (with_reducible refine below_viap (by assumption) ?_ ?_; (first | omega | (simp <;> omega)))))⟩
  · have D := dsc_of hc
    have hA := bas_lt D
    have hA2 := bas_len20 D
    have hG := Lib.hid (fun w => groupOf_any d w D)
    have hB := Lib.hid (fun (B G : Nat) (w : World) (hg : Grp (clsL d) B G w) => gbasis_any d (clsL d) B G w D rfl hg)
    have hF := Lib.hid (fun (B G : Nat) (v : Value) (B2 : Nat) (w : World) (hg : Grp (clsL d) B G w) ho => formsAt_any (clsL d) B G (nats (basN d)) v B2 w (by omega) hA hg ho)
    unfold RetBs at hB
    generalize clsL d = L at *
    generalize nats (basN d) = A at *
    clear D hA
    go_enter Try.func59, Try.ntmps59
    go_wp2_with (first
      | (go_at_call 76; (with_reducible refine (negDisc_eq d true _ hc).mono ?_); rintro e v ⟨rfl, rfl⟩)
      | (go_at_call 79; refine (hG.out _).mono ?_; rintro e w1 ⟨G, rfl, hg1, hG0, hb1⟩; have hz1' := hb1.size)
      | (go_at_call 140; refine (hB.out _ _ _ hg1).mono ?_; rintro e w3 ⟨vb, vf, rfl, hob, _, hb3⟩; have hz3 := hb3.size)
      | (go_at_call 141; refine (hF.out _ _ _ _ _ (hg1.call hb3) hob).mono ?_; rintro e w4 ⟨vr, rfl, hor, hb4⟩))
    go_ret2
    exact ⟨_, rfl, own_base (by omega) hor, below_via (below_via hb1 hb3 hz1') hb4 (by omega)⟩

set_option maxRecDepth 100000 in
set_option maxHeartbeats 1600000 in
theorem specGu_any (d : Int) (R : List Fm) (ok : Bool) (w : World) (h : GuL d R ok) : Calls Try.prog 58 #[.int .i64 d] w (RetFb R ok w) := by
  rcases h with ⟨hc, rfl, rfl⟩ | ⟨hc, rfl, rfl⟩
  · go_enter Try.func58, Try.ntmps58
    go_wp2_with (go_at_call 74; (with_reducible refine (rDisc_eq d false _ hc).mono ?_); rintro e v ⟨rfl, rfl⟩)
    go_ret2
    exact ⟨_, rfl, World.ownsRow_nil _ _ _ _, (by repeat (first | with_reducible exact Below.refl _ _ | with_reducible assumption | with_reducible apply Below.drew | with_reducible apply below_drewN | (with_reducible apply below_setp; (first | omega | (simp <;> omega))) | (with_reducible apply below_allocp; (first | omega | (simp <;> omega))) | (with_reducible refine below_viap (by assumption) ?_ ?_; (first | omega | (simp <;> omega)))))⟩
  · have D := dsc_of hc
    have hA := bas_lt D
    have hA2 := bas_len20 D
    have hT := Lib.hid (fun w => grTable_any d w D)
    have hRe := Lib.hid (fun w => reList_any d w D.lo D.hi)
    have hB := Lib.hid (fun (B : Nat) (base : Option Addr) (cap : Nat) (w : World) (ht : Tab d (clsL d) B (.slice base (clsL d).length cap) w) => grBasis_any d (clsL d) B base cap w D rfl ht)
    have hF := Lib.hid (fun (v u : Value) (B B2 : Nat) (w : World) h h2 => grForms_any v u B B2 (clsL d) (nats (basN d)) w (by omega) hA h h2)
    generalize nats (basN d) = A at *
    clear D hA
    go_enter Try.func58, Try.ntmps58
    go_wp2_with (first
      | (go_at_call 74; (with_reducible refine (rDisc_eq d true _ hc).mono ?_); rintro e v ⟨rfl, rfl⟩)
      | (go_at_call 75; refine (hRe.out _).mono ?_; rintro e w1 ⟨vl, rfl, howl, hb1⟩; have hz1' := hb1.size)
      | (go_at_call 139; refine (hT.out _).mono ?_; rintro e w2 ⟨base, cap, rfl, ht2, hb2⟩; have hz2' := hb2.size)
      | (go_at_call 138; refine (hB.out _ _ _ _ ht2).mono ?_; rintro e w3 ⟨vb, rfl, hob, hb3⟩; have hz3 := hb3.size; have how3 := own_call hb3 (own_call hb2 howl))
      | (go_at_call 137; refine (hF.out _ _ _ _ _ how3 hob).mono ?_; rintro e w4 ⟨vr, rfl, hor, hb4⟩))
    go_ret2
    exact ⟨_, rfl, own_base (by omega) hor, below_via (below_via (below_via hb1 hb2 hz1') hb3 (by omega)) hb4 (by omega)⟩
end Go.Proofs.Ytkkamlhpappebaa
