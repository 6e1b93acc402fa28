/- Contracts: the powers and the orders of the classes of a group. -/
import Derived.Test.YtcijjnjgifoipaaT3
import Derived.Test.YtcijjnjgifoipaaN5
namespace Go.Proofs.Ytcijjnjgifoipaa
open Go.RowKit Go.Maps

def lenV : Value → Nat
  | .slice _ n _ => n
  | _ => 0
theorem own_one {w : World} {B : Nat} {e : TypeId} {u : Value} (hB : B ≤ w.heap.size) : (w.alloc (.cells #[u] e)).ownsRow B e 1 (.slice (some ⟨w.heap.size, 0, none⟩) 1 1) 1 [u] :=
  ⟨rfl, .inr ⟨w.heap.size, 1, #[u], rfl, hB, heap_alloc_new w _, Nat.le_refl _, by unfold maxLen; omega, rfl, rfl⟩⟩
theorem pwI_one {d : Int} {L : List Fm} (hD : Dsc d) (hL : clsL d = L) (f : Fm) : pwI d L f 1 = [0] := by
  have := gix_one hD
  rw [hL] at this
  unfold pwI
  simp [List.range_succ, pw, this]
/-- The state of the loop of the powers. -/
def PowSt (d : Int) (L : List Fm) (f : Fm) (N : Nat) (w : World) (v vp : Value) (wr : World) : Prop :=
  ∃ n : Nat, 1 ≤ n ∧ n ≤ N ∧ vp = .int .i64 (gix L (pw d f n)) ∧ lenV v = n ∧ wr.ownsRow w.heap.size 3 1 v (pwI d L f n).length (cellsI (pwI d L f n)) ∧ Below w.heap.size w wr

set_option maxRecDepth 100000 in
set_option maxHeartbeats 3200000 in
theorem gpowers_any (d : Int) (i N : Nat) (L : List Fm) (B G : Nat) (w : World) (hD : Dsc d) (hL : clsL d = L) (hi : i < L.length) (hN : IsOrd d L[i] N) (hN2 : N ≤ 1640) (hg : Grp L B G w) :
    Calls Try.prog 70 #[.pointer (some ⟨G, 0, none⟩), .int .i64 i] w (RetI (pwI d L L[i] N) w) := by
  obtain ⟨i0, hi0, hz0, hz1, hz2⟩ := info_parts infoInt
  have hl : L.length ≤ 100000 := by rw [← hL]; exact Nat.le_trans (clsL_len d) (by decide)
  have hmi : L[i] ∈ clsL d := by rw [hL]; exact List.getElem_mem hi
  have h1 : pwI d L L[i] 1 = [0] := pwI_one hD hL _
  have hT := Lib.hid (fun (m : Nat) (hm : m < L.length) w hg => gtimes_any d m i L B G w hD hL hm hi hg)
  have hgi : gix L (pw d L[i] 1) = i := by
    rw [hD.pw_one hmi]
    exact gix_get (hL ▸ clsL_nodup d) hi
  generalize L[i] = f at *
  have hst := Lib.hid (fun n (h1 : 1 ≤ n) (h2 : n ≤ N) => (show (gix L (pw d f n) = 0 ↔ n = N) from by
    have := gix_zero hD (hD.pwm hmi n)
    rw [hL] at this
    exact this.trans (ord_ne hN h1 h2)))
  have hel := Lib.hid (fun n => (show ∃ m : Nat, ∃ h : m < L.length, gix L (pw d f n) = m ∧ L[m] = pw d f n from by
    obtain ⟨m, a, b, c⟩ := gix_mem (L := L) (f := pw d f n) (by rw [← hL]; exact hD.pwm hmi n)
    exact ⟨m, a, c, b⟩))
  have HG := Lib.hid hg
  have Hn1 := hN.1
  clear hN hg hD hmi
  go_enter Try.func70, Try.ntmps70
  go_wp2
  go_loopw [5, 6] (fun v vp wr => PowSt d L f N w v vp wr) (fun v _ _ => N - lenV v)
  case atStart => exact ⟨1, Nat.le_refl _, Hn1, by rw [hgi], rfl, by rw [h1]; exact own_one (Nat.le_refl _), (by repeat (first | with_reducible exact Below.refl _ _ | with_reducible assumption | with_reducible apply Below.drew | with_reducible apply below_drewN | (with_reducible apply below_setp; (first | omega | (simp <;> omega))) | (with_reducible apply below_allocp; (first | omega | (simp <;> omega))) | (with_reducible refine below_viap (by assumption) ?_ ?_; (first | omega | (simp <;> omega)))))⟩
  case round =>
    clear hgi h1
    obtain ⟨n, n1, n2, rfl, hv, hown, hbel⟩ := hrel
    have hz := hbel.size
    obtain ⟨m, hm, hgm, hLm⟩ := hel.out n
    have hz0' := hst.out n n1 n2
    have hnx := Lib.hid (pwI_next d L f n)
    have hql : (pwI d L f n).length ≤ 100000 := by rw [pwI_len]; omega
    have hqn := pwI_len d L f n
    rw [hgm] at hz0' hnx ⊢
    have hT2 := Lib.hid (fun w hg => hT.out m hm w hg)
    rw [hLm] at hT2
    obtain ⟨Q, hQ⟩ : ∃ Q, pwI d L f n = Q := ⟨_, rfl⟩
    rw [hQ] at hown hnx hql hqn
    have HQ := Lib.hid hQ
    clear hQ
    by_cases he : n = N
    · have h0 : m = 0 := by have := hz0'.2 he; omega
      subst h0
      subst he
      clear hnx hz0'
      go_wp2
      go_ret
      refine ⟨_, rfl, ?_, hbel⟩
      rw [HQ.out]
      exact hown
    · have h0 : ((m : Int) == 0) = false := by rw [beq_eq_false_iff_ne]; intro h; exact he (hz0'.1 h)
      have h00 : ¬ m = 0 := by intro h; exact he (hz0'.1 (by omega))
      have hnN : n < N := by omega
      clear hz0' he
      go_wp2_with (first
        | (at_builtin; refine wpList_append_own_at _ rfl (.tmp 15) (.tmp 17) 25 rfl w.heap.size 3 i0 _ 1 8 Try.underlying25 hi0 hz0 hz1 hz2 rfl (by decide) u5 Q.length (cellsI Q) rfl ?_ ⟨wr.heap.size, 0, none⟩ 1 1 [.int .i64 m] rfl rfl ?_ (one1 _) ?_ ?_ ?_ ?_; exact (by repeat (first | with_reducible assumption | with_reducible apply own_alloc | with_reducible apply own_drew | with_reducible apply own_drewN | (with_reducible refine own_setp (by assumption) ?_ ?_; (first | omega | (simp <;> omega))) | (with_reducible refine own_call (by assumption) ?_))); exact cells1 (Blk.new _ _ _); (unfold maxLen; omega); omega; (simp; omega); intro x2 w2 hown2 hg2 _ _; have hb2 : Below w.heap.size w w2 := below_grown (own_ge hown) (by simp; omega) hg2 (by repeat (first | with_reducible exact Below.refl _ _ | with_reducible assumption | with_reducible apply Below.drew | with_reducible apply below_drewN | (with_reducible apply below_setp; (first | omega | (simp <;> omega))) | (with_reducible apply below_allocp; (first | omega | (simp <;> omega))) | (with_reducible refine below_viap (by assumption) ?_ ?_; (first | omega | (simp <;> omega))))); have hz2' := hb2.size)
        | (go_at_call 77; refine (hT2.out _ (HG.out.call hb2)).mono ?_; rintro e v3 ⟨rfl, hB3⟩; have hZ3 := hB3.size))
      have hon3 := own_call hB3 (own_snocI hnx.out hown2)
      have hb3 := below_via hb2 hB3 hz2'
      go_wp2
      go_roundw
      case rel => exact ⟨n + 1, by omega, by omega, rfl, by have := own_shape hown2; obtain ⟨_, _, rfl⟩ := this; simp [lenV]; omega, hon3, hb3⟩
      case measure => have := own_shape hown2; obtain ⟨_, _, rfl⟩ := this; simp only [lenV] at hv ⊢; omega

/-- The state of the loop of the orders. -/
def OrsSt (d : Int) (L : List Fm) (w : World) (v vi : Value) (wr : World) : Prop :=
  ∃ k : Nat, vi = .int .i64 k ∧ k ≤ L.length ∧ wr.ownsRow w.heap.size 3 1 v (ordsL d (L.take k)).length (cellsI (ordsL d (L.take k))) ∧ Below w.heap.size w wr

set_option maxRecDepth 100000 in
set_option maxHeartbeats 3200000 in
theorem gorders_any (d : Int) (L : List Fm) (B G : Nat) (w : World) (hD : Dsc d) (hL : clsL d = L) (hg : Grp L B G w) :
    Calls Try.prog 35 #[.pointer (some ⟨G, 0, none⟩)] w (RetI (ordsL d L) w) := by
  obtain ⟨i0, hi0, hz0, hz1, hz2⟩ := info_parts infoInt
  have hl : L.length ≤ 100000 := by rw [← hL]; exact Nat.le_trans (clsL_len d) (by decide)
  have hP := Lib.hid (fun (k : Nat) (hk : k < L.length) (w : World) (hg : Grp L B G w) => (show Calls Try.prog 70 #[.pointer (some ⟨G, 0, none⟩), .int .i64 k] w (RetI (pwI d L L[k] (ordF d L[k])) w) from by
    have hm : L[k] ∈ clsL d := by rw [hL]; exact List.getElem_mem hk
    obtain ⟨a, b⟩ := hD.ordm hm
    exact gpowers_any d k _ L B G w hD hL hk a b hg))
  have hN := Lib.hid (fun (k : Nat) (hk : k < L.length) => (hD.ordm (f := L[k]) (by rw [hL]; exact List.getElem_mem hk)).2)
  have HG := Lib.hid hg
  obtain ⟨base, cap, M, D, hblk, _, _, _⟩ := hg
  have cG := hblk.cell; have fG := hblk.frozen; have lG := hblk.lt
  clear hD hL hblk
  go_enter Try.func35, Try.ntmps35
  go_wp2
  go_loopw [3, 11] (fun v i wr => OrsSt d L w v i wr) (fun _ i _ => L.length - (intOf i).toNat)
  case atStart => exact ⟨0, rfl, Nat.zero_le _, own_empty (Nat.le_refl _), (by repeat (first | with_reducible exact Below.refl _ _ | with_reducible assumption | with_reducible apply Below.drew | with_reducible apply below_drewN | (with_reducible apply below_setp; (first | omega | (simp <;> omega))) | (with_reducible apply below_allocp; (first | omega | (simp <;> omega))) | (with_reducible refine below_viap (by assumption) ?_ ?_; (first | omega | (simp <;> omega)))))⟩
  case round =>
    clear cG fG
    obtain ⟨k, rfl, hk, hown, hbel⟩ := hrel
    have hz := hbel.size
    by_cases hlt : k < L.length
    · have hnx := Lib.hid (ordsL_take (d := d) hlt)
      have hP2 := Lib.hid (hP.out k hlt)
      have hNk := hN.out k hlt
      have hql : (ordsL d (L.take k)).length ≤ 100000 := by rw [ordsL_len, List.length_take]; omega
      obtain ⟨R, hR⟩ : ∃ R, pwI d L L[k] (ordF d L[k]) = R := ⟨_, rfl⟩
      have hRl : R.length = ordF d L[k] := by rw [← hR, pwI_len]
      rw [hR] at hP2
      generalize ordF d L[k] = N at *
      generalize ordsL d (L.take k) = Q at hown hnx hql
      clear hR
      go_wp2_with (first
        | (go_at_call 70; refine (hP2.out _ (HG.out.call hbel)).mono ?_; rintro e v1 ⟨vr, rfl, hor, hB1⟩; rw [hRl] at hor; obtain ⟨br, cr, rfl⟩ := own_shape hor; have hZ1 := hB1.size)
        | (at_builtin; refine wpList_append_own_at _ rfl (.tmp 14) (.tmp 19) 25 rfl w.heap.size 3 i0 _ 1 8 Try.underlying25 hi0 hz0 hz1 hz2 rfl (by decide) u3 Q.length (cellsI Q) rfl ?_ ⟨v1.heap.size, 0, none⟩ 1 1 [.int .i64 N] rfl rfl ?_ (one1 _) ?_ ?_ ?_ ?_; exact (by repeat (first | with_reducible assumption | with_reducible apply own_alloc | with_reducible apply own_drew | with_reducible apply own_drewN | (with_reducible refine own_setp (by assumption) ?_ ?_; (first | omega | (simp <;> omega))) | (with_reducible refine own_call (by assumption) ?_))); exact cells1 (Blk.new _ _ _); (unfold maxLen; omega); omega; (simp; omega); intro x2 w2 hown2 hg2 _ _; have hb2 : Below w.heap.size w w2 := below_grown (own_ge hown) (by simp; omega) hg2 (by repeat (first | with_reducible exact Below.refl _ _ | with_reducible assumption | with_reducible apply Below.drew | with_reducible apply below_drewN | (with_reducible apply below_setp; (first | omega | (simp <;> omega))) | (with_reducible apply below_allocp; (first | omega | (simp <;> omega))) | (with_reducible refine below_viap (by assumption) ?_ ?_; (first | omega | (simp <;> omega))))); have hz2' := hb2.size))
      have hon3 := own_snocI hnx.out hown2
      go_wp2
      go_roundw
      case rel => exact ⟨k + 1, rfl, hlt, hon3, hb2⟩
      case measure => simp [intOf]; omega
    · have e : k = L.length := by omega
      have hx : ordsL d (L.take k) = ordsL d L := by rw [e, List.take_length]
      have Hx := Lib.hid hx
      clear hx
      subst e
      go_wp2
      go_ret
      exact ⟨_, rfl, by rw [← Hx.out]; exact hown, hbel⟩
end Go.Proofs.Ytcijjnjgifoipaa
