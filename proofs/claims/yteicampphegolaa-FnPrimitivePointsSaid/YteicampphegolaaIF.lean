/- Contracts: the primitive points of a list; the reduced forms that represent a number; of the reference. -/
import Derived.Test.YteicampphegolaaIE
namespace Go.Proofs.Yteicampphegolaa
open Go.RowKit

set_option maxRecDepth 100000 in
set_option maxHeartbeats 3200000 in
theorem vaPrim_any (v : Value) (B : Nat) (L : List (Int × Int)) (w : World) (hl : L.length ≤ 50000) (hb : ∀ p ∈ L, (-1000000 ≤ p.1 ∧ p.1 ≤ 1000000) ∧ (-1000000 ≤ p.2 ∧ p.2 ≤ 1000000)) (ho : w.ownsRow B 37 2 v L.length (cellsP L)) :
    Calls Try.prog 171 #[v] w (RetPs (L.filter prmP) w) := by
  obtain ⟨i0, hi, hz0, hz1, hz2⟩ := info_parts infoPt
  obtain ⟨bp, cp, rfl⟩ := own_shape ho
  have HP := Lib.hid ho
  have Hb := Lib.hid hb
  clear ho hb
  go_enter Try.func171, Try.ntmps171
  go_wp2
  go_loopw [3, 8] (fun v8 v20 wr => PpSt2 L w v8 v20 wr) (fun _ v20 _ => L.length - (intOf v20).toNat)
  case atStart => exact ⟨0, rfl, Nat.zero_le _, World.ownsRow_nil _ _ _ _, Below.refl _ _⟩
  case round =>
    obtain ⟨k, rfl, hk, hown, hbel⟩ := hrel
    have hz := hbel.size
    by_cases hlt : k < L.length
    · obtain ⟨g, rfl, lg, c1, c2⟩ := own_elemP (own_call hbel HP.out) hlt
      obtain ⟨⟨x1, x2⟩, ⟨y1, y2⟩⟩ := Hb.out _ (List.getElem_mem hlt)
      have hft := filter_takeP hlt
      have hql : ((L.take k).filter prmP).length ≤ 50000 := Nat.le_trans (List.length_filter_le _ _) (by rw [List.length_take]; omega)
      generalize L[k] = p at *
      generalize (L.take k).filter prmP = P at *
      have hG := Lib.hid (fun w => nuGcd_any p.1 p.2 w (by omega) (by omega) (by omega) (by omega))
      have hpm : prmP p = decide ((Int.gcd p.1 p.2 : Int) = 1) := rfl
      obtain ⟨x, y⟩ := p
      dsimp only at *
      obtain ⟨t, ht⟩ : ∃ t : Int, (Int.gcd x y : Int) = t := ⟨_, rfl⟩
      rw [ht] at hG hpm
      have ng : ¬ g = wr.heap.size := by omega
      by_cases h1t : t = 1
      · subst h1t
        rw [hpm] at hft
        have Hft : Hid ((L.take (k + 1)).filter prmP = P ++ [(x, y)]) := Lib.hid (by rw [hft]; simp)
        clear hft hpm ht
        go_wp2_with (first
          | (go_at_call 184; refine (hG.out _).mono ?_; rintro e w2 ⟨rfl, nq, rfl⟩)
          | (at_builtin; refine wpList_append_own_at _ rfl (.tmp 18) (.tmp 20) 105 rfl w.heap.size 37 i0 _ 2 16 Try.underlying105 hi hz0 hz1 hz2 rfl (by decide) u3 P.length (cellsP P) rfl ?_ ⟨wr.heap.size + 1, 0, none⟩ 1 1 [.int .i64 x, .int .i64 y] rfl rfl ?_ (one2 _ _) ?_ ?_ ?_ ?_; exact (by repeat (first | with_reducible assumption | with_reducible apply own_alloc | with_reducible apply own_drew | with_reducible apply own_drewN | (with_reducible refine own_setp (by assumption) ?_ ?_; (first | omega | (simp <;> omega))) | (with_reducible refine own_call (by assumption) ?_))); exact cells2 (Blk.new_at (by simp)); (unfold maxLen; omega); omega; (simp; omega); intro x9 w9 hown9 hg9 _ hloc9))
        have hb9 : Below w.heap.size w w9 := below_grown (own_ge hown) (by simp; omega) hg9 (by repeat (first | with_reducible exact Below.refl _ _ | with_reducible assumption | with_reducible apply Below.drew | with_reducible apply below_drewN | (with_reducible apply below_setp; (first | omega | (simp <;> omega))) | (with_reducible apply below_allocp; (first | omega | (simp <;> omega))) | (with_reducible refine below_viap (by assumption) ?_ ?_; (first | omega | (simp <;> omega)))))
        have ho9 := own_snocP (p := (x, y)) Hft.out hown9
        clear hg9 hown9 hown hloc9
        go_wp2
        go_roundw
        case rel => exact ⟨k + 1, by go_num, hlt, ho9, hb9⟩
        case measure => (first | (simp [intOf]; done) | (simp [intOf]; omega))
      · rw [hpm] at hft
        have Hft : Hid ((L.take (k + 1)).filter prmP = P) := Lib.hid (by rw [hft, decide_eq_false h1t]; simp)
        have ht1 : (t == 1) = false := by rw [beq_eq_false_iff_ne]; exact h1t
        clear hft hpm ht
        go_wp2_with (go_at_call 184; refine (hG.out _).mono ?_; rintro e w2 ⟨rfl, nq, rfl⟩)
        go_roundw
        case rel => exact ⟨k + 1, by go_num, hlt, by rw [Hft.out]; exact (by repeat (first | with_reducible assumption | with_reducible apply own_alloc | with_reducible apply own_drew | with_reducible apply own_drewN | (with_reducible refine own_setp (by assumption) ?_ ?_; (first | omega | (simp <;> omega))) | (with_reducible refine own_call (by assumption) ?_))), (by repeat (first | with_reducible exact Below.refl _ _ | with_reducible assumption | with_reducible apply Below.drew | with_reducible apply below_drewN | (with_reducible apply below_setp; (first | omega | (simp <;> omega))) | (with_reducible apply below_allocp; (first | omega | (simp <;> omega))) | (with_reducible refine below_viap (by assumption) ?_ ?_; (first | omega | (simp <;> omega)))))⟩
        case measure => (first | (simp [intOf]; done) | (simp [intOf]; omega))
    · have ek : k = L.length := by omega
      rw [ek, List.take_length] at hown
      subst ek
      go_wp2
      go_ret
      exact ⟨_, rfl, hown, hbel⟩

set_option maxHeartbeats 800000 in
theorem vaShown_all (n : Int) (w : World) : Calls Try.prog 91 #[.int .i64 n] w fun e w' => e = .returned (.bool (shwB n)) ∧ w = w' := by
  have hL := Lib.hid (fun w => l1In_any n 1 10000 w)
  go_enter Try.func91, Try.ntmps91
  go_wp2_with (go_at_call 183; (with_reducible refine (hL.out _).mono ?_); rintro e v ⟨rfl, rfl⟩)
  go_ret
  exact ⟨rfl, rfl⟩
/-- Whether there is a primitive point, by whatever list of the points. -/
theorem prim_pos {d n : Int} {f : Fm} (D : Dsc d) (hf : f ∈ clsL d) (hn : 1 ≤ n) {L : List (Int × Int)} (h : ∀ p, p ∈ L ↔ vlP f.a f.b f.c p = n) : decide (0 < (L.filter prmP).length) = repP d n f := by
  unfold repP
  rw [Bool.eq_iff_iff, decide_eq_true_eq, decide_eq_true_eq, List.length_pos_iff_exists_mem, List.length_pos_iff_exists_mem]
  have k : ∀ p, p ∈ L ↔ p ∈ ptsL d n f := fun p => (h p).trans (ptsL_mem D hf hn p.1 p.2).symm
  constructor
  · rintro ⟨p, hp⟩
    rw [List.mem_filter] at hp
    exact ⟨p, List.mem_filter.2 ⟨(k p).1 hp.1, hp.2⟩⟩
  · rintro ⟨p, hp⟩
    rw [List.mem_filter] at hp
    exact ⟨p, List.mem_filter.2 ⟨(k p).2 hp.1, hp.2⟩⟩
theorem pts_bd2 {d n : Int} {f : Fm} (D : Dsc d) (hf : f ∈ clsL d) (hn : 1 ≤ n ∧ n ≤ 10000) {L : List (Int × Int)} (hnd : L.Nodup) (h : ∀ p, p ∈ L ↔ vlP f.a f.b f.c p = n) :
    L.length ≤ 50000 ∧ ∀ p ∈ L, (-1000000 ≤ p.1 ∧ p.1 ≤ 1000000) ∧ (-1000000 ≤ p.2 ∧ p.2 ≤ 1000000) := by
  have k : ∀ p, p ∈ L → p ∈ ptsL d n f := fun p hp => (ptsL_mem D hf hn.1 p.1 p.2).2 ((h p).1 hp)
  refine ⟨Nat.le_trans (len_sub hnd k) (pts_len D hf hn), fun p hp => ?_⟩
  have := pts_bd D hf hn p (k p hp)
  omega

set_option maxRecDepth 100000 in
set_option maxHeartbeats 6400000 in
theorem specRep_any (d n : Int) (R : List Fm) (ok : Bool) (w : World) (h : RpL d n R ok) :
    Calls Try.prog 71 #[.int .i64 d, .int .i64 n] w (RetFb R ok w) := by
  rcases h with ⟨hc, rfl, rfl⟩ | ⟨hc, hs, rfl, rfl⟩ | ⟨hc, hs, rfl, rfl⟩
  · go_enter Try.func71, Try.ntmps71
    go_wp2_with (go_at_call 90; (with_reducible refine (rDisc_eq d false _ hc).mono ?_); rintro e v ⟨rfl, rfl⟩)
    go_ret2
    exact ⟨_, rfl, World.ownsRow_nil _ _ _ _, (by repeat (first | with_reducible exact Below.refl _ _ | with_reducible assumption | with_reducible apply Below.drew | with_reducible apply below_drewN | (with_reducible apply below_setp; (first | omega | (simp <;> omega))) | (with_reducible apply below_allocp; (first | omega | (simp <;> omega))) | (with_reducible refine below_viap (by assumption) ?_ ?_; (first | omega | (simp <;> omega)))))⟩
  · have hS := Lib.hid (fun w => vaShown_all n w)
    rw [hs] at hS
    go_enter Try.func71, Try.ntmps71
    go_wp2_with (first | (go_at_call 90; (with_reducible refine (rDisc_eq d true _ hc).mono ?_); rintro e v ⟨rfl, rfl⟩) | (go_at_call 91; (with_reducible refine (hS.out _).mono ?_); rintro e v ⟨rfl, rfl⟩))
    go_ret2
    exact ⟨_, rfl, World.ownsRow_nil _ _ _ _, (by repeat (first | with_reducible exact Below.refl _ _ | with_reducible assumption | with_reducible apply Below.drew | with_reducible apply below_drewN | (with_reducible apply below_setp; (first | omega | (simp <;> omega))) | (with_reducible apply below_allocp; (first | omega | (simp <;> omega))) | (with_reducible refine below_viap (by assumption) ?_ ?_; (first | omega | (simp <;> omega)))))⟩
  · have D := dsc_of hc
    obtain ⟨i0, hi, hz0, hz1, hz2⟩ := info_parts infoForm
    have hS := Lib.hid (fun w => vaShown_all n w)
    rw [hs] at hS
    have hn : 1 ≤ n ∧ n ≤ 10000 := by unfold shwB at hs; simpa using hs
    have hL := Lib.hid (fun w => reList_any d w D.lo D.hi)
    have hV := Lib.hid (fun f (hf : f ∈ clsL d) w => vaAt_any d n f w D hf hn.1 hn.2)
    have hQ := Lib.hid (fun f (hf : f ∈ clsL d) (L : List (Int × Int)) (hnd : L.Nodup) (h : ∀ p : Int × Int, p ∈ L ↔ vlP f.a f.b f.c p = n) => (⟨pts_bd2 D hf hn hnd h, prim_pos D hf hn.1 h⟩ : (L.length ≤ 50000 ∧ ∀ p : Int × Int, p ∈ L → (-1000000 ≤ p.1 ∧ p.1 ≤ 1000000) ∧ (-1000000 ≤ p.2 ∧ p.2 ≤ 1000000)) ∧ decide (0 < (L.filter prmP).length) = repP d n f))
    have hl := clsL_len d
    generalize repP d n = p at *
    generalize clsL d = L at *
    clear D hs
    go_enter Try.func71, Try.ntmps71
    go_wp2_with (first
      | (go_at_call 90; (with_reducible refine (rDisc_eq d true _ hc).mono ?_); rintro e v ⟨rfl, rfl⟩)
      | (go_at_call 91; (with_reducible refine (hS.out _).mono ?_); rintro e v ⟨rfl, rfl⟩)
      | (go_at_call 170; refine (hL.out _).mono ?_; rintro e v1 ⟨vl, rfl, hol, hB1⟩; have hZ1 := hB1.size; (try simp at hZ1); obtain ⟨bl, cl, rfl⟩ := own_shape hol))
    have hb1 : Below w.heap.size w v1 := (by repeat (first | with_reducible exact Below.refl _ _ | with_reducible assumption | with_reducible apply Below.drew | with_reducible apply below_drewN | (with_reducible apply below_setp; (first | omega | (simp <;> omega))) | (with_reducible apply below_allocp; (first | omega | (simp <;> omega))) | (with_reducible refine below_viap (by assumption) ?_ ?_; (first | omega | (simp <;> omega)))))
    go_loopw [6, 20] (fun v6 v24 wr => ∃ k : Nat, v24 = .int .i64 k ∧ k ≤ L.length ∧ wr.ownsRow w.heap.size 35 3 v6 ((L.take k).filter p).length (cellsF ((L.take k).filter p)) ∧ wr.ownsRow w.heap.size 35 3 (.slice bl L.length cl) L.length (cellsF L) ∧ Apart v6 (.slice bl L.length cl) ∧ Below w.heap.size w wr) (fun _ v24 _ => L.length - (intOf v24).toNat)
    case atStart => exact ⟨0, rfl, Nat.zero_le _, World.ownsRow_nil _ _ _ _, hol, apart_nil, hb1⟩
    case round =>
      clear hol hb1
      obtain ⟨k, rfl, hk, hown, howl, hap, hbel⟩ := hrel
      have hz := hbel.size
      by_cases hlt : k < L.length
      · obtain ⟨g, rfl, lg, d1, d2, d3⟩ := own_elem howl hlt
        have hVf := Lib.hid (fun w => hV.out _ (List.getElem_mem hlt) w)
        have hQf := Lib.hid (fun K => hQ.out _ (List.getElem_mem hlt) K)
        have hft := filter_takeF (p := p) hlt
        have hql : ((L.take k).filter p).length ≤ 1640 := Nat.le_trans (List.length_filter_le _ _) (by rw [List.length_take]; omega)
        generalize L[k] = f at *
        generalize (L.take k).filter p = P at *
        have ng : ¬ g = wr.heap.size := by omega
        have Hft := Lib.hid hft
        clear hft
        go_wp2_with fail
        refine (hVf.out _).mono ?_
        rintro e v2 ⟨K, hKn, hKm, vk, rfl, hok, hB2⟩
        have hZ2 := hB2.size
        (try simp at hZ2)
        obtain ⟨⟨hKl, hKb⟩, hKp⟩ := hQf.out K hKn hKm
        have hA2 : Blk v2 wr.heap.size 35 #[.int .i64 f.a, .int .i64 f.b, .int .i64 f.c] := Blk.call (Blk.new _ _ _) hB2
        have hon2 := own_call hB2 (own_alloc (o := .cells #[.int .i64 f.a, .int .i64 f.b, .int .i64 f.c] 35) hown)
        have hol2 := own_call hB2 (own_alloc (o := .cells #[.int .i64 f.a, .int .i64 f.b, .int .i64 f.c] 35) howl)
        have hb2 : Below w.heap.size w v2 := below_via hbel (show Below wr.heap.size wr v2 from below_via (show Below wr.heap.size wr (wr.alloc (.cells #[.int .i64 f.a, .int .i64 f.b, .int .i64 f.c] 35)) from (by repeat (first | with_reducible exact Below.refl _ _ | with_reducible assumption | with_reducible apply Below.drew | with_reducible apply below_drewN | (with_reducible apply below_setp; (first | omega | (simp <;> omega))) | (with_reducible apply below_allocp; (first | omega | (simp <;> omega))) | (with_reducible refine below_viap (by assumption) ?_ ?_; (first | omega | (simp <;> omega)))))) hB2 (by simp)) hz
        have hPv := Lib.hid (fun w h => vaPrim_any vk (wr.alloc (.cells #[.int .i64 f.a, .int .i64 f.b, .int .i64 f.c] 35)).heap.size K w hKl hKb h)
        have HK := Lib.hid hok
        have HKp := Lib.hid hKp
        clear hKn hKm hKb hKp hB2 hown howl hok hVf hQf
        go_wp2_with fail
        refine (hPv.out _ HK.out).mono ?_
        rintro e v3 ⟨vp, rfl, hop, hB3⟩
        have hZ3 := hB3.size
        obtain ⟨bq, cq, rfl⟩ := own_shape hop
        have hA3 : Blk v3 wr.heap.size 35 #[.int .i64 f.a, .int .i64 f.b, .int .i64 f.c] := Blk.call hA2 hB3
        have cA3 := hA3.cell; have fA3 := hA3.frozen; have lA3 := hA3.lt
        have hon3 := own_call hB3 hon2
        have hol3 := own_call hB3 hol2
        have hb3 : Below w.heap.size w v3 := below_via hb2 hB3 (by omega)
        have hml : (K.filter prmP).length ≤ 50000 := Nat.le_trans (List.length_filter_le _ _) hKl
        have hpm := HKp.out
        generalize (K.filter prmP).length = m at *
        clear hop hB3 hon2 hol2 hA2 HK HKp hPv
        have hft := Hft.out
        rw [← hpm] at hft
        clear hpm
        by_cases hm0 : 0 < m
        · have hmi : (0 : Int) < m := by omega
          rw [decide_eq_true hm0] at hft
          have Hf2 : Hid ((L.take (k + 1)).filter p = P ++ [f]) := Lib.hid (by rw [hft]; simp)
          clear hft Hft
          go_wp2_with (at_builtin; refine wpList_append_own_at _ rfl (.tmp 30) (.tmp 32) 101 rfl w.heap.size 35 i0 _ 3 24 Try.underlying101 hi hz0 hz1 hz2 rfl (by decide) u6 P.length (cellsF P) rfl ?_ ⟨v3.heap.size, 0, none⟩ 1 1 [.int .i64 f.a, .int .i64 f.b, .int .i64 f.c] rfl rfl ?_ (one3 _ _ _) ?_ ?_ ?_ ?_; exact own_alloc hon3; exact cells3 (Blk.new_at (by simp)); (unfold maxLen; omega); omega; (simp; omega); intro x9 w9 hown9 hg9 _ hloc9)
          have hb9 : Below w.heap.size w w9 := below_grown (own_ge hon3) (by simp; omega) hg9 (by repeat (first | with_reducible exact Below.refl _ _ | with_reducible assumption | with_reducible apply Below.drew | with_reducible apply below_drewN | (with_reducible apply below_setp; (first | omega | (simp <;> omega))) | (with_reducible apply below_allocp; (first | omega | (simp <;> omega))) | (with_reducible refine below_viap (by assumption) ?_ ?_; (first | omega | (simp <;> omega)))))
          have ho9 := own_snoc Hf2.out hown9
          have hol1 := own_alloc (o := .cells #[.int .i64 f.a, .int .i64 f.b, .int .i64 f.c] 35) hol3
          have hol9 := hol1.kept hg9 hap
          have hap9 := apart_next hap hol1 (Nat.le_refl _) hloc9
          clear hg9 hown9 hon3 hol1 hol3 hloc9 hap
          go_wp2
          go_roundw
          case rel => exact ⟨k + 1, by go_num, hlt, ho9, hol9, hap9, hb9⟩
          case measure => (first | (simp [intOf]; done) | (simp [intOf]; omega))
        · have hmi : m = 0 := by omega
          subst hmi
          rw [decide_eq_false hm0] at hft
          have Hf2 : Hid ((L.take (k + 1)).filter p = P) := Lib.hid (by rw [hft]; simp)
          clear hft Hft
          go_wp2
          go_roundw
          case rel => exact ⟨k + 1, by go_num, hlt, by rw [Hf2.out]; exact hon3, hol3, hap, hb3⟩
          case measure => (first | (simp [intOf]; done) | (simp [intOf]; omega))
      · have ek : k = L.length := by omega
        rw [ek, List.take_length] at hown
        subst ek
        go_wp2
        go_ret2
        exact ⟨_, rfl, hown, hbel⟩
end Go.Proofs.Yteicampphegolaa
