/- Contracts of GeneratedClasses, of the reference. -/
import Derived.Test.YtononfokhdmofaaZ6
import Derived.Test.YtononfokhdmofaaZ4
import Derived.Test.YtononfokhdmofaaT7
namespace Go.Proofs.Ytononfokhdmofaa
open Go.RowKit

def LisSt (d : Int) (zs : List Fm) (w : World) (vi : Value) (wr : World) : Prop :=
  ∃ k : Nat, vi = .int .i64 k ∧ k ≤ zs.length ∧ Hid (∀ f ∈ zs.take k, okF d f = true) ∧ Below w.heap.size w wr

set_option maxRecDepth 100000 in
set_option maxHeartbeats 3200000 in
theorem grListed_any (d : Int) (zs : List Fm) (v : Value) (B2 : Nat) (w : World) (hzl : zs.length ≤ 2000000) (ho : w.ownsRow B2 26 3 v zs.length (cellsF zs)) :
    Calls Try.prog 87 #[.int .i64 d, v] w fun e w' => e = .returned (.bool (SgS d zs)) ∧ Below w.heap.size w w' := by
  obtain ⟨bz, cz, rfl⟩ := own_shape ho
  have Hz := Lib.hid ho
  have hno := Lib.hid (fun f (hf : f ∈ zs) (h : okF d f = false) => (show SgS d zs = false from by
    unfold SgS
    have : zs.all (okF d) = false := by rw [List.all_eq_false]; exact ⟨f, hf, by rw [h]; simp⟩
    rw [this]; simp))
  have hend := Lib.hid (fun (h : ∀ f ∈ zs, okF d f = true) => (show SgS d zs = (isDisc d && decide (zs.length ≤ 20)) from by
    unfold SgS
    have : zs.all (okF d) = true := List.all_eq_true.2 h
    rw [this]; simp))
  clear ho
  go_enter Try.func87, Try.ntmps87
  go_wp2
  go_loopw [9] (fun i wr => LisSt d zs w i wr) (fun i _ => zs.length - (intOf i).toNat)
  case atStart => exact ⟨0, rfl, Nat.zero_le _, Lib.hid (by simp), (by repeat (first | with_reducible exact Below.refl _ _ | with_reducible assumption | with_reducible apply Below.drew | with_reducible apply below_drewN | (with_reducible apply below_setp; (first | omega | (simp <;> omega))) | (with_reducible apply below_allocp; (first | omega | (simp <;> omega))) | (with_reducible refine below_viap (by assumption) ?_ ?_; (first | omega | (simp <;> omega)))))⟩
  case round =>
    obtain ⟨k, rfl, hk, hok, hbel⟩ := hrel
    have hz := hbel.size
    by_cases hlt : k < zs.length
    · obtain ⟨g, rfl, hg2, d1, d2, d3⟩ := own_elem (own_call hbel Hz.out) hlt
      have hfm := List.getElem_mem hlt
      have htk := List.take_succ_eq_append_getElem hlt
      generalize zs[k] = f at d1 d2 d3 hfm htk
      cases hcf : isCls f.a f.b f.c with
      | false =>
        have hb : okF d f = false := by simp [okF, hcf]
        have hN := Lib.hid (hno.out f hfm hb)
        clear htk hb
        go_wp2_with (go_at_call 54; (with_reducible refine (scls_any f.a f.b f.c _).mono ?_); rw [hcf]; rintro e v2 ⟨rfl, hB2⟩; have hZ2 := hB2.size; (try simp at hZ2); (try have zl2 : w.heap.size < v2.heap.size := by omega); (try have ze2 : w.heap.size ≤ v2.heap.size := by omega); (try have zn2 : ¬ w.heap.size = v2.heap.size := by omega); (try have zm2 : ¬ v2.heap.size = w.heap.size := by omega); have hC2_0 := fun o => (calm_cells hB2).1 (wr.heap.size) o (by first | omega | (simp <;> omega)); have hF2_0 := fun o => (calm_cells hB2).2 (wr.heap.size) o (by first | omega | (simp <;> omega)); (try have hl2_0 : wr.heap.size < v2.heap.size := by omega); (try have hm2_0 : ¬ wr.heap.size = v2.heap.size := by omega); (try have hn2_0 : ¬ v2.heap.size = wr.heap.size := by omega))
        go_ret
        exact ⟨ret_bool hN.out.symm, (by repeat (first | with_reducible exact Below.refl _ _ | with_reducible assumption | with_reducible apply Below.drew | with_reducible apply below_drewN | (with_reducible apply below_setp; (first | omega | (simp <;> omega))) | (with_reducible apply below_allocp; (first | omega | (simp <;> omega))) | (with_reducible refine below_viap (by assumption) ?_ ?_; (first | omega | (simp <;> omega)))))⟩
      | true =>
        have cf0 : CF (disc f) f (red f) := by have := CF.of_cls hcf; exact this
        have hDf := Lib.hid (fun w => foDisc_cf (disc f) f (red f) w cf0)
        by_cases hdd : disc f = d
        · have hb : okF d f = true := by simp [okF, hcf, hdd]
          rw [hdd] at hDf
          have hokN : Hid (∀ x ∈ zs.take (k + 1), okF d x = true) := Lib.hid (by
            intro x hx
            rw [htk] at hx
            rcases List.mem_append.1 hx with hx | hx
            · exact hok.out x hx
            · simp at hx; subst hx; exact hb)
          clear htk hb cf0 hdd hok
          go_wp2_with (first | (go_at_call 54; (with_reducible refine (scls_any f.a f.b f.c _).mono ?_); rw [hcf]; rintro e v2 ⟨rfl, hB2⟩; have hZ2 := hB2.size; (try simp at hZ2); (try have zl2 : w.heap.size < v2.heap.size := by omega); (try have ze2 : w.heap.size ≤ v2.heap.size := by omega); (try have zn2 : ¬ w.heap.size = v2.heap.size := by omega); (try have zm2 : ¬ v2.heap.size = w.heap.size := by omega); have hC2_0 := fun o => (calm_cells hB2).1 (wr.heap.size) o (by first | omega | (simp <;> omega)); have hF2_0 := fun o => (calm_cells hB2).2 (wr.heap.size) o (by first | omega | (simp <;> omega)); (try have hl2_0 : wr.heap.size < v2.heap.size := by omega); (try have hm2_0 : ¬ wr.heap.size = v2.heap.size := by omega); (try have hn2_0 : ¬ v2.heap.size = wr.heap.size := by omega)) | (go_at_call 57; (with_reducible refine (hDf.out _).mono ?_); rintro e v3 ⟨rfl, hB3⟩; have hZ3 := hB3.size; (try simp at hZ3); (try have zl3 : w.heap.size < v3.heap.size := by omega); (try have ze3 : w.heap.size ≤ v3.heap.size := by omega); (try have zn3 : ¬ w.heap.size = v3.heap.size := by omega); (try have zm3 : ¬ v3.heap.size = w.heap.size := by omega); have hC3_0 := fun o => (calm_cells hB3).1 (wr.heap.size) o (by first | omega | (simp <;> omega)); have hF3_0 := fun o => (calm_cells hB3).2 (wr.heap.size) o (by first | omega | (simp <;> omega)); (try have hl3_0 : wr.heap.size < v3.heap.size := by omega); (try have hm3_0 : ¬ wr.heap.size = v3.heap.size := by omega); (try have hn3_0 : ¬ v3.heap.size = wr.heap.size := by omega)))
          go_roundw
          case rel => exact ⟨k + 1, rfl, hlt, hokN, (by repeat (first | with_reducible exact Below.refl _ _ | with_reducible assumption | with_reducible apply Below.drew | with_reducible apply below_drewN | (with_reducible apply below_setp; (first | omega | (simp <;> omega))) | (with_reducible apply below_allocp; (first | omega | (simp <;> omega))) | (with_reducible refine below_viap (by assumption) ?_ ?_; (first | omega | (simp <;> omega)))))⟩
          case measure => simp [intOf]; omega
        · have hb : okF d f = false := by simp [okF, hdd]
          have hN := Lib.hid (hno.out f hfm hb)
          have hdb : (disc f == d) = false := by rw [beq_eq_false_iff_ne]; exact hdd
          generalize disc f = d' at hDf hdb hdd
          clear htk hb cf0
          go_wp2_with (first | (go_at_call 54; (with_reducible refine (scls_any f.a f.b f.c _).mono ?_); rw [hcf]; rintro e v2 ⟨rfl, hB2⟩; have hZ2 := hB2.size; (try simp at hZ2); (try have zl2 : w.heap.size < v2.heap.size := by omega); (try have ze2 : w.heap.size ≤ v2.heap.size := by omega); (try have zn2 : ¬ w.heap.size = v2.heap.size := by omega); (try have zm2 : ¬ v2.heap.size = w.heap.size := by omega); have hC2_0 := fun o => (calm_cells hB2).1 (wr.heap.size) o (by first | omega | (simp <;> omega)); have hF2_0 := fun o => (calm_cells hB2).2 (wr.heap.size) o (by first | omega | (simp <;> omega)); (try have hl2_0 : wr.heap.size < v2.heap.size := by omega); (try have hm2_0 : ¬ wr.heap.size = v2.heap.size := by omega); (try have hn2_0 : ¬ v2.heap.size = wr.heap.size := by omega)) | (go_at_call 57; (with_reducible refine (hDf.out _).mono ?_); rintro e v3 ⟨rfl, hB3⟩; have hZ3 := hB3.size; (try simp at hZ3); (try have zl3 : w.heap.size < v3.heap.size := by omega); (try have ze3 : w.heap.size ≤ v3.heap.size := by omega); (try have zn3 : ¬ w.heap.size = v3.heap.size := by omega); (try have zm3 : ¬ v3.heap.size = w.heap.size := by omega); have hC3_0 := fun o => (calm_cells hB3).1 (wr.heap.size) o (by first | omega | (simp <;> omega)); have hF3_0 := fun o => (calm_cells hB3).2 (wr.heap.size) o (by first | omega | (simp <;> omega)); (try have hl3_0 : wr.heap.size < v3.heap.size := by omega); (try have hm3_0 : ¬ wr.heap.size = v3.heap.size := by omega); (try have hn3_0 : ¬ v3.heap.size = wr.heap.size := by omega)))
          go_ret
          exact ⟨ret_bool hN.out.symm, (by repeat (first | with_reducible exact Below.refl _ _ | with_reducible assumption | with_reducible apply Below.drew | with_reducible apply below_drewN | (with_reducible apply below_setp; (first | omega | (simp <;> omega))) | (with_reducible apply below_allocp; (first | omega | (simp <;> omega))) | (with_reducible refine below_viap (by assumption) ?_ ?_; (first | omega | (simp <;> omega)))))⟩
    · have e : k = zs.length := by omega
      have hE := Lib.hid (hend.out (fun f hf => hok.out f (by rw [e, List.take_length]; exact hf)))
      subst e
      clear hok
      cases hc : isDisc d with
      | false =>
        go_wp2_with (go_at_call 64; (with_reducible refine (rDisc_eq d false _ hc).mono ?_); rintro e v ⟨rfl, rfl⟩)
        go_ret
        exact ⟨ret_bool (by rw [hE.out, hc]; rfl), hbel⟩
      | true =>
        by_cases h20 : zs.length ≤ 20
        · have h21 : (zs.length : Int) ≤ 20 := by omega
          go_wp2_with (go_at_call 64; (with_reducible refine (rDisc_eq d true _ hc).mono ?_); rintro e v ⟨rfl, rfl⟩)
          go_ret
          exact ⟨ret_bool (by rw [hE.out, hc, decide_eq_true h20]; rfl), hbel⟩
        · have h21 : ¬ (zs.length : Int) ≤ 20 := by omega
          go_wp2_with (go_at_call 64; (with_reducible refine (rDisc_eq d true _ hc).mono ?_); rintro e v ⟨rfl, rfl⟩)
          go_ret
          exact ⟨ret_bool (by rw [hE.out, hc, decide_eq_false h20, decide_eq_false (Int.not_le.mpr h21)]; rfl), hbel⟩

def IdxSt (L zs : List Fm) (w : World) (v vi : Value) (wr : World) : Prop :=
  ∃ k : Nat, vi = .int .i64 k ∧ k ≤ zs.length ∧ wr.ownsRow w.heap.size 3 1 v (nats (gensN L (zs.take k))).length (cellsI (nats (gensN L (zs.take k)))) ∧ Below w.heap.size w wr

set_option maxRecDepth 100000 in
set_option maxHeartbeats 6400000 in
theorem grIndices_any (d : Int) (L zs : List Fm) (v : Value) (B2 : Nat) (w : World) (hD : Dsc d) (hL : clsL d = L) (h20 : zs.length ≤ 20) (hok : ∀ f ∈ zs, okF d f = true) (ho : w.ownsRow B2 26 3 v zs.length (cellsF zs)) :
    Calls Try.prog 90 #[.int .i64 d, v] w (RetI (nats (gensN L zs)) w) := by
  obtain ⟨bz, cz, rfl⟩ := own_shape ho
  obtain ⟨i0, hi0, hz0, hz1, hz2⟩ := info_parts infoInt
  have hl : L.length ≤ 100000 := by rw [← hL]; exact Nat.le_trans (clsL_len d) (by decide)
  have Hz := Lib.hid ho
  have hRe := Lib.hid (fun w => reList_any d w hD.lo hD.hi)
  rw [hL] at hRe
  have hcf := Lib.hid (fun f (hf : f ∈ zs) w => reClass_cf d f (red f) w (okF_cf (hok f hf)))
  have hidx := Lib.hid (fun f (hf : f ∈ zs) => (show ∃ n : Nat, gix L (red f) = n from by
    have hm := (okF_cf (hok f hf)).mem
    rw [hL] at hm
    obtain ⟨n, _, _, h⟩ := gix_mem hm
    exact ⟨n, h⟩))
  clear ho hD hL hok
  go_enter Try.func90, Try.ntmps90
  go_wp2
  go_loopw [5, 10] (fun v i wr => IdxSt L zs w v i wr) (fun _ i _ => zs.length - (intOf i).toNat)
  case atStart => exact ⟨0, rfl, Nat.zero_le _, World.ownsRow_nil _ _ _ _, (by repeat (first | with_reducible exact Below.refl _ _ | with_reducible assumption | with_reducible apply Below.drew | with_reducible apply below_drewN | (with_reducible apply below_setp; (first | omega | (simp <;> omega))) | (with_reducible apply below_allocp; (first | omega | (simp <;> omega))) | (with_reducible refine below_viap (by assumption) ?_ ?_; (first | omega | (simp <;> omega)))))⟩
  case round =>
    obtain ⟨k, rfl, hk, hown, hbel⟩ := hrel
    have hz := hbel.size
    by_cases hlt : k < zs.length
    · obtain ⟨g, rfl, hg2, d1, d2, d3⟩ := own_elem (own_call hbel Hz.out) hlt
      have hfm := List.getElem_mem hlt
      have hft := gensN_take (L := L) hlt
      generalize zs[k] = f at d1 d2 d3 hfm hft
      obtain ⟨n, hng⟩ := hidx.out f hfm
      have hRd := Lib.hid (hcf.out f hfm)
      have hxN : nats (gensN L (zs.take (k + 1))) = nats (gensN L (zs.take k)) ++ [(n : Int)] := by
        rw [hft, nats_snoc, hng]; simp
      have HxN := Lib.hid hxN
      have hQl : (nats (gensN L (zs.take k))).length ≤ 20 := by rw [nats_len, gensN_len, List.length_take]; omega
      generalize nats (gensN L (zs.take k)) = Q at hown HxN hQl
      have hGx := Lib.hid (fun (v : Value) (B : Nat) (wx : World) h => grIndex_any v B L (red f) wx hl h)
      rw [hng] at hGx
      generalize red f = r at hRd hGx
      clear hft hng hxN hfm
      go_wp2
      go_region_law (first
        | (refine step_append_any (v3.alloc (.cells #[.int .i64 n] 3)) rfl (.tmp 14) (.tmp 20) 45 rfl w.heap.size 3 i0 _ 1 8 Try.underlying45 hi0 hz0 hz1 hz2 rfl (by omega) u5 Q.length (cellsI Q) rfl (own_alloc hon3) (v3.heap.size + 1) (some ⟨v3.heap.size, 0, none⟩) 1 1 [.int .i64 n] rfl ⟨rfl, fun _ => ⟨_, rfl, (by simp), cells1 (Blk.new _ _ _)⟩⟩ (one1 _) (by unfold maxLen; omega) (by omega) (by simp; omega) ?_; intro x2 w2 hown2 hgr2 _)
        | (go_simp; go_wp2_with (first
            | (go_at_call 67; (with_reducible refine (hRe.out _).mono ?_); rintro e v1 ⟨vl, rfl, howl, hB1⟩; obtain ⟨lb, lc, rfl⟩ := own_shape howl; have hZ1 := hB1.size; (try simp at hZ1); have hA1 : Blk v1 wr.heap.size 26 #[.int .i64 f.a, .int .i64 f.b, .int .i64 f.c] := Blk.call (by first | exact hA2 | exact Blk.drew (Blk.new_at rfl)) hB1; have cA1 := hA1.cell; have lA1 := hA1.lt)
            | (go_at_call 58; (with_reducible refine (hRd.out _).mono ?_); rintro e v2 ⟨rfl, hB2⟩; have hZ2 := hB2.size; (try simp at hZ2); have hA2 : Blk v2 wr.heap.size 26 #[.int .i64 f.a, .int .i64 f.b, .int .i64 f.c] := Blk.call (by first | exact hA1 | exact Blk.drew (Blk.new_at rfl)) hB2; have cA2 := hA2.cell; have lA2 := hA2.lt)
            | (go_at_call 55; (first | (with_reducible refine (hGx.out _ _ _ howl).mono ?_) | (with_reducible refine (hGx.out _ _ _ (own_call hB2 howl)).mono ?_)); rintro e v3 ⟨rfl, hB3⟩; have hZ3 := hB3.size; have hon3 : v3.ownsRow w.heap.size 3 1 u5 Q.length (cellsI Q) := (by first | exact own_call hB3 (own_call hB2 (own_call hB1 (own_drew (own_alloc hown)))) | exact own_call hB3 (own_call hB1 (own_call hB2 (own_drew (own_alloc hown)))))))))
      all_goals
        have hgs := hgr2.size
        simp at hgs
        have hoN := own_snocI HxN.out hown2
        have hb3 : Below w.heap.size w v3 := (by repeat (first | with_reducible exact Below.refl _ _ | with_reducible assumption | with_reducible apply Below.drew | with_reducible apply below_drewN | (with_reducible apply below_setp; (first | omega | (simp <;> omega))) | (with_reducible apply below_allocp; (first | omega | (simp <;> omega))) | (with_reducible refine below_viap (by assumption) ?_ ?_; (first | omega | (simp <;> omega)))))
        have hbN : Below w.heap.size w w2 := below_grown (own_ge hown) (by simp; omega) hgr2 (hb3.alloc (by omega) _)
        clear hgr2 hown2 hon3 hown
        go_wp2
        exact ⟨⟨k + 1, rfl, hlt, hoN, hbN⟩, by simp [intOf]; omega⟩
    · have e : k = zs.length := by omega
      have hx : zs.take k = zs := by rw [e, List.take_length]
      rw [hx] at hown
      have Hown := Lib.hid hown
      subst e
      clear hx hown
      go_wp2
      go_ret
      exact ⟨_, rfl, Hown.out, hbel⟩
end Go.Proofs.Ytononfokhdmofaa
