/- Contracts of GeneratedClasses, of the program. -/
import Derived.Test.YtononfokhdmofaaZ2
import Derived.Test.YtononfokhdmofaaK7
import Derived.Test.YtononfokhdmofaaW4
import Derived.Deep.RegionLaw
namespace Go.Proofs.Ytononfokhdmofaa
open Go.RowKit Go.Maps

/-- Whether f is a class form of the discriminant d. -/
def okF (d : Int) (f : Fm) : Bool := isCls f.a f.b f.c && decide (disc f = d)
def SgS (d : Int) (zs : List Fm) : Bool := isDisc d && (decide (zs.length ≤ 20) && zs.all (okF d))
/-- The indices of the classes of some forms. -/
noncomputable def gensN (L : List Fm) (zs : List Fm) : List Nat := zs.map fun f => (gix L (red f)).toNat
theorem gensN_len (L zs : List Fm) : (gensN L zs).length = zs.length := by unfold gensN; simp
theorem gensN_take {L zs : List Fm} {k : Nat} (h : k < zs.length) : gensN L (zs.take (k + 1)) = gensN L (zs.take k) ++ [(gix L (red zs[k])).toNat] := by
  unfold gensN
  rw [List.take_succ_eq_append_getElem h, List.map_append]; rfl
theorem okF_cf {d : Int} {f : Fm} (h : okF d f = true) : CF d f (red f) := by
  unfold okF at h
  simp only [Bool.and_eq_true, decide_eq_true_eq] at h
  have := CF.of_cls h.1
  rw [show disc (⟨f.a, f.b, f.c⟩ : Fm) = d from h.2] at this
  exact this
theorem gensN_lt {d : Int} {L zs : List Fm} (hL : clsL d = L) (h : ∀ f ∈ zs, okF d f = true) : ∀ j ∈ gensN L zs, j < L.length := by
  intro j hj
  obtain ⟨f, hf, rfl⟩ := List.mem_map.1 hj
  have hm := (okF_cf (h f hf)).mem
  rw [hL] at hm
  have := gix_bd hm
  omega
/-- What subgroup gives. -/
def RetSg (d : Int) (L zs : List Fm) (w : World) (e : Ending) (w' : World) : Prop :=
  (SgS d zs = false ∧ e = .returned (.tuple #[.pointer none, .slice none 0 0, .bool false]) ∧ Below w.heap.size w w') ∨
  (SgS d zs = true ∧ ∃ G O, e = .returned (.tuple #[.pointer (some ⟨G, 0, none⟩), .slice (some ⟨O, 0, none⟩) L.length L.length, .bool true]) ∧ Grp L w.heap.size G w' ∧ w.heap.size ≤ O ∧
    w'.rowIs O 4 L.length (fun i => .bool (rchB (mulN d L) (gensN L zs) i)) ∧ Below w.heap.size w w')
def SubSt (d : Int) (L zs : List Fm) (w1 : World) (v vi : Value) (wr : World) : Prop :=
  ∃ k : Nat, vi = .int .i64 k ∧ k ≤ zs.length ∧ Hid (∀ f ∈ zs.take k, okF d f = true) ∧ wr.ownsRow w1.heap.size 3 1 v (nats (gensN L (zs.take k))).length (cellsI (nats (gensN L (zs.take k)))) ∧ w1.heap.size < wr.heap.size ∧ Below w1.heap.size w1 wr

set_option maxRecDepth 100000 in
set_option maxHeartbeats 6400000 in
theorem subgroup_any (d : Int) (L zs : List Fm) (v : Value) (B2 : Nat) (w : World) (hL : clsL d = L) (hzl : zs.length ≤ 2000000) (ho : w.ownsRow B2 26 3 v zs.length (cellsF zs)) :
    Calls Try.prog 91 #[.int .i64 d, v] w (RetSg d L zs w) := by
  obtain ⟨bz, cz, rfl⟩ := own_shape ho
  cases hc : isDisc d with
  | false =>
    have hs : SgS d zs = false := by simp [SgS, hc]
    clear ho
    go_enter Try.func91, Try.ntmps91
    go_wp2_with (go_at_call 68; (with_reducible refine (negDisc_eq d false _ hc).mono ?_); rintro e v ⟨rfl, rfl⟩)
    go_ret3
    exact .inl ⟨hs, rfl, (by repeat (first | with_reducible exact Below.refl _ _ | with_reducible assumption | with_reducible apply Below.drew | with_reducible apply below_drewN | (with_reducible apply below_setp; (first | omega | (simp <;> omega))) | (with_reducible apply below_allocp; (first | omega | (simp <;> omega))) | (with_reducible refine below_viap (by assumption) ?_ ?_; (first | omega | (simp <;> omega)))))⟩
  | true =>
    by_cases h20 : zs.length ≤ 20
    · have D := dsc_of hc
      obtain ⟨i0, hi0, hz0, hz1, hz2⟩ := info_parts infoInt
      have hl : L.length ≤ 100000 := by rw [← hL]; exact Nat.le_trans (clsL_len d) (by decide)
      have hG := Lib.hid (fun w => groupOf_any d w D)
      rw [hL] at hG
      have hgt : ¬ ((20 : Int) < zs.length) := by omega
      have Hz := Lib.hid ho
      have hgen := Lib.hid (fun (B G : Nat) (v : Value) (B2 : Nat) (w : World) hg (hok : ∀ f ∈ zs, okF d f = true) ho => generated_any d L B G (gensN L zs) v B2 w D hL hg (gensN_lt hL hok) (by rw [gensN_len]; exact h20) ho)
      have hyes := Lib.hid (fun (h : ∀ f ∈ zs, okF d f = true) => (show SgS d zs = true from by simp [SgS, hc, h20]; exact h))
      have hno := Lib.hid (fun f (hf : f ∈ zs) (h : okF d f = false) => (show SgS d zs = false from by
        unfold SgS
        have : zs.all (okF d) = false := by rw [List.all_eq_false]; exact ⟨f, hf, by rw [h]; simp⟩
        rw [this]; simp))
      have hidx := Lib.hid (fun f (h : okF d f = true) => (show ∃ (n : Nat) (hn : n < L.length), L[n] = red f ∧ gix L (red f) = n from by
        have hm := (okF_cf h).mem
        rw [hL] at hm
        exact gix_mem hm))
      have hwf := Lib.hid (fun f (h : okF d f = true) => cls_wf D.lo (okF_cf h).mem)
      clear D hL ho
      go_enter Try.func91, Try.ntmps91
      go_wp2_with (first
        | (go_at_call 68; (with_reducible refine (negDisc_eq d true _ hc).mono ?_); rintro e v ⟨rfl, rfl⟩)
        | (go_at_call 69; refine (hG.out _).mono ?_; rintro e w1 ⟨G, rfl, hg1, hG0, hb1⟩; have hz1' := hb1.size))
      have HG1 := Lib.hid hg1
      clear hg1
      go_loopw [8, 24] (fun v i wr => SubSt d L zs w1 v i wr) (fun _ i _ => zs.length - (intOf i).toNat)
      case atStart => exact ⟨0, rfl, Nat.zero_le _, Lib.hid (by simp), own_empty (Nat.le_refl _), by simp, (by repeat (first | with_reducible exact Below.refl _ _ | with_reducible assumption | with_reducible apply Below.drew | with_reducible apply below_drewN | (with_reducible apply below_setp; (first | omega | (simp <;> omega))) | (with_reducible apply below_allocp; (first | omega | (simp <;> omega))) | (with_reducible refine below_viap (by assumption) ?_ ?_; (first | omega | (simp <;> omega)))))⟩
      case round =>
        obtain ⟨k, rfl, hk, hok, hown, hsz, hbel⟩ := hrel
        have hz := hbel.size
        have hbw : Below w.heap.size w wr := below_via hb1 hbel hz1'
        by_cases hlt : k < zs.length
        · obtain ⟨g, rfl, hg2, d1, d2, d3⟩ := own_elem (own_call hbw Hz.out) hlt
          have hfm := List.getElem_mem hlt
          have hft := gensN_take (L := L) hlt
          have htk := List.take_succ_eq_append_getElem hlt
          generalize zs[k] = f at d1 d2 d3 hfm hft htk
          cases hcf : isCls f.a f.b f.c with
          | false =>
            have hb : okF d f = false := by simp [okF, hcf]
            have hN := hno.out f hfm hb
            clear hft htk hb
            go_wp2_with (go_at_call 59; (with_reducible refine (icls_any f.a f.b f.c _).mono ?_); rw [hcf]; rintro e v2 ⟨rfl, hB2⟩; have hZ2 := hB2.size; (try simp at hZ2); (try have zl2 : w.heap.size < v2.heap.size := by omega); (try have ze2 : w.heap.size ≤ v2.heap.size := by omega); (try have zn2 : ¬ w.heap.size = v2.heap.size := by omega); (try have zm2 : ¬ v2.heap.size = w.heap.size := by omega); have hC2_0 := fun o => (calm_cells hB2).1 (wr.heap.size) o (by first | omega | (simp <;> omega)); have hF2_0 := fun o => (calm_cells hB2).2 (wr.heap.size) o (by first | omega | (simp <;> omega)); (try have hl2_0 : wr.heap.size < v2.heap.size := by omega); (try have hm2_0 : ¬ wr.heap.size = v2.heap.size := by omega); (try have hn2_0 : ¬ v2.heap.size = wr.heap.size := by omega))
            go_ret3
            exact .inl ⟨hN, rfl, (by repeat (first | with_reducible exact Below.refl _ _ | with_reducible assumption | with_reducible apply Below.drew | with_reducible apply below_drewN | (with_reducible apply below_setp; (first | omega | (simp <;> omega))) | (with_reducible apply below_allocp; (first | omega | (simp <;> omega))) | (with_reducible refine below_viap (by assumption) ?_ ?_; (first | omega | (simp <;> omega)))))⟩
          | true =>
            have cf0 : CF (disc f) f (red f) := by have := CF.of_cls hcf; exact this
            have hDf := Lib.hid (fun w => disc_cf (disc f) f (red f) w cf0)
            by_cases hdd : disc f = d
            · have hb : okF d f = true := by simp [okF, hcf, hdd]
              rw [hdd] at hDf cf0
              obtain ⟨n, hn, hnr, hng⟩ := hidx.out f hb
              have hW := hwf.out f hb
              have hRd := Lib.hid (fun w => reduced_cf d f (red f) w cf0)
              have hokN : Hid (∀ x ∈ zs.take (k + 1), okF d x = true) := Lib.hid (by
                intro x hx
                rw [htk] at hx
                rcases List.mem_append.1 hx with hx | hx
                · exact hok.out x hx
                · simp at hx; subst hx; exact hb)
              have hxN : nats (gensN L (zs.take (k + 1))) = nats (gensN L (zs.take k)) ++ [(n : Int)] := by
                rw [hft, nats_snoc, hng]; simp
              have HxN := Lib.hid hxN
              have hQl : (nats (gensN L (zs.take k))).length ≤ 20 := by rw [nats_len, gensN_len, List.length_take]; omega
              generalize nats (gensN L (zs.take k)) = Q at hown HxN hQl
              generalize red f = r at hnr hW hRd
              obtain ⟨base, cap, M, Dm, hblk, _, hmap, hidm⟩ := HG1.out.call hbel
              have hml := hmap.lt
              have Hmap := Lib.hid hmap
              have Hidm := Lib.hid hidm
              have Hnr := Lib.hid hnr
              have hlG := hblk.lt
              clear hft htk hb cf0 hdd hng hxN hok hnr hmap hidm
              go_wp2_with (first
                | (go_at_call 59; (with_reducible refine (icls_any f.a f.b f.c _).mono ?_); rw [hcf]; rintro e v2 ⟨rfl, hB2⟩; have hZ2 := hB2.size; (try simp at hZ2); (try have zl2 : w.heap.size < v2.heap.size := by omega); (try have ze2 : w.heap.size ≤ v2.heap.size := by omega); (try have zn2 : ¬ w.heap.size = v2.heap.size := by omega); (try have zm2 : ¬ v2.heap.size = w.heap.size := by omega); have hA2 : Blk v2 (wr.heap.size) 26 #[.int .i64 f.a, .int .i64 f.b, .int .i64 f.c] := Blk.call (by (repeat (first | with_reducible assumption | (with_reducible apply Blk.new_at; (first | rfl | (simp; done))) | with_reducible apply Blk.store3 | with_reducible apply Blk.store4 | (with_reducible apply Blk.farp; (first | omega | (simp <;> omega))) | with_reducible apply Blk.allocp | with_reducible apply Blk.drew | with_reducible apply Blk.drewN))) hB2; have cA2 := hA2.cell; have fA2 := hA2.frozen; have lA2 := hA2.lt; have mA2 := Nat.ne_of_gt lA2; have nA2 := Nat.ne_of_lt lA2; have hG2 : Blk v2 (G) 76 #[.slice base L.length cap, .map (some M)] := Blk.call (by (repeat (first | with_reducible assumption | (with_reducible apply Blk.new_at; (first | rfl | (simp; done))) | with_reducible apply Blk.store3 | with_reducible apply Blk.store4 | (with_reducible apply Blk.farp; (first | omega | (simp <;> omega))) | with_reducible apply Blk.allocp | with_reducible apply Blk.drew | with_reducible apply Blk.drewN))) hB2; have cG2 := hG2.cell; have fG2 := hG2.frozen; have lG2 := hG2.lt; have mG2 := Nat.ne_of_gt lG2; have nG2 := Nat.ne_of_lt lG2)
                | (go_at_call 62; (with_reducible refine (hDf.out _).mono ?_); rintro e v3 ⟨rfl, hB3⟩; have hZ3 := hB3.size; (try simp at hZ3); (try have zl3 : w.heap.size < v3.heap.size := by omega); (try have ze3 : w.heap.size ≤ v3.heap.size := by omega); (try have zn3 : ¬ w.heap.size = v3.heap.size := by omega); (try have zm3 : ¬ v3.heap.size = w.heap.size := by omega); have hA3 : Blk v3 (wr.heap.size) 26 #[.int .i64 f.a, .int .i64 f.b, .int .i64 f.c] := Blk.call (by (repeat (first | with_reducible assumption | (with_reducible apply Blk.new_at; (first | rfl | (simp; done))) | with_reducible apply Blk.store3 | with_reducible apply Blk.store4 | (with_reducible apply Blk.farp; (first | omega | (simp <;> omega))) | with_reducible apply Blk.allocp | with_reducible apply Blk.drew | with_reducible apply Blk.drewN))) hB3; have cA3 := hA3.cell; have fA3 := hA3.frozen; have lA3 := hA3.lt; have mA3 := Nat.ne_of_gt lA3; have nA3 := Nat.ne_of_lt lA3; have hG3 : Blk v3 (G) 76 #[.slice base L.length cap, .map (some M)] := Blk.call (by (repeat (first | with_reducible assumption | (with_reducible apply Blk.new_at; (first | rfl | (simp; done))) | with_reducible apply Blk.store3 | with_reducible apply Blk.store4 | (with_reducible apply Blk.farp; (first | omega | (simp <;> omega))) | with_reducible apply Blk.allocp | with_reducible apply Blk.drew | with_reducible apply Blk.drewN))) hB3; have cG3 := hG3.cell; have fG3 := hG3.frozen; have lG3 := hG3.lt; have mG3 := Nat.ne_of_gt lG3; have nG3 := Nat.ne_of_lt lG3))
              have hbr3 : Below wr.heap.size wr v3 := below_via (below_via ((Below.refl _ _).alloc (Nat.le_refl _) _) hB2 (by simp)) hB3 (by omega)
              have hmp3 := ownsMap_below Hmap.out hbr3 hml
              have hon3 := own_bel hbr3 (own_lt hown) hown
              go_region_law (first
                | (refine step_append_any (v4.alloc (.cells #[.int .i64 n] 3)) rfl (.tmp 37) (.tmp 45) 45 rfl w1.heap.size 3 i0 _ 1 8 Try.underlying45 hi0 hz0 hz1 hz2 rfl (by omega) u8 Q.length (cellsI Q) rfl (own_alloc hon4) (v4.heap.size + 1) (some ⟨v4.heap.size, 0, none⟩) 1 1 [.int .i64 n] rfl ⟨rfl, fun _ => ⟨_, rfl, (by simp), cells1 (Blk.new _ _ _)⟩⟩ (one1 _) (by unfold maxLen; omega) (by omega) (by simp; omega) ?_; intro x2 w2 hown2 hgr2 _)
                | (go_simp; go_wp2_with (go_at_call 63; (with_reducible refine (hRd.out _).mono ?_); rintro e v4 ⟨rfl, hB4⟩; have hZ4 := hB4.size; (try simp at hZ4); have hG4 : Blk v4 G 76 #[.slice base L.length cap, .map (some M)] := Blk.call (Blk.drew hG3) hB4; have cG4 := hG4.cell; have hrun := idx_run (ownsMap_below (World.ownsMap.drew hmp3) hB4 (by simp; omega)) Hidm.out hW hn Hnr.out; have hon4 := own_call hB4 (own_drew hon3))))
              all_goals
                have hgs := hgr2.size
                simp at hgs
                have hoN := own_snocI HxN.out hown2
                have hb4 : Below w1.heap.size w1 v4 := below_via (below_via hbel hbr3 hz).drew hB4 (by simp; omega)
                have hbN : Below w1.heap.size w1 w2 := below_grown (own_ge hown) (by simp; omega) hgr2 (hb4.alloc (by omega) _)
                clear hgr2 hown2 hon3 hon4 hown
                go_wp2
                exact ⟨⟨k + 1, rfl, hlt, hokN, hoN, by omega, hbN⟩, by simp [intOf]; omega⟩
            · have hb : okF d f = false := by simp [okF, hdd]
              have hN := hno.out f hfm hb
              have hdb : (disc f == d) = false := by rw [beq_eq_false_iff_ne]; exact hdd
              generalize disc f = d' at hDf hdb hdd
              clear hft htk hb cf0
              go_wp2_with (first | (go_at_call 59; (with_reducible refine (icls_any f.a f.b f.c _).mono ?_); rw [hcf]; rintro e v2 ⟨rfl, hB2⟩; have hZ2 := hB2.size; (try simp at hZ2); (try have zl2 : w.heap.size < v2.heap.size := by omega); (try have ze2 : w.heap.size ≤ v2.heap.size := by omega); (try have zn2 : ¬ w.heap.size = v2.heap.size := by omega); (try have zm2 : ¬ v2.heap.size = w.heap.size := by omega); have hC2_0 := fun o => (calm_cells hB2).1 (wr.heap.size) o (by first | omega | (simp <;> omega)); have hF2_0 := fun o => (calm_cells hB2).2 (wr.heap.size) o (by first | omega | (simp <;> omega)); (try have hl2_0 : wr.heap.size < v2.heap.size := by omega); (try have hm2_0 : ¬ wr.heap.size = v2.heap.size := by omega); (try have hn2_0 : ¬ v2.heap.size = wr.heap.size := by omega)) | (go_at_call 62; (with_reducible refine (hDf.out _).mono ?_); rintro e v3 ⟨rfl, hB3⟩; have hZ3 := hB3.size; (try simp at hZ3); (try have zl3 : w.heap.size < v3.heap.size := by omega); (try have ze3 : w.heap.size ≤ v3.heap.size := by omega); (try have zn3 : ¬ w.heap.size = v3.heap.size := by omega); (try have zm3 : ¬ v3.heap.size = w.heap.size := by omega); have hC3_0 := fun o => (calm_cells hB3).1 (wr.heap.size) o (by first | omega | (simp <;> omega)); have hF3_0 := fun o => (calm_cells hB3).2 (wr.heap.size) o (by first | omega | (simp <;> omega)); (try have hl3_0 : wr.heap.size < v3.heap.size := by omega); (try have hm3_0 : ¬ wr.heap.size = v3.heap.size := by omega); (try have hn3_0 : ¬ v3.heap.size = wr.heap.size := by omega)))
              go_ret3
              exact .inl ⟨hN, rfl, (by repeat (first | with_reducible exact Below.refl _ _ | with_reducible assumption | with_reducible apply Below.drew | with_reducible apply below_drewN | (with_reducible apply below_setp; (first | omega | (simp <;> omega))) | (with_reducible apply below_allocp; (first | omega | (simp <;> omega))) | (with_reducible refine below_viap (by assumption) ?_ ?_; (first | omega | (simp <;> omega)))))⟩
        · have e : k = zs.length := by omega
          have hx : zs.take k = zs := by rw [e, List.take_length]
          rw [hx] at hown
          have hokA : ∀ f ∈ zs, okF d f = true := fun f hf => hok.out f (by rw [hx]; exact hf)
          have hY := hyes.out hokA
          have hgen2 := Lib.hid (hgen.out _ G u8 _ wr (HG1.out.call hbel) hokA hown)
          subst e
          clear hx hok hown hokA
          go_wp2_with (go_at_call 131; refine hgen2.out.mono ?_; rintro e v5 ⟨O, rfl, hO, hR, hB5⟩; have hZ5 := hB5.size)
          go_ret3
          exact .inr ⟨hY, G, O, rfl, (HG1.out.call hbel).call hB5, by omega, hR, below_via hbw hB5 (by omega)⟩
    · have hs : SgS d zs = false := by simp [SgS, h20]
      have hgt : (20 : Int) < zs.length := by omega
      clear ho
      go_enter Try.func91, Try.ntmps91
      go_wp2_with (go_at_call 68; (with_reducible refine (negDisc_eq d true _ hc).mono ?_); rintro e v ⟨rfl, rfl⟩)
      go_ret3
      exact .inl ⟨hs, rfl, (by repeat (first | with_reducible exact Below.refl _ _ | with_reducible assumption | with_reducible apply Below.drew | with_reducible apply below_drewN | (with_reducible apply below_setp; (first | omega | (simp <;> omega))) | (with_reducible apply below_allocp; (first | omega | (simp <;> omega))) | (with_reducible refine below_viap (by assumption) ?_ ?_; (first | omega | (simp <;> omega)))))⟩
end Go.Proofs.Ytononfokhdmofaa
