/- Contracts of RelationSize, of the program. -/
import Derived.Test.YteehcjjhkphdnaaGreatPC
import Derived.Test.YteehcjjhkphdnaaGreatZX
import Derived.Deep.RegionLaw
namespace Go.Proofs.YteehcjjhkphdnaaGreat
open Go.RowKit Go.Maps

theorem gensN_lt2 {d : Int} {L zs : List Fm} (hL : clsL d = L) (h : ∀ f ∈ zs, CF d f (red f)) : ∀ j ∈ gensN L zs, j < L.length := by
  intro j hj
  obtain ⟨f, hf, rfl⟩ := List.mem_map.1 hj
  have hm := (h f hf).mem
  rw [hL] at hm
  have := gix_bd hm
  omega
/-- How many marks stand below k. -/
def cB (p : Nat → Bool) (k : Nat) : Nat := ((List.range k).filter p).length
theorem cB_next (p : Nat → Bool) (k : Nat) : cB p (k + 1) = cB p k + if p k then 1 else 0 := by
  unfold cB
  rw [List.range_succ, List.filter_append, List.length_append]
  cases h : p k <;> simp [h]
theorem cB_le (p : Nat → Bool) (k : Nat) : cB p k ≤ k := by
  unfold cB
  exact Nat.le_trans (List.length_filter_le _ _) (by simp)
/-- How many classes the forms of primes generate. -/
noncomputable def rzO (d : Int) (Z : List Int) : Option Nat := (pfsO d Z 6).map fun zs => cB (rchB (mulN d (clsL d)) (gensN (clsL d) zs)) (clsL d).length
theorem rzO_le {d : Int} {Z : List Int} {n : Nat} (h : rzO d Z = some n) : n ≤ 1640 := by
  unfold rzO at h
  rw [Option.map_eq_some_iff] at h
  obtain ⟨zs, _, rfl⟩ := h
  exact Nat.le_trans (cB_le _ _) (clsL_len d)
theorem pfsO_cf {d : Int} {Z : List Int} {L : List Fm} {m : Int} (h : pfsO d Z m = some L) : isDisc d = true ∧ (∀ f ∈ L, CF d f (red f)) ∧ L.length = Z.length ∧ (Z.length : Int) ≤ m ∧ 1 ≤ Z.length := by
  unfold pfsO at h
  split at h
  · rename_i h1
    obtain ⟨a, b⟩ := pfL_cf Z L h
    exact ⟨h1.1, a, b, h1.2.2, h1.2.1⟩
  · cases h
def RgSt (L zs : List Fm) (w1 : World) (v vi : Value) (wr : World) : Prop :=
  ∃ k : Nat, vi = .int .i64 k ∧ k ≤ zs.length ∧ wr.ownsRow w1.heap.size 3 1 v (nats (gensN L (zs.take k))).length (cellsI (nats (gensN L (zs.take k)))) ∧ w1.heap.size < wr.heap.size ∧ Below w1.heap.size w1 wr
def CbSt (p : Nat → Bool) (m : Nat) (v8 vi : Value) : Prop := ∃ k : Nat, vi = .int .i64 k ∧ k ≤ m ∧ v8 = .int .i64 (cB p k : Nat)

set_option maxRecDepth 100000 in
set_option maxHeartbeats 6400000 in
theorem implRz_any (d : Int) (Z : List Int) (v : Value) (B : Nat) (w : World) (hlz : Z.length ≤ 10000000) (ho : w.ownsRow B 3 1 v Z.length (cellsI Z)) :
    Calls Tryz.prog 24 #[.int .i64 d, v] w fun e w' => e = .returned (.tuple #[.int .i64 ((rzO d Z).getD 0 : Nat), .bool (rzO d Z).isSome]) ∧ Below w.heap.size w w' := by
  have hP0 := primeForms_any d 6 Z v B w hlz (by omega) ho
  clear ho
  cases hz : pfsO d Z 6 with
  | none =>
    have hr : rzO d Z = none := by unfold rzO; rw [hz]; rfl
    rw [hr]
    have hP := Lib.hid (show Calls Tryz.prog 86 #[.int .i64 d, v, .int .i64 6] w (fun e w' => e = .returned (.tuple #[.slice none 0 0, .bool false]) ∧ Below w.heap.size w w') from hP0.mono (fun e w' h => by
      rcases h with ⟨_, a, b⟩ | ⟨L, v, a, _⟩
      · exact ⟨a, b⟩
      · rw [hz] at a; cases a))
    clear hP0 hz hr
    go_enter Tryz.func24, Tryz.ntmps24
    go_wp2_with (go_at_call 86; refine hP.out.mono ?_; rintro e w1 ⟨rfl, hb1⟩)
    go_ret2
    exact ⟨rfl, hb1⟩
  | some zs =>
    obtain ⟨hc, hcf, hlen, hle, _⟩ := pfsO_cf hz
    have D := dsc_of hc
    obtain ⟨i0, hi0, hz0, hz1, hz2⟩ := info_parts infoInt
    obtain ⟨L, hL⟩ : ∃ L, clsL d = L := ⟨_, rfl⟩
    have hl : L.length ≤ 1640 := by rw [← hL]; exact clsL_len d
    have hzl : zs.length ≤ 6 := by omega
    have hr : rzO d Z = some (cB (rchB (mulN d L) (gensN L zs)) L.length) := by unfold rzO; rw [hz, hL]; rfl
    rw [hr]
    have hP := Lib.hid (show Calls Tryz.prog 86 #[.int .i64 d, v, .int .i64 6] w (fun e w' => ∃ v, e = .returned (.tuple #[v, .bool true]) ∧ w'.ownsRow w.heap.size 36 3 v zs.length (cellsF zs) ∧ Below w.heap.size w w') from hP0.mono (fun e w' h => by
      rcases h with ⟨a, _⟩ | ⟨L, v, a, b⟩
      · rw [hz] at a; cases a
      · rw [hz] at a; injection a with a; subst a; exact ⟨v, b⟩))
    have hG := Lib.hid (fun w => groupOf_any d w D)
    rw [hL] at hG
    have hgen := Lib.hid (fun (B G : Nat) (v : Value) (B2 : Nat) (w : World) hg ho => generated_any d L B G (gensN L zs) v B2 w D hL hg (gensN_lt2 hL hcf) (by rw [gensN_len]; omega) ho)
    have hidx := Lib.hid (fun f (h : f ∈ zs) => (show ∃ (n : Nat) (hn : n < L.length), L[n] = red f ∧ gix L (red f) = n from by
      have hm := (hcf f h).mem
      rw [hL] at hm
      exact gix_mem hm))
    have hwf := Lib.hid (fun f (h : f ∈ zs) => cls_wf D.lo (hcf f h).mem)
    have hrd := Lib.hid (fun f (h : f ∈ zs) w => reduced_cf d f (red f) w (hcf f h))
    obtain ⟨pB, hpB⟩ : ∃ pB, rchB (mulN d L) (gensN L zs) = pB := ⟨_, rfl⟩
    rw [hpB] at hgen
    simp only [hpB, Option.getD, Option.isSome]
    clear hP0 hz hr D hL hcf hpB
    go_enter Tryz.func24, Tryz.ntmps24
    go_wp2_with (first
      | (go_at_call 86; refine hP.out.mono ?_; rintro e w0 ⟨vz, rfl, hoz, hb0⟩; have hz0' := hb0.size; obtain ⟨bz, cz, rfl⟩ := own_shape hoz)
      | (go_at_call 96; refine (hG.out _).mono ?_; rintro e w1 ⟨G, rfl, hg1, hG0, hb1⟩; have hz1' := hb1.size))
    have HG1 := Lib.hid hg1
    have Hz := Lib.hid (own_call hb1 hoz)
    have hbw1 : Below w.heap.size w w1 := below_via hb0 hb1 hz0'
    clear hg1 hoz hb0 hb1
    go_loopw [9, 28] (fun v i wr => RgSt L zs w1 v i wr) (fun _ i _ => zs.length - (intOf i).toNat)
    case atStart => exact ⟨0, rfl, Nat.zero_le _, own_empty (Nat.le_refl _), by simp, (by repeat (first | with_reducible exact Below.refl _ _ | with_reducible assumption | with_reducible apply Below.drew | with_reducible apply below_drewN | (with_reducible apply below_setp; (first | omega | (simp <;> omega))) | (with_reducible apply below_allocp; (first | omega | (simp <;> omega))) | (with_reducible refine below_viap (by assumption) ?_ ?_; (first | omega | (simp <;> omega)))))⟩
    case round =>
      obtain ⟨k, rfl, hk, hown, hsz, hbel⟩ := hrel
      have hz := hbel.size
      by_cases hlt : k < zs.length
      · obtain ⟨g, rfl, hg2, d1, d2, d3⟩ := own_elem (own_call hbel Hz.out) hlt
        have hfm := List.getElem_mem hlt
        have hft := gensN_take (L := L) hlt
        generalize zs[k] = f at d1 d2 d3 hfm hft
        obtain ⟨n, hn, hnr, hng⟩ := hidx.out f hfm
        have hW := hwf.out f hfm
        have hRd := Lib.hid (fun w => hrd.out f hfm w)
        have hxN : nats (gensN L (zs.take (k + 1))) = nats (gensN L (zs.take k)) ++ [(n : Int)] := by
          rw [hft, nats_snoc, hng]; simp
        have HxN := Lib.hid hxN
        have hQl : (nats (gensN L (zs.take k))).length ≤ 20 := by rw [nats_len, gensN_len, List.length_take]; omega
        generalize nats (gensN L (zs.take k)) = Q at hown HxN hQl
        generalize red f = r at hnr hW hRd
        obtain ⟨base, cap, M, Dm, hblk, _, hmap, hidm⟩ := HG1.out.call hbel
        have hml := hmap.lt
        have Hidm := Lib.hid hidm
        have Hnr := Lib.hid hnr
        have hlG := hblk.lt
        have hbr3 : Below wr.heap.size wr (wr.alloc (.cells #[.int .i64 f.a, .int .i64 f.b, .int .i64 f.c] 36)) := (Below.refl _ _).alloc (Nat.le_refl _) _
        have hmp3 := Lib.hid (ownsMap_below hmap hbr3 hml)
        have hon3 := Lib.hid (own_bel hbr3 (own_lt hown) hown)
        have hG3 := Blk.allocp (o := .cells #[.int .i64 f.a, .int .i64 f.b, .int .i64 f.c] 36) hblk
        have cG3 := hG3.cell; have fG3 := hG3.frozen; have lG3 := hG3.lt
        have nG3 : ¬ G = wr.heap.size := by omega
        have mG3 : ¬ wr.heap.size = G := by omega
        clear hft hng hxN hnr hmap hidm
        go_wp2
        go_region_law (first
          | (refine step_append_any (v4.alloc (.cells #[.int .i64 n] 3)) rfl (.tmp 32) (.tmp 40) 32 rfl w1.heap.size 3 i0 _ 1 8 Tryz.underlying32 hi0 hz0 hz1 hz2 rfl (by omega) u9 Q.length (cellsI Q) rfl (own_alloc hon4) (v4.heap.size + 1) (some ⟨v4.heap.size, 0, none⟩) 1 1 [.int .i64 n] rfl ⟨rfl, fun _ => ⟨_, rfl, (by simp), cells1 (Blk.new _ _ _)⟩⟩ (one1 _) (by unfold maxLen; omega) (by omega) (by simp; omega) ?_; intro x2 w2 hown2 hgr2 _)
          | (go_simp; go_wp2_with (go_at_call 94; (with_reducible refine (hRd.out _).mono ?_); rintro e v4 ⟨rfl, hB4⟩; have hZ4 := hB4.size; (try simp at hZ4); have hG4 : Blk v4 G 111 #[.slice base L.length cap, .map (some M)] := Blk.call (Blk.drew hG3) hB4; have cG4 := hG4.cell; have hrun := idx_run (ownsMap_below (World.ownsMap.drew hmp3.out) hB4 (by simp; omega)) Hidm.out hW hn Hnr.out; have hon4 := own_call hB4 (own_drew hon3.out))))
        all_goals
          have hgs := hgr2.size
          simp at hgs
          have hoN := own_snocI HxN.out hown2
          have hb4 : Below w1.heap.size w1 v4 := below_via (below_via hbel hbr3 hz).drew hB4 (by simp; omega)
          have hbN : Below w1.heap.size w1 w2 := below_grown (own_ge hown) (by simp; omega) hgr2 (hb4.alloc (by omega) _)
          clear hgr2 hown2 hon3 hon4 hown
          go_wp2
          exact ⟨⟨k + 1, rfl, hlt, hoN, by omega, hbN⟩, by simp [intOf]; omega⟩
      · have e : k = zs.length := by omega
        have hx : zs.take k = zs := by rw [e, List.take_length]
        rw [hx] at hown
        have hgen2 := Lib.hid (hgen.out _ G u9 _ wr (HG1.out.call hbel) hown)
        have hbw : Below w.heap.size w wr := below_via hbw1 hbel (by omega)
        subst e
        clear hx hown
        go_wp2_with (go_at_call 97; refine hgen2.out.mono ?_; rintro e v5 ⟨O, rfl, hO, hR, hB5⟩; have hZ5 := hB5.size)
        have hb5 : Below w.heap.size w v5 := below_via hbw hB5 (by omega)
        go_loop [12, 47] (fun v8 vi => CbSt pB L.length v8 vi) (fun _ vi => L.length - (intOf vi).toNat)
        case atStart => exact ⟨0, rfl, Nat.zero_le _, rfl⟩
        case round =>
          obtain ⟨k2, rfl, hk2, rfl⟩ := hrel
          by_cases hlt2 : k2 < L.length
          · have cR := hR.cell hlt2
            have hnx := cB_next pB k2
            have hbd := cB_le pB k2
            generalize cB pB k2 = C at *
            cases hp : pB k2 with
            | true =>
              have Hnx : Hid (cB pB (k2 + 1) = C + 1) := Lib.hid (by rw [hnx, hp]; rfl)
              simp only [hp] at cR
              clear hnx hp
              go_wp2
              go_round
              case rel => exact ⟨k2 + 1, by go_num, hlt2, by rw [Hnx.out]; go_num⟩
              case measure => simp [intOf]; omega
            | false =>
              have Hnx : Hid (cB pB (k2 + 1) = C) := Lib.hid (by rw [hnx, hp]; rfl)
              simp only [hp] at cR
              clear hnx hp
              go_wp2
              go_round
              case rel => exact ⟨k2 + 1, by go_num, hlt2, by rw [Hnx.out]⟩
              case measure => simp [intOf]; omega
          · have e2 : k2 = L.length := by omega
            subst e2
            go_wp2
            go_ret2
            exact ⟨rfl, hb5⟩
end Go.Proofs.YteehcjjhkphdnaaGreat
