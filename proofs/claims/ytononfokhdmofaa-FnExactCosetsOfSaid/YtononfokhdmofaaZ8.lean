/- Contracts of GeneratedClasses, of the reference: the whole. -/
import Derived.Test.YtononfokhdmofaaZ7
namespace Go.Proofs.Ytononfokhdmofaa
open Go.RowKit

theorem frm_genF (L : List Fm) (mul : Nat → Nat → Nat) (J : List Nat) : frm L (nats (spanL mul J L.length)) = genF L (rchB mul J) L.length := by
  unfold frm nats genF spanL
  rw [List.map_map]
  rfl
theorem spanL_len (mul : Nat → Nat → Nat) (J : List Nat) (m : Nat) : (spanL mul J m).length ≤ m := by
  unfold spanL
  exact Nat.le_trans (List.length_filter_le _ _) (by simp)
theorem spanL_lt {mul : Nat → Nat → Nat} {J : List Nat} {m : Nat} {x : Int} (h : x ∈ nats (spanL mul J m)) : 0 ≤ x ∧ x < m := by
  obtain ⟨i, hi, rfl⟩ := List.mem_map.1 h
  have := List.mem_range.1 (List.mem_filter.1 hi).1
  simp
  omega
theorem sgS_parts {d : Int} {zs : List Fm} (h : SgS d zs = true) : isDisc d = true ∧ zs.length ≤ 20 ∧ ∀ f ∈ zs, okF d f = true := by
  simp only [SgS, Bool.and_eq_true, decide_eq_true_eq, List.all_eq_true] at h
  exact ⟨h.1, h.2.1, h.2.2⟩
theorem grListed_eq (d : Int) (zs : List Fm) (b : Bool) (v : Value) (B2 : Nat) (w : World) (hb : SgS d zs = b) (hzl : zs.length ≤ 2000000) (ho : w.ownsRow B2 26 3 v zs.length (cellsF zs)) :
    Calls Try.prog 87 #[.int .i64 d, v] w fun e w' => e = .returned (.bool b) ∧ Below w.heap.size w w' := by
  have k := grListed_any d zs v B2 w hzl ho
  rwa [hb] at k

set_option maxRecDepth 100000 in
set_option maxHeartbeats 3200000 in
theorem specGd_any (d : Int) (v : Value) (B2 : Nat) (zs L' : List Fm) (ok : Bool) (w : World) (hzl : zs.length ≤ 2000000) (h : GdL d zs L' ok) (ho : w.ownsRow B2 26 3 v zs.length (cellsF zs)) :
    Calls Try.prog 32 #[.int .i64 d, v] w (RetFb L' ok w) := by
  rcases h with ⟨hc, rfl, rfl⟩ | ⟨hc, rfl, rfl⟩
  · have hG := Lib.hid (grListed_eq d zs false v B2 w hc hzl ho)
    clear ho
    go_enter Try.func32, Try.ntmps32
    go_wp2_with (go_at_call 87; refine hG.out.mono ?_; rintro e w1 ⟨rfl, hb1⟩; have hz1 := hb1.size)
    go_ret2
    exact ⟨_, rfl, World.ownsRow_nil _ _ _ _, hb1⟩
  · have hG := Lib.hid (grListed_eq d zs true v B2 w hc hzl ho)
    obtain ⟨hd, h20, hok⟩ := sgS_parts hc
    have D := dsc_of hd
    have hl : (clsL d).length ≤ 100000 := Nat.le_trans (clsL_len d) (by decide)
    have hT := Lib.hid (fun w => grTable_any d w D)
    have hRe := Lib.hid (fun w => reList_any d w D.lo D.hi)
    have hI := Lib.hid (fun (w : World) (ho : w.ownsRow B2 26 3 v zs.length (cellsF zs)) => grIndices_any d (clsL d) zs v B2 w D rfl h20 hok ho)
    have hJ := gensN_lt rfl hok
    have hJl := gensN_len (clsL d) zs
    have hS := Lib.hid (fun (B : Nat) (base : Option Addr) (cap : Nat) (v : Value) (B2 : Nat) (w : World) (ht : Tab d (clsL d) B (.slice base (clsL d).length cap) w) ho => grSpan_any d (clsL d) B base cap (gensN (clsL d) zs) v B2 w D rfl ht hJ (by omega) ho)
    have hF := Lib.hid (fun (v u : Value) (B B2 : Nat) (w : World) h h2 => grForms_any v u B B2 (clsL d) (nats (spanL (mulN d (clsL d)) (gensN (clsL d) zs) (clsL d).length)) w (by rw [nats_len]; exact Nat.le_trans (spanL_len _ _ _) hl) (fun x hx => spanL_lt hx) h h2)
    rw [frm_genF] at hF
    have HO := Lib.hid ho
    generalize genF (clsL d) (rchB (mulN d (clsL d)) (gensN (clsL d) zs)) (clsL d).length = R at *
    generalize spanL (mulN d (clsL d)) (gensN (clsL d) zs) (clsL d).length = Sp at *
    generalize gensN (clsL d) zs = J at *
    obtain ⟨L, hL⟩ : ∃ L, clsL d = L := ⟨_, rfl⟩
    rw [hL] at hT hRe hS hF
    clear D hd hl hJ hJl hok h20 hc ho hL
    go_enter Try.func32, Try.ntmps32
    go_wp2_with (first
      | (go_at_call 87; refine hG.out.mono ?_; rintro e w1 ⟨rfl, hb1⟩; have hz1 := hb1.size)
      | (go_at_call 67; refine (hRe.out _).mono ?_; rintro e w2 ⟨vl, rfl, howl, hb2⟩; have hz2 := hb2.size; have bel2 := below_via hb1 hb2 hz1)
      | (go_at_call 66; refine (hT.out _).mono ?_; rintro e w3 ⟨base, cap, rfl, ht3, hb3⟩; have hz3 := hb3.size; have bel3 := below_via bel2 hb3 (by omega); have howl3 := own_call hb3 howl)
      | (go_at_call 90; refine (hI.out _ (own_call bel3 HO.out)).mono ?_; rintro e w4 ⟨vi, rfl, hoi, hb4⟩; have hz4 := hb4.size; have bel4 := below_via bel3 hb4 (by omega); have howl4 := own_call hb4 howl3; have ht4 := ht3.call hb4)
      | (go_at_call 89; refine (hS.out _ _ _ _ _ _ ht4 hoi).mono ?_; rintro e w5 ⟨vs, rfl, hos, hb5⟩; have hz5 := hb5.size; have bel5 := below_via bel4 hb5 (by omega); have howl5 := own_call hb5 howl4)
      | (go_at_call 88; refine (hF.out _ _ _ _ _ howl5 hos).mono ?_; rintro e w6 ⟨vf, rfl, hof, hb6⟩; have hz6 := hb6.size; have bel6 := below_via bel5 hb6 (by omega)))
    go_ret2
    exact ⟨_, rfl, own_base (by omega) hof, bel6⟩
end Go.Proofs.Ytononfokhdmofaa
