/- Parts AL BK BL laid together by tp.py. -/
import Derived.Test.YtkkamlhpappebaaGreatNA
import Derived.Test.YtkkamlhpappebaaGreatN5
import Derived.Test.YtkkamlhpappebaaGreatBX
import Derived.Test.YtkkamlhpappebaaGreatSZ
namespace Go.Proofs.YtkkamlhpappebaaGreat
section
open Go.RowKit

/-- Whether all exponents are in range. -/
def inR (lo hi : Int) (E : List Int) : Bool := E.all fun e => decide (lo ≤ e) && decide (e ≤ hi)
theorem inR_no {lo hi : Int} {E : List Int} {k : Nat} (h : k < E.length) (hb : (decide (lo ≤ E[k]) && decide (E[k] ≤ hi)) = false) : inR lo hi E = false := by
  unfold inR
  rw [List.all_eq_false]
  exact ⟨E[k], List.getElem_mem h, by rw [hb]; simp⟩
theorem inR_yes {lo hi : Int} {E : List Int} (h : ∀ j (h : j < E.length), (decide (lo ≤ E[j]) && decide (E[j] ≤ hi)) = true) : inR lo hi E = true := by
  unfold inR
  rw [List.all_eq_true]
  intro e he
  obtain ⟨j, hj, rfl⟩ := List.getElem_of_mem he
  exact h j hj
theorem inR_mem {lo hi : Int} {E : List Int} (h : inR lo hi E = true) : ∀ e ∈ E, lo ≤ e ∧ e ≤ hi := by
  unfold inR at h
  rw [List.all_eq_true] at h
  intro e he
  have := h e he
  simpa using this
def ArSt (lo hi : Int) (E : List Int) (vi : Value) : Prop := ∃ k : Nat, vi = .int .i64 k ∧ k ≤ E.length ∧ Hid (∀ j (h : j < E.length), j < k → (decide (lo ≤ E[j]) && decide (E[j] ≤ hi)) = true)

end

section
open Go.RowKit Go.Maps

/-- The reduced form with exponents. -/
noncomputable def frF (d : Int) (E : List Int) : Fm := open Classical in if h : Dsc d then (clsL d).getD (cmbN h (redE E (facN d)) (facN d).length) ⟨0, 0, 0⟩ else ⟨0, 0, 0⟩
theorem frF_at {d : Int} (D : Dsc d) (E : List Int) : ∃ h : cmbN D (redE E (facN d)) (facN d).length < (clsL d).length, (clsL d)[cmbN D (redE E (facN d)) (facN d).length] = frF d E := by
  refine ⟨cmbN_lt D _ _, ?_⟩
  unfold frF
  rw [dif_pos D, List.getD_eq_getElem?_getD, List.getElem?_eq_getElem (cmbN_lt D _ _)]
  rfl
/-- What FromLogarithm gives. -/
def FlF (d : Int) (E : List Int) (f : Fm) (ok : Bool) : Prop :=
  (isDisc d = false ∧ f = ⟨0, 0, 0⟩ ∧ ok = false) ∨ (isDisc d = true ∧ inR (-1000000) 1000000 E = false ∧ f = ⟨0, 0, 0⟩ ∧ ok = false) ∨
  (isDisc d = true ∧ inR (-1000000) 1000000 E = true ∧ E.length ≠ (facN d).length ∧ f = ⟨0, 0, 0⟩ ∧ ok = false) ∨
  (isDisc d = true ∧ inR (-1000000) 1000000 E = true ∧ E.length = (facN d).length ∧ f = frF d E ∧ ok = true)
theorem flF_ex (d : Int) (E : List Int) : ∃ f ok, FlF d E f ok := by
  cases hc : isDisc d with
  | false => exact ⟨_, _, .inl ⟨hc, rfl, rfl⟩⟩
  | true =>
    cases hi : inR (-1000000) 1000000 E with
    | false => exact ⟨_, _, .inr (.inl ⟨hc, hi, rfl, rfl⟩)⟩
    | true =>
      by_cases hl : E.length = (facN d).length
      · exact ⟨_, _, .inr (.inr (.inr ⟨hc, hi, hl, rfl, rfl⟩))⟩
      · exact ⟨_, _, .inr (.inr (.inl ⟨hc, hi, hl, rfl, rfl⟩))⟩
theorem isNum_inR (E : List Int) : E.all isNum = inR (-1000000) 1000000 E := rfl

set_option maxHeartbeats 800000 in
theorem areN_own (E : List Int) (v : Value) (B : Nat) (w : World) (hl : E.length ≤ 1000000000) (h : w.ownsRow B 3 1 v E.length (cellsI E)) :
    Calls Tryz.prog 38 #[v] w fun e w' => e = .returned (.bool (inR (-1000000) 1000000 E)) ∧ w = w' := by
  rw [← isNum_inR]
  rcases own_form h with ⟨rfl, h0⟩ | ⟨g, c, rfl, h1, h2, h3⟩
  · have hE : E = [] := List.length_eq_zero_iff.1 h0
    subst hE
    clear h
    go_enter Tryz.func38, Tryz.ntmps38
    go_wp2
    go_loop [7] (fun i => i = .int .i64 0) (fun _ => 0)
    case atStart => rfl
    case round =>
      obtain rfl := hrel
      go_wp2
      go_ret
      exact ⟨rfl, rfl⟩
  · refine areNumbers_any g E.length c E w rfl hl (fun j hj => ?_)
    obtain ⟨g', e, _, hc⟩ := own_elemI h hj
    injection e with e
    injection e with e _ _
    subst e
    rw [hc, List.getD_eq_getElem?_getD, List.getElem?_eq_getElem hj]
    rfl

set_option maxRecDepth 100000 in
set_option maxHeartbeats 6400000 in
theorem implFl_any (d : Int) (E : List Int) (ve : Value) (B2 : Nat) (f : Fm) (ok : Bool) (w : World) (hle : E.length ≤ 10000000) (h : FlF d E f ok) (hoE : w.ownsRow B2 3 1 ve E.length (cellsI E)) :
    Calls Tryz.prog 14 #[.int .i64 d, ve] w fun e w' => e = .returned (.tuple #[.agg #[.int .i64 f.a, .int .i64 f.b, .int .i64 f.c], .bool ok]) ∧ Below w.heap.size w w' := by
  have hAre := Lib.hid (fun w h => areN_own E ve B2 w (by omega) h)
  obtain ⟨be, ce, rfl⟩ := own_shape hoE
  have HE := Lib.hid hoE
  clear hoE
  rcases h with ⟨hc, rfl, rfl⟩ | ⟨hc, hi, rfl, rfl⟩ | ⟨hc, hi, hl, rfl, rfl⟩ | ⟨hc, hi, hl, hf, rfl⟩
  · clear hAre
    go_enter Tryz.func14, Tryz.ntmps14
    go_wp2_with (go_at_call 34; (with_reducible refine (negDisc_eq d false _ hc).mono ?_); rintro e v ⟨rfl, rfl⟩)
    exact bodyPost_ret (v := .tuple #[.agg #[.int .i64 0, .int .i64 0, .int .i64 0], .bool false]) (by simp [results, Tryz.results14, go_sem, *]) rfl ⟨rfl, (by repeat (first | with_reducible exact Below.refl _ _ | with_reducible assumption | with_reducible apply Below.drew | with_reducible apply below_drewN | (with_reducible apply below_setp; (first | omega | (simp <;> omega))) | (with_reducible apply below_allocp; (first | omega | (simp <;> omega))) | (with_reducible refine below_viap (by assumption) ?_ ?_; (first | omega | (simp <;> omega)))))⟩
  · rw [hi] at hAre
    go_enter Tryz.func14, Tryz.ntmps14
    go_wp2_with (first
      | (go_at_call 34; (with_reducible refine (negDisc_eq d true _ hc).mono ?_); rintro e v ⟨rfl, rfl⟩)
      | (go_at_call 38; refine (hAre.out _ (own_alloc HE.out)).mono ?_; rintro e v1 ⟨rfl, rfl⟩))
    exact bodyPost_ret (v := .tuple #[.agg #[.int .i64 0, .int .i64 0, .int .i64 0], .bool false]) (by simp [results, Tryz.results14, go_sem, *]) rfl ⟨rfl, (by repeat (first | with_reducible exact Below.refl _ _ | with_reducible assumption | with_reducible apply Below.drew | with_reducible apply below_drewN | (with_reducible apply below_setp; (first | omega | (simp <;> omega))) | (with_reducible apply below_allocp; (first | omega | (simp <;> omega))) | (with_reducible refine below_viap (by assumption) ?_ ?_; (first | omega | (simp <;> omega)))))⟩
  · have D := dsc_of hc
    have hG := Lib.hid (fun w => groupOf_any d w D)
    have hB := Lib.hid (fun (B G : Nat) (w : World) (hg : Grp (clsL d) B G w) => gbasis_any d (clsL d) B G w D rfl hg)
    unfold RetBs at hB
    rw [hi] at hAre
    have hne : ((E.length : Int) != ((nats (facN d)).length : Int)) = true := by rw [bne_iff_ne, nats_len]; omega
    go_enter Tryz.func14, Tryz.ntmps14
    go_wp2_with (first
      | (go_at_call 34; (with_reducible refine (negDisc_eq d true _ hc).mono ?_); rintro e v ⟨rfl, rfl⟩)
      | (go_at_call 38; refine (hAre.out _ (own_alloc HE.out)).mono ?_; rintro e v1 ⟨rfl, rfl⟩)
      | (go_at_call 18; refine (hG.out _).mono ?_; rintro e v3 ⟨G, rfl, hg3, hG0, hB3⟩; have hZ3 := hB3.size; (try simp at hZ3); have hR3 : Blk v3 w.heap.size 25 #[.int .i64 0, .int .i64 0, .int .i64 0] := Blk.call (by (repeat (first | with_reducible assumption | (with_reducible apply Blk.new_at; (first | rfl | (simp; done))) | with_reducible apply Blk.store3 | with_reducible apply Blk.store4 | (with_reducible apply Blk.farp; (first | omega | (simp <;> omega))) | with_reducible apply Blk.allocp | with_reducible apply Blk.drew | with_reducible apply Blk.drewN))) hB3; have cR3 := hR3.cell; have fR3 := hR3.frozen; have lR3 := hR3.lt)
      | (go_at_call 20; refine (hB.out _ _ _ hg3).mono ?_; rintro e v4 ⟨vb, vf, rfl, hob, hof, hB4⟩; have hZ4 := hB4.size; have hR4 : Blk v4 w.heap.size 25 #[.int .i64 0, .int .i64 0, .int .i64 0] := Blk.call (by (repeat (first | with_reducible assumption | (with_reducible apply Blk.new_at; (first | rfl | (simp; done))) | with_reducible apply Blk.store3 | with_reducible apply Blk.store4 | (with_reducible apply Blk.farp; (first | omega | (simp <;> omega))) | with_reducible apply Blk.allocp | with_reducible apply Blk.drew | with_reducible apply Blk.drewN))) hB4; have cR4 := hR4.cell; have fR4 := hR4.frozen; have lR4 := hR4.lt; have mR4 := Nat.ne_of_gt lR4; have nR4 := Nat.ne_of_lt lR4; obtain ⟨bb, cb, rfl⟩ := own_shape hob; obtain ⟨bf, cf, rfl⟩ := own_shape hof))
    exact bodyPost_ret (v := .tuple #[.agg #[.int .i64 0, .int .i64 0, .int .i64 0], .bool false]) (by simp [results, Tryz.results14, go_sem, *]) rfl ⟨rfl, (by repeat (first | with_reducible exact Below.refl _ _ | with_reducible assumption | with_reducible apply Below.drew | with_reducible apply below_drewN | (with_reducible apply below_setp; (first | omega | (simp <;> omega))) | (with_reducible apply below_allocp; (first | omega | (simp <;> omega))) | (with_reducible refine below_viap (by assumption) ?_ ?_; (first | omega | (simp <;> omega)))))⟩
  · have D := dsc_of hc
    have hG := Lib.hid (fun w => groupOf_any d w D)
    obtain ⟨L, hL⟩ : ∃ L, clsL d = L := ⟨_, rfl⟩
    have hll : L.length ≤ 1640 := by rw [← hL]; exact clsL_len d
    rw [hL] at hG
    have hB := (fun (B G : Nat) (w : World) (hg : Grp L B G w) => gbasis_any d L B G w D hL hg)
    unfold RetBs at hB
    rw [hi] at hAre
    have hsm := redE_small (facN_ge D) hl
    have hPw := Lib.hid (fun k (hk : k < (facN d).length) => (show ∃ b N K q X, ∃ hE : k < E.length, PwP d L (cmbN D (redE E (facN d))) k b N K q X ∧ E[k] % (N : Int) = K from by
      obtain ⟨b, N, q, X, h, hp⟩ := pwP_ex D hL hsm hk
      have h2 : k < E.length := by omega
      refine ⟨b, N, _, q, X, h2, hp, ?_⟩
      have e := redE_get h2 hk h
      have hN : N = (facN d)[k] := by
        have h1 := hp.hf
        unfold nats at h1
        rw [List.getElem?_map, List.getElem?_eq_getElem hk] at h1
        have h3 : (((facN d)[k] : Nat) : Int) = N := by simpa using h1
        omega
      have h4 := Int.emod_nonneg E[k] (show (N : Int) ≠ 0 by have := hp.n2; omega)
      rw [e, ← hN]; omega))
    have hTm := Lib.hid (fun (i k B G : Nat) (w : World) hi hk hg => gtimes_n d i k L B G w D hL hi hk hg)
    have h0 := cmbN_zero D (redE E (facN d))
    obtain ⟨hcl, hat⟩ := frF_at D E
    have hs20 : (facN d).length ≤ 20 := by rw [facN_len]; exact inv_len20 D
    have hbl : (nats (basN d)).length = (facN d).length := by rw [nats_len, basN_len]
    have hfl : (nats (facN d)).length = (facN d).length := nats_len _
    have hcl2 : cmbN D (redE E (facN d)) (facN d).length < L.length := by rw [← hL]; exact hcl
    have hat2 : L[cmbN D (redE E (facN d)) (facN d).length] = f := by subst hL; rw [hf]; exact hat
    generalize cmbN D (redE E (facN d)) = F at *
    clear hcl hat hf hsm
    have Hbl := Lib.hid hbl; have Hfl := Lib.hid hfl; have Hl := Lib.hid hl; have Hat := Lib.hid hat2
    have hb20 : (nats (basN d)).length ≤ 20 := by omega
    have hE20 : E.length ≤ 20 := by omega
    have heq : ((E.length : Int) != ((nats (facN d)).length : Int)) = false := by rw [bne_eq_false_iff_eq]; omega
    have HB := Lib.hid hB
    clear hbl hfl hat2 D hL hB hl
    go_enter Tryz.func14, Tryz.ntmps14
    go_wp2_with (first
      | (go_at_call 34; (with_reducible refine (negDisc_eq d true _ hc).mono ?_); rintro e v ⟨rfl, rfl⟩)
      | (go_at_call 38; refine (hAre.out _ (own_alloc HE.out)).mono ?_; rintro e v1 ⟨rfl, rfl⟩)
      | (go_at_call 18; refine (hG.out _).mono ?_; rintro e v3 ⟨G, rfl, hg3, hG0, hB3⟩; have hZ3 := hB3.size; (try simp at hZ3); have hR3 : Blk v3 w.heap.size 25 #[.int .i64 0, .int .i64 0, .int .i64 0] := Blk.call (by (repeat (first | with_reducible assumption | (with_reducible apply Blk.new_at; (first | rfl | (simp; done))) | with_reducible apply Blk.store3 | with_reducible apply Blk.store4 | (with_reducible apply Blk.farp; (first | omega | (simp <;> omega))) | with_reducible apply Blk.allocp | with_reducible apply Blk.drew | with_reducible apply Blk.drewN))) hB3; have cR3 := hR3.cell; have fR3 := hR3.frozen; have lR3 := hR3.lt)
      | (go_at_call 20; refine (HB.out _ _ _ hg3).mono ?_; rintro e v4 ⟨vb, vf, rfl, hob, hof, hB4⟩; have hZ4 := hB4.size; have hR4 : Blk v4 w.heap.size 25 #[.int .i64 0, .int .i64 0, .int .i64 0] := Blk.call (by (repeat (first | with_reducible assumption | (with_reducible apply Blk.new_at; (first | rfl | (simp; done))) | with_reducible apply Blk.store3 | with_reducible apply Blk.store4 | (with_reducible apply Blk.farp; (first | omega | (simp <;> omega))) | with_reducible apply Blk.allocp | with_reducible apply Blk.drew | with_reducible apply Blk.drewN))) hB4; have cR4 := hR4.cell; have fR4 := hR4.frozen; have lR4 := hR4.lt; obtain ⟨bb, cb, rfl⟩ := own_shape hob; obtain ⟨bf, cf, rfl⟩ := own_shape hof))
    have HG4 := Lib.hid (hg3.call hB4)
    have HB4 := Lib.hid hob
    have HF4 := Lib.hid hof
    have HE4 := Lib.hid (own_call hB4 (own_call hB3 (own_alloc HE.out)))
    have hb04 : Below w.heap.size w v4 := (by repeat (first | with_reducible exact Below.refl _ _ | with_reducible assumption | with_reducible apply Below.drew | with_reducible apply below_drewN | (with_reducible apply below_setp; (first | omega | (simp <;> omega))) | (with_reducible apply below_allocp; (first | omega | (simp <;> omega))) | (with_reducible refine below_viap (by assumption) ?_ ?_; (first | omega | (simp <;> omega)))))
    clear hob hof hg3 cR3 fR3 hR3 cR4 fR4
    go_loopw [9, 36] (fun v9 v36 wr => ClgIn F (nats (basN d)).length v4 v9 v36 wr) (fun _ v36 _ => (nats (basN d)).length - (intOf v36).toNat)
    case atStart => exact ⟨0, rfl, Nat.zero_le _, by rw [h0]; rfl, Below.refl _ _⟩
    case round =>
      obtain ⟨k, rfl, hk, rfl, hbi⟩ := hrel
      have hzi := hbi.size
      by_cases hkl : k < (nats (basN d)).length
      · have hkN : k < (facN d).length := by have := Hbl.out; omega
        have hkF : k < (nats (facN d)).length := by have := Hfl.out; omega
        obtain ⟨b, N, K, q, X, hkE, hp, hmod⟩ := hPw.out k hkN
        have hbe := hp.hb
        rw [List.getElem?_eq_getElem hkl] at hbe
        injection hbe with hbe
        have hfe := hp.hf
        rw [List.getElem?_eq_getElem hkF] at hfe
        injection hfe with hfe
        obtain ⟨gb, rfl, lb, c1⟩ := own_elemI (own_call hbi HB4.out) hkl
        obtain ⟨gf, rfl, lf, c2⟩ := own_elemI (own_call hbi HF4.out) hkF
        obtain ⟨ge, rfl, le, c3⟩ := own_elemI (own_call hbi HE4.out) hkE
        rw [hbe] at c1
        rw [hfe] at c2
        have hMod := Lib.hid (fun w => mod_any E[k] N w (by have := hp.n2; omega) (by have := hp.n3; omega))
        rw [hmod] at hMod
        generalize E[k] = y at c3 hMod
        have hPb := Lib.hid hp.pw
        have hTb := Lib.hid (fun (B G : Nat) (w : World) hg => hTm.out (F k) q B G w hp.fl hp.ql hg)
        rw [hp.nx] at hTb
        have hKX : K < X.length := by rw [hp.xl]; exact hp.kN
        have hXl : X.length ≤ 1640 := by rw [hp.xl]; exact hp.n3
        have hxq := hp.xq
        rw [List.getElem?_eq_getElem hKX] at hxq
        injection hxq with hxq
        have Hxq := Lib.hid hxq
        clear hp hbe hfe hmod hxq
        go_wp2
        go_region_with (first
          | (go_at_call 23; (refine (hPb.out _ _ _ (HG4.out.call (by exact (by repeat (first | with_reducible exact Below.refl _ _ | with_reducible assumption | with_reducible apply Below.drew | with_reducible apply below_drewN | (with_reducible apply below_setp; (first | omega | (simp <;> omega))) | (with_reducible apply below_allocp; (first | omega | (simp <;> omega))) | (with_reducible refine below_viap (by assumption) ?_ ?_; (first | omega | (simp <;> omega)))))))).mono ?_); rintro e' w6 ⟨vp, rfl, hop, hB6⟩; have hZ6 := hB6.size; (try simp at hZ6); obtain ⟨bp, cp, rfl⟩ := own_shape hop; obtain ⟨gp, rfl, lp, c6⟩ := own_elemI hop hKX; rw [Hxq.out] at c6; have hbr6 : Below wr.heap.size wr w6 := (by repeat (first | with_reducible exact Below.refl _ _ | with_reducible assumption | with_reducible apply Below.drew | with_reducible apply below_drewN | (with_reducible apply below_setp; (first | omega | (simp <;> omega))) | (with_reducible apply below_allocp; (first | omega | (simp <;> omega))) | (with_reducible refine below_viap (by assumption) ?_ ?_; (first | omega | (simp <;> omega))))); have d2 := (hbr6.cell (p := ⟨gf, k, none⟩) lf).trans c2; have d3 := (hbr6.cell (p := ⟨ge, k, none⟩) le).trans c3)
          | (go_at_call 39; (refine (hMod.out _).mono ?_); rintro e' w7 ⟨rfl, rfl⟩)
          | (go_at_call 22; (refine (hTb.out _ _ _ ((HG4.out.call (by exact (by repeat (first | with_reducible exact Below.refl _ _ | with_reducible assumption | with_reducible apply Below.drew | with_reducible apply below_drewN | (with_reducible apply below_setp; (first | omega | (simp <;> omega))) | (with_reducible apply below_allocp; (first | omega | (simp <;> omega))) | (with_reducible refine below_viap (by assumption) ?_ ?_; (first | omega | (simp <;> omega))))))))).mono ?_); rintro e' w8 ⟨rfl, hB8⟩; have hZ8 := hB8.size))
        all_goals
          go_wp2
          go_roundw
          case rel => exact ⟨k + 1, by go_num, hkl, rfl, (by repeat (first | with_reducible exact Below.refl _ _ | with_reducible assumption | with_reducible apply Below.drew | with_reducible apply below_drewN | (with_reducible apply below_setp; (first | omega | (simp <;> omega))) | (with_reducible apply below_allocp; (first | omega | (simp <;> omega))) | (with_reducible refine below_viap (by assumption) ?_ ?_; (first | omega | (simp <;> omega)))))⟩
          case measure => (first | (simp [intOf]; done) | (simp [intOf]; omega))
      · have ek : k = (nats (basN d)).length := by omega
        have eF : F k = F (facN d).length := by rw [ek, Hbl.out]
        rw [eF]
        have HatF := Hat.out
        obtain ⟨base, cap, M, Dm, hblk, howl, _, _⟩ := HG4.out.call hbi
        have cG := hblk.cell; have fG := hblk.frozen; have lG := hblk.lt
        have hRr : Blk wr w.heap.size 25 #[.int .i64 0, .int .i64 0, .int .i64 0] := Blk.call hR4 hbi
        have cR := hRr.cell; have fR := hRr.frozen; have lR := hRr.lt
        obtain ⟨g, rfl, hg1, d1, d2, d3⟩ := own_elem howl hcl2
        rw [HatF] at d1 d2 d3
        generalize F (facN d).length = gg at *
        clear HatF Hat ek eF hPw h0
        go_wp2
        exact bodyPost_ret (v := .tuple #[.agg #[.int .i64 f.a, .int .i64 f.b, .int .i64 f.c], .bool true]) (by simp [results, Tryz.results14, go_sem, *]) rfl ⟨rfl, (by repeat (first | with_reducible exact Below.refl _ _ | with_reducible assumption | with_reducible apply Below.drew | with_reducible apply below_drewN | (with_reducible apply below_setp; (first | omega | (simp <;> omega))) | (with_reducible apply below_allocp; (first | omega | (simp <;> omega))) | (with_reducible refine below_viap (by assumption) ?_ ?_; (first | omega | (simp <;> omega)))))⟩
end

section
open Go.RowKit Go.Maps

end
end Go.Proofs.YtkkamlhpappebaaGreat
