/- Contract: the basis of a class group, of the program. -/
import Derived.Test.YtkkamlhpappebaaGreatBA
import Derived.Test.YtkkamlhpappebaaGreatSG
import Derived.Test.YtkkamlhpappebaaGreatSZ
import Derived.BigQuiet
namespace Go.Proofs.YtkkamlhpappebaaGreat
open Go.RowKit Go.Maps

/-- The basis and the factors, in new memory. -/
def RetBs (d : Int) (w : World) (e : Ending) (w' : World) : Prop :=
  ∃ v u, e = .returned (.tuple #[v, u]) ∧ w'.ownsRow w.heap.size 3 1 v (nats (basN d)).length (cellsI (nats (basN d))) ∧
    w'.ownsRow w.heap.size 3 1 u (nats (facN d)).length (cellsI (nats (facN d))) ∧ Below w.heap.size w w'
def BaSt (d : Int) (s : Nat) (w2 : World) (vt : Value) (wr : World) : Prop :=
  ∃ t : Nat, vt = .int .i64 ((s : Int) - 1 - t) ∧ t ≤ s ∧ Hid (wr.rowIs w2.heap.size 3 s (rQ d s t)) ∧ w2.heap.size < wr.heap.size ∧ Below w2.heap.size w2 wr
def BiSt (i0 : Nat) (w4 : World) (vi : Value) (wr : World) : Prop :=
  ∃ i : Nat, vi = .int .i64 i ∧ i ≤ i0 ∧ Below w4.heap.size w4 wr
theorem pwI_bd {d : Int} (D : Dsc d) {f : Fm} (hf : f ∈ clsL d) (n : Nat) : ∀ x ∈ pwI d (clsL d) f n, 0 ≤ x ∧ x < (clsL d).length := by
  intro x hx
  unfold pwI at hx
  obtain ⟨j, _, rfl⟩ := List.mem_map.1 hx
  have := gix_bd (D.pwm hf j)
  omega

set_option maxRecDepth 100000 in
set_option maxHeartbeats 6400000 in
theorem gbasis_any (d : Int) (L : List Fm) (B G : Nat) (w : World) (D : Dsc d) (hL : clsL d = L) (hg : Grp L B G w) :
    Calls Tryz.prog 20 #[.pointer (some ⟨G, 0, none⟩)] w (RetBs d w) := by
  have hl : L.length ≤ 1640 := by rw [← hL]; exact clsL_len d
  have hO := Lib.hid (gorders_any d L B G w D hL hg)
  have hI := (fun (B : Nat) (bo : Option Addr) (co : Nat) (w : World) h => invariants_any d L B bo co w D hL h)
  rw [← fac_nats D] at hI
  have hGn := Lib.hid (fun (J : List Nat) (gJ oJ cJ : Nat) (w : World) (hg : Grp L B G w) (hJ : ∀ j ∈ J, j < L.length) (hJl : J.length ≤ 20) lJ ho => generated_part d L B G J gJ oJ cJ w D hL hg hJ hJl lJ ho)
  have hP := Lib.hid (fun (k : Nat) (hk : k < L.length) => (show ∃ (N : Nat) (X : List Int), ordF d L[k] = N ∧ pwI d L L[k] N = X ∧ 1 ≤ X.length ∧ X.length ≤ 100000 ∧ (∀ x ∈ X, 0 ≤ x ∧ x < L.length) ∧
      (∀ (w : World), Grp L B G w → Calls Tryz.prog 23 #[.pointer (some ⟨G, 0, none⟩), .int .i64 k] w (RetI X w)) ∧ ∀ J n, okB d J n k = (decide ((N : Int) = n) && X.tail.all fun x => !rchB (mulN d L) J x.toNat) from by
    have hm : L[k] ∈ clsL d := by rw [hL]; exact List.getElem_mem hk
    obtain ⟨a, b⟩ := D.ordm hm
    refine ⟨_, _, rfl, rfl, by rw [pwI_len]; exact a.1, by rw [pwI_len]; omega, ?_, fun w hg => gpowers_any d k _ L B G w D hL hk a b hg, fun J n => ?_⟩
    · have := pwI_bd D hm (ordF d L[k])
      rwa [hL] at this
    · subst hL
      exact ok_meets D hk))
  have hSt := Lib.hid (fun t => (show (∀ j ∈ bsN d t, j < L.length) ∧ ∃ i, i < L.length ∧ okB d (bsN d t) ((invL d).getD t 1) i = true ∧ (∀ k, k < i → okB d (bsN d t) ((invL d).getD t 1) k = false) ∧ bsN d (t + 1) = i :: bsN d t from by
    rw [← hL]; exact bsN_step D t))
  have hs20 : (nats (facN d)).length ≤ 20 := by rw [nats_len, facN_len]; exact inv_len20 D
  have hFg : ∀ (t a : Nat), (nats (facN d)).length = a + 1 + t → ∀ (h2 : a < (nats (facN d)).length), (nats (facN d))[a] = (invL d).getD t 1 := fun t a h h2 => fac_get D (by rw [← nats_len]; exact h) h2
  have hfin : Hid (bsN d (nats (facN d)).length = basN d) := Lib.hid (by unfold basN; rw [nats_len, facN_len])
  have hbl := Lib.hid (bsN_len d)
  have HG := Lib.hid hg
  obtain ⟨base, cap, M, Dm, hblk, _, _, _⟩ := hg
  have cG := hblk.cell; have fG := hblk.frozen; have lG := hblk.lt
  have hmk := run_make_row' (P := Tryz.prog) 28 3 (.int .i64 0) 8 Tryz.underlying28 infoInt rfl .i64 .i64 (nats (facN d)).length (by omega) (by omega)
  obtain ⟨R, hR⟩ : ∃ R, nats (facN d) = R := ⟨_, rfl⟩
  rw [hR] at hI hs20 hFg hfin hmk
  have HRe := Lib.hid hR
  have HI := Lib.hid hI
  have HFg := Lib.hid hFg
  clear D hL hblk hI hFg hR
  go_enter Tryz.func20, Tryz.ntmps20
  go_wp2_with (first
    | (go_at_call 36; refine hO.out.mono ?_; rintro e w1 ⟨vo, rfl, hoo, hb1⟩; rw [ordsL_len] at hoo; obtain ⟨bo, co, rfl⟩ := own_shape hoo; have hz1 := hb1.size)
    | (go_at_call 35; refine (HI.out _ _ _ _ hoo).mono ?_; rintro e w2 ⟨vr, rfl, hor, hb2⟩; obtain ⟨br, cr, rfl⟩ := own_shape hor; have hz2 := hb2.size))
  have HO := Lib.hid (own_call hb2 hoo)
  have HR := Lib.hid hor
  have hb12 : Below w.heap.size w w2 := below_via hb1 hb2 hz1
  have HG2 := Lib.hid (HG.out.call hb12)
  clear hoo hor hb1 hb2
  go_loopw [7] (fun vt wr => BaSt d R.length w2 vt wr) (fun vt _ => (intOf vt + 1).toNat)
  case atStart => exact ⟨0, by go_num, Nat.zero_le _, Lib.hid ((World.rowIs_made w2 _ _ _).congr (fun j hj => (rQ_zero hj).symm)), by simp, (by repeat (first | with_reducible exact Below.refl _ _ | with_reducible assumption | with_reducible apply Below.drew | with_reducible apply below_drewN | (with_reducible apply below_setp; (first | omega | (simp <;> omega))) | (with_reducible apply below_allocp; (first | omega | (simp <;> omega))) | (with_reducible refine below_viap (by assumption) ?_ ?_; (first | omega | (simp <;> omega)))))⟩
  case round =>
    obtain ⟨t, rfl, htl, hRw, hlt0, hbel⟩ := hrel
    have hz := hbel.size
    by_cases hlt : t < R.length
    · obtain ⟨a, ha⟩ : ∃ a, R.length = a + 1 + t := ⟨R.length - 1 - t, by omega⟩
      have ea : (R.length : Int) - 1 - t = (a : Nat) := by omega
      have hal : a < R.length := by omega
      have hw1 : wrap64 ((a : Int) + 1) = ((a + 1 : Nat) : Int) := by rw [IntWalk.wrap64_in _ (by omega)]; omega
      have Ha := Lib.hid ha
      have Hb : Hid ((a : Int) - 1 = (R.length : Int) - 1 - ((t + 1 : Nat) : Int)) := Lib.hid (by omega)
      rw [ea]
      clear ea
      obtain ⟨hm, i0, hi0, hy, hn, he⟩ := hSt.out t
      have hjl : (bsN d t).length ≤ 20 := by rw [hbl.out]; omega
      have hg1 := HFg.out t a ha hal
      rw [← hg1] at hy hn
      have Hn := Lib.hid hn
      have Hy := Lib.hid hy
      have hrn := Lib.hid (fun q => (show (if q = a then Value.int .i64 (i0 : Int) else rQ d R.length t q) = rQ d R.length (t + 1) q from by have h := rQ_next (d := d) hlt he q; rwa [show R.length - 1 - t = a by omega] at h))
      have hcell : ∀ q (h : q < (bsN d t).length), wr.cell? ⟨w2.heap.size, a + 1 + q, none⟩ = some (.int .i64 (((bsN d t)[q] : Nat) : Int)) := fun q h => by
        have hq : q < t := by rw [hbl.out] at h; exact h
        rw [hRw.out.cell (show a + 1 + q < R.length by omega)]
        unfold rQ
        rw [if_neg (by omega), show a + 1 + q + t - R.length = q by omega]
        simp [List.getD_eq_getElem?_getD, h]
      have hgn := Lib.hid (fun cJ => hGn.out (bsN d t) w2.heap.size (a + 1) cJ wr (HG2.out.call hbel) hm hjl hlt0 hcell)
      have hgz := Lib.hid (fun (h0 : t = 0) cJ => hGn.out (bsN d t) w2.heap.size 0 cJ wr (HG2.out.call hbel) hm hjl hlt0 (fun q h => by rw [hbl.out] at h; omega))
      rw [hbl.out] at hgn hgz
      clear hn hy hg1 hcell
      rcases Nat.eq_zero_or_pos t with h0 | h0
      case' inl =>
        have hgx : Hid (∀ cJ, Calls Tryz.prog 47 #[.pointer (some ⟨G, 0, none⟩), .slice (some ⟨w2.heap.size, 0, none⟩) 0 cJ] wr (RetBo (rchB (mulN d L) (bsN d t)) L.length wr)) := Lib.hid (fun cJ => by have := hgz.out h0 cJ; rwa [h0] at this ⊢)
        have hd : a + 1 = R.length := by omega
      case' inr =>
        have hgx : Hid (∀ cJ, Calls Tryz.prog 47 #[.pointer (some ⟨G, 0, none⟩), .slice (some ⟨w2.heap.size, a + 1, none⟩) (R.length - (a + 1)) cJ] wr (RetBo (rchB (mulN d L) (bsN d t)) L.length wr)) := Lib.hid (fun cJ => by have := hgn.out cJ; rwa [show R.length - (a + 1) = t by omega])
        have hd : ¬ R.length = a + 1 := by omega
      all_goals
        clear hgn hgz h0 ha
        go_wp2_with (go_at_call 47; refine (hgx.out _).mono ?_; rintro e w4 ⟨O2, rfl, hO2, hR2, hB4⟩; have hz4 := hB4.size; have hG4 := HG2.out.call (below_via hbel hB4 hz); obtain ⟨base4, cap4, M4, Dm4, hblk4, _, _, _⟩ := hG4; have cG4 := hblk4.cell; have fG4 := hblk4.frozen; have lG4 := hblk4.lt)
        clear hd hgx
        have HR2 := Lib.hid hR2
        have lO2 := hR2.lt
        have hb24 : Below w2.heap.size w2 w4 := below_via hbel hB4 hz
        have hz24 := hb24.size
        have HRw := Lib.hid (hRw.out.of_block (hB4.block w2.heap.size hlt0))
        clear hblk4 hR2 hRw hbel hB4 hz cG4 fG4
        obtain ⟨wo, rfl⟩ : ∃ wo : World, wo = wr := ⟨_, rfl⟩
        go_loopw [35] (fun vi wr => BiSt i0 w4 vi wr) (fun vi _ => L.length - (intOf vi).toNat)
        case atStart => exact ⟨0, rfl, Nat.zero_le _, Below.refl _ _⟩
        case round =>
          obtain ⟨i, rfl, hi, hbi⟩ := hrel
          have hzi := hbi.size
          have hil : i < L.length := by omega
          have hb2r : Below w2.heap.size w2 wr := below_via hb24 hbi (by omega)
          obtain ⟨go, rfl, ho2, o1⟩ := own_elemO (own_call hb2r HO.out) hil
          obtain ⟨ge, rfl, ge2, e1⟩ := own_elemI (own_call hb2r HR.out) (k := a) hal
          obtain ⟨N, X, x1, x2, x3, x4, x5, x6, x7⟩ := hP.out i hil
          have hok := x7 (bsN d t) R[a]
          rw [x1] at o1
          have Hok := Lib.hid hok
          have Hx5 := Lib.hid x5
          have Hx6 := Lib.hid x6
          clear x1 x2 x5 x6 x7 hok
          generalize R[a] = F at *
          by_cases hNF : (N : Int) = F
          · subst hNF
            cases hall : X.tail.all fun x => !rchB (mulN d L) (bsN d t) x.toNat with
            | true =>
              have hi0e : i = i0 := by
                rcases Nat.lt_or_ge i i0 with h | h
                · have h1 := Hn.out i h
                  rw [Hok.out, hall] at h1
                  simp at h1
                · omega
              subst hi0e
              clear Hok Hn Hy
              have ho5 := ho2
              go_wp2
              go_region_with (first
                | (go_at_call 23; (refine (Hx6.out _ (HG2.out.call (by exact (by repeat (first | with_reducible exact Below.refl _ _ | with_reducible assumption | with_reducible apply Below.drew | with_reducible apply below_drewN | (with_reducible apply below_setp; (first | omega | (simp <;> omega))) | (with_reducible apply below_allocp; (first | omega | (simp <;> omega))) | (with_reducible refine below_viap (by assumption) ?_ ?_; (first | omega | (simp <;> omega)))))))).mono ?_); rintro e w5 ⟨vp, rfl, hop, hB5⟩; have hZ5 := hB5.size; (try simp at hZ5); have hbr5 : Below wr.heap.size wr w5 := (by repeat (first | with_reducible exact Below.refl _ _ | with_reducible assumption | with_reducible apply Below.drew | with_reducible apply below_drewN | (with_reducible apply below_setp; (first | omega | (simp <;> omega))) | (with_reducible apply below_allocp; (first | omega | (simp <;> omega))) | (with_reducible refine below_viap (by assumption) ?_ ?_; (first | omega | (simp <;> omega))))); have hb45 : Below w4.heap.size w4 w5 := below_via hbi hbr5 hzi; have o5 := (hbr5.cell (p := ⟨go, i, none⟩) ho2).trans o1; have e5 := (hbr5.cell (p := ⟨ge, a, none⟩) ge2).trans e1; have hR5 := HR2.out.of_block (hb45.block O2 lO2); have hRw5 := HRw.out.of_block (hb45.block w2.heap.size (by omega)); have cR5 := hRw5.cell hal; have fR5 := hRw5.frozen a)
                | (go_at_call 48; (refine (meets_any X vp _ O2 L.length (rchB (mulN d L) (bsN d t)) _ x3 x4 hop hR5 Hx5.out).mono ?_); rw [hall]; rintro e w6 ⟨rfl, rfl⟩))
              all_goals
                go_wp2
                go_roundw
                case rel => exact ⟨t + 1, by rw [← Hb.out], hlt, Lib.hid ((hRw5.set a _).congr (fun q _ => hrn.out q)), by simp; omega, (by repeat (first | with_reducible exact Below.refl _ _ | with_reducible assumption | with_reducible apply Below.drew | with_reducible apply below_drewN | (with_reducible apply below_setp; (first | omega | (simp <;> omega))) | (with_reducible apply below_allocp; (first | omega | (simp <;> omega))) | (with_reducible refine below_viap (by assumption) ?_ ?_; (first | omega | (simp <;> omega)))))⟩
                case measure => (first | (simp [intOf]; done) | (simp [intOf]; omega))
            | false =>
              have hlti : i < i0 := by
                rcases Nat.lt_or_ge i i0 with h | h
                · exact h
                · have h1 := Hy.out
                  rw [show i0 = i by omega, Hok.out, hall] at h1
                  simp at h1
              clear Hok Hn Hy
              have ho5 := ho2
              go_wp2
              go_region_with (first
                | (go_at_call 23; (refine (Hx6.out _ (HG2.out.call (by exact (by repeat (first | with_reducible exact Below.refl _ _ | with_reducible assumption | with_reducible apply Below.drew | with_reducible apply below_drewN | (with_reducible apply below_setp; (first | omega | (simp <;> omega))) | (with_reducible apply below_allocp; (first | omega | (simp <;> omega))) | (with_reducible refine below_viap (by assumption) ?_ ?_; (first | omega | (simp <;> omega)))))))).mono ?_); rintro e w5 ⟨vp, rfl, hop, hB5⟩; have hZ5 := hB5.size; (try simp at hZ5); have hbr5 : Below wr.heap.size wr w5 := (by repeat (first | with_reducible exact Below.refl _ _ | with_reducible assumption | with_reducible apply Below.drew | with_reducible apply below_drewN | (with_reducible apply below_setp; (first | omega | (simp <;> omega))) | (with_reducible apply below_allocp; (first | omega | (simp <;> omega))) | (with_reducible refine below_viap (by assumption) ?_ ?_; (first | omega | (simp <;> omega))))); have hb45 : Below w4.heap.size w4 w5 := below_via hbi hbr5 hzi; have o5 := (hbr5.cell (p := ⟨go, i, none⟩) ho2).trans o1; have e5 := (hbr5.cell (p := ⟨ge, a, none⟩) ge2).trans e1; have hR5 := HR2.out.of_block (hb45.block O2 lO2); have hRw5 := HRw.out.of_block (hb45.block w2.heap.size (by omega)); have cR5 := hRw5.cell hal; have fR5 := hRw5.frozen a)
                | (go_at_call 48; (refine (meets_any X vp _ O2 L.length (rchB (mulN d L) (bsN d t)) _ x3 x4 hop hR5 Hx5.out).mono ?_); rw [hall]; rintro e w6 ⟨rfl, rfl⟩))
              all_goals
                go_wp2
                go_roundw
                case rel => exact ⟨i + 1, by go_num, by omega, (by repeat (first | with_reducible exact Below.refl _ _ | with_reducible assumption | with_reducible apply Below.drew | with_reducible apply below_drewN | (with_reducible apply below_setp; (first | omega | (simp <;> omega))) | (with_reducible apply below_allocp; (first | omega | (simp <;> omega))) | (with_reducible refine below_viap (by assumption) ?_ ?_; (first | omega | (simp <;> omega)))))⟩
                case measure => (first | (simp [intOf]; done) | (simp [intOf]; omega))
          · have hlti : i < i0 := by
              rcases Nat.lt_or_ge i i0 with h | h
              · exact h
              · have h1 := Hy.out
                rw [show i0 = i by omega, Hok.out] at h1
                simp at h1
                omega
            have hN2 : ((N : Int) == F) = false := by rw [beq_eq_false_iff_ne]; exact hNF
            clear Hok Hn Hy
            go_wp2
            go_quiet (fail)
            go_wp2
            go_roundw
            case rel => exact ⟨i + 1, by go_num, by omega, (by repeat (first | with_reducible exact Below.refl _ _ | with_reducible assumption | with_reducible apply Below.drew | with_reducible apply below_drewN | (with_reducible apply below_setp; (first | omega | (simp <;> omega))) | (with_reducible apply below_allocp; (first | omega | (simp <;> omega))) | (with_reducible refine below_viap (by assumption) ?_ ?_; (first | omega | (simp <;> omega)))))⟩
            case measure => (first | (simp [intOf]; done) | (simp [intOf]; omega))
    · have e : t = R.length := by omega
      subst e
      have ea : (R.length : Int) - 1 - R.length = -1 := by omega
      rw [ea]
      have hown := rowIs_own (xs := cellsI (nats (basN d))) (B := w.heap.size) hRw.out (by rw [cellsI_len, nats_len, ← hfin.out, hbl.out]) (fun q hq => by
        rw [rQ_full, hfin.out]
        have hq2 : q < (basN d).length := by rw [← hfin.out, hbl.out]; exact hq
        unfold cellsI nats
        simp [List.getD_eq_getElem?_getD, hq2]) (by omega) (by unfold maxLen; omega)
      have Hown := Lib.hid hown
      have Hbl : Hid ((nats (basN d)).length = R.length) := Lib.hid (by rw [nats_len, ← hfin.out, hbl.out])
      clear hfin hown hRw ea
      go_wp2
      go_ret2
      exact ⟨_, _, rfl, by rw [Hbl.out]; exact Hown.out, by rw [HRe.out]; exact own_base (by omega) (own_call hbel HR.out), below_via hb12 hbel (by omega)⟩
end Go.Proofs.YtkkamlhpappebaaGreat
