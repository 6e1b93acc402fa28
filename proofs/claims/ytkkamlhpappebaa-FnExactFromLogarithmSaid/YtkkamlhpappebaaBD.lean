/- Contract: the basis of a class group, of the reference. -/
import Derived.Test.YtkkamlhpappebaaSU
import Derived.Test.YtkkamlhpappebaaSH
import Derived.Test.YtkkamlhpappebaaZY
import Derived.BigQuiet
namespace Go.Proofs.Ytkkamlhpappebaa
open Go.RowKit

def GbSt (d : Int) (s : Nat) (w2 : World) (v vt : Value) (wr : World) : Prop :=
  ∃ t : Nat, vt = .int .i64 ((s : Int) - 1 - t) ∧ t ≤ s ∧ wr.ownsRow w2.heap.size 3 1 v (nats (bsN d t)).length (cellsI (nats (bsN d t))) ∧ Below w2.heap.size w2 wr
def GbIn (i0 : Nat) (v0 : Value) (w4 : World) (v vi : Value) (wr : World) : Prop := ∃ i : Nat, v = v0 ∧ vi = .int .i64 i ∧ i ≤ i0 ∧ Below w4.heap.size w4 wr
def GbCn (p : Nat → Bool) (X : List Nat) (vc vk : Value) : Prop := ∃ k : Nat, vk = .int .i64 k ∧ k ≤ X.length ∧ vc = .int .i64 (((X.take k).filter p).length : Nat)

theorem cnt_take {α : Type} {p : α → Bool} {Y : List α} {k : Nat} (h : k < Y.length) : ((Y.take (k + 1)).filter p).length = ((Y.take k).filter p).length + if p Y[k] then 1 else 0 := by
  rw [List.take_succ_eq_append_getElem h, List.filter_append, List.length_append]
  cases hp : p Y[k] <;> simp [hp]

set_option maxRecDepth 100000 in
set_option maxHeartbeats 6400000 in
theorem grBasis_any (d : Int) (L : List Fm) (B : Nat) (base : Option Addr) (cap : Nat) (w : World) (D : Dsc d) (hL : clsL d = L) (ht : Tab d L B (.slice base L.length cap) w) :
    Calls Try.prog 138 #[.slice base L.length cap] w (RetI (nats (basN d)) w) := by
  obtain ⟨j0, hj, hj0, hj1, hj2⟩ := info_parts infoInt
  have hl : L.length ≤ 1640 := by rw [← hL]; exact clsL_len d
  have hO := Lib.hid (grOrders_any d L B base cap w D hL ht)
  have hI := (fun (B : Nat) (bo : Option Addr) (co : Nat) (w : World) h => grFactors_any d L B bo co w D hL h)
  rw [← fac_nats D] at hI
  have hS := Lib.hid (fun (J : List Nat) (v : Value) (B2 : Nat) (w : World) (ht : Tab d L B (.slice base L.length cap) w) (hJ : ∀ j ∈ J, j < L.length) (hJl : J.length ≤ 20) ho => grSpan_any d L B base cap J v B2 w D hL ht hJ hJl ho)
  have hOk := Lib.hid (fun (k : Nat) (hk : k < L.length) J n => (show okB d J n k = (decide ((ordF d L[k] : Int) = n) && decide (((spanL (mulN d L) [k] L.length).filter (rchB (mulN d L) J)).length = 1)) from by
    have h := ok_cmn D J n k
    have hg : (clsL d).getD k ⟨0, 0, 0⟩ = L[k] := by subst hL; rw [List.getD_eq_getElem?_getD, List.getElem?_eq_getElem hk]; rfl
    rw [hg] at h
    unfold cmnN at h
    rwa [hL] at h))
  have hHas := Lib.hid (fun (J : List Nat) (x : Nat) (hx : x < L.length) => (show hasI (nats (spanL (mulN d L) J L.length)) (x : Int) = rchB (mulN d L) J x from by
    subst hL; exact has_span hx))
  have hSl := Lib.hid (fun (J : List Nat) => (show (spanL (mulN d L) J L.length).length ≤ L.length ∧ ∀ x ∈ spanL (mulN d L) J L.length, x < L.length from
    ⟨by unfold spanL; exact Nat.le_trans (List.length_filter_le _ _) (by simp), fun x hx => List.mem_range.1 (List.mem_filter.1 hx).1⟩))
  have hSt := Lib.hid (fun t => (show (∀ j ∈ bsN d t, j < L.length) ∧ ∃ i, i < L.length ∧ okB d (bsN d t) ((invL d).getD t 1) i = true ∧ (∀ k, k < i → okB d (bsN d t) ((invL d).getD t 1) k = false) ∧ bsN d (t + 1) = i :: bsN d t from by
    rw [← hL]; exact bsN_step D t))
  have hs20 : (nats (facN d)).length ≤ 20 := by rw [nats_len, facN_len]; exact inv_len20 D
  have hFg : ∀ (t a : Nat), (nats (facN d)).length = a + 1 + t → ∀ (h2 : a < (nats (facN d)).length), (nats (facN d))[a] = (invL d).getD t 1 := fun t a h h2 => fac_get D (by rw [← nats_len]; exact h) h2
  have hfin : Hid (bsN d (nats (facN d)).length = basN d) := Lib.hid (by unfold basN; rw [nats_len, facN_len])
  have hbl := Lib.hid (bsN_len d)
  have HT := Lib.hid ht
  generalize mulN d L = mul at *
  generalize nats (facN d) = R at *
  have HI := Lib.hid hI
  have HFg := Lib.hid hFg
  clear D hL ht hI hFg
  go_enter Try.func138, Try.ntmps138
  go_wp2_with (first
    | (go_at_call 144; refine hO.out.mono ?_; rintro e w1 ⟨vo, rfl, hoo, hb1⟩; rw [ordsL_len] at hoo; obtain ⟨bo, co, rfl⟩ := own_shape hoo; have hz1 := hb1.size)
    | (go_at_call 192; refine (HI.out _ _ _ _ hoo).mono ?_; rintro e w2 ⟨vr, rfl, hor, hb2⟩; obtain ⟨br, cr, rfl⟩ := own_shape hor; have hz2 := hb2.size))
  have HO := Lib.hid (own_call hb2 hoo)
  have HR := Lib.hid hor
  have hb12 : Below w.heap.size w w2 := below_via hb1 hb2 hz1
  clear hoo hor hb1 hb2
  go_loopw [5, 6] (fun v vt wr => GbSt d R.length w2 v vt wr) (fun _ vt _ => (intOf vt + 1).toNat)
  case atStart => exact ⟨0, by go_num, Nat.zero_le _, World.ownsRow_nil _ _ _ _, (by repeat (first | with_reducible exact Below.refl _ _ | with_reducible assumption | with_reducible apply Below.drew | with_reducible apply below_drewN | (with_reducible apply below_setp; (first | omega | (simp <;> omega))) | (with_reducible apply below_allocp; (first | omega | (simp <;> omega))) | (with_reducible refine below_viap (by assumption) ?_ ?_; (first | omega | (simp <;> omega)))))⟩
  case round =>
    obtain ⟨t, rfl, htl, hown, hbel⟩ := hrel
    have hz := hbel.size
    by_cases hlt : t < R.length
    · obtain ⟨a, ha⟩ : ∃ a, R.length = a + 1 + t := ⟨R.length - 1 - t, by omega⟩
      have ea : (R.length : Int) - 1 - t = (a : Nat) := by omega
      have hal : a < R.length := by omega
      have Ha := Lib.hid ha
      have Hb : Hid ((a : Int) - 1 = (R.length : Int) - 1 - ((t + 1 : Nat) : Int)) := Lib.hid (by omega)
      rw [ea]
      clear ea
      obtain ⟨hm, i0, hi0, hy, hn, he⟩ := hSt.out t
      have hjl : (bsN d t).length ≤ 20 := by rw [hbl.out]; omega
      have hg1 := HFg.out t a ha hal
      clear ha
      rw [← hg1] at hy hn
      have Hn := Lib.hid hn
      have Hy := Lib.hid hy
      have He := Lib.hid he
      have hbw : Below w.heap.size w wr := below_via hb12 hbel (by omega)
      have hS1 := Lib.hid (hS.out (bsN d t) _ _ wr (HT.out.call hbw) hm hjl hown)
      obtain ⟨g1, g2⟩ := hSl.out (bsN d t)
      have hh := Lib.hid (fun x hx => hHas.out (bsN d t) x hx)
      have hnl : (nats (bsN d t)).length ≤ 20 := by rw [nats_len]; exact hjl
      have hnx : (nats (spanL mul (bsN d t) L.length)).length ≤ L.length := by rw [nats_len]; exact g1
      generalize bsN d t = J at *
      clear hn hy he hg1
      generalize spanL mul J L.length = X at *
      go_wp2_with (go_at_call 193; refine hS1.out.mono ?_; rintro e w4 ⟨vx, rfl, hox, hb4⟩; have hz4 := hb4.size)
      have HX := Lib.hid hox
      obtain ⟨bj, cj, rfl⟩ := own_shape hown
      have Hown4 := Lib.hid (own_call hb4 hown)
      have hb24 : Below w2.heap.size w2 w4 := below_via hbel hb4 hz
      have hz24 := hb24.size
      clear hox hown hbel hb4 hbw hz
      obtain ⟨wo, rfl⟩ : ∃ wo : World, wo = wr := ⟨_, rfl⟩
      go_loopw [5, 29] (fun v vi wr => GbIn i0 (.slice bj (nats J).length cj) w4 v vi wr) (fun _ vi _ => L.length - (intOf vi).toNat)
      case atStart => exact ⟨0, rfl, rfl, Nat.zero_le _, Below.refl _ _⟩
      case round =>
        obtain ⟨i, rfl, rfl, hi, hbi⟩ := hrel
        have hzi := hbi.size
        have hil : i < L.length := by omega
        have hb2r : Below w2.heap.size w2 wr := below_via hb24 hbi (by omega)
        have hbwr : Below w.heap.size w wr := below_via hb12 hb2r (by omega)
        have hone : (wr.alloc (.cells #[.int .i64 (i : Int)] 3)).ownsRow wr.heap.size 3 1 (.slice (some ⟨wr.heap.size, 0, none⟩) 1 1) (nats [i]).length (cellsI (nats [i])) := own_one (Nat.le_refl _)
        have hS2 := Lib.hid (hS.out [i] _ _ _ (HT.out.call (hbwr.alloc (by omega) _)) (by intro x hx; simp only [List.mem_singleton] at hx; subst hx; exact hil) (by simp) hone)
        obtain ⟨k1, k2⟩ := hSl.out [i]
        have hok := hOk.out i hil J R[a]
        obtain ⟨N, hN⟩ : ∃ N, ordF d L[i] = N := ⟨_, rfl⟩
        have hny := Lib.hid (nats_len (spanL mul [i] L.length))
        rw [hN] at hok
        generalize spanL mul [i] L.length = Y at *
        have HN := Lib.hid hN
        have Hk2 := Lib.hid k2
        clear hone k2 hN
        go_wp2_with (go_at_call 193; refine hS2.out.mono ?_; rintro e w5 ⟨vy, rfl, hoy, hb5⟩; have hz5 := hb5.size; simp at hz5; rw [hny.out] at hoy; obtain ⟨byy, cy, rfl⟩ := own_shape hoy)
        have hb45 : Below w4.heap.size w4 w5 := below_via (hbi.alloc (by omega) _) hb5 (by simp; omega)
        have hb25 : Below w2.heap.size w2 w5 := below_via hb24 hb45 (by omega)
        have HX5 := Lib.hid (own_call hb45 HX.out)
        have HY5 := Lib.hid hoy
        clear hoy hb5
        go_loop [10, 38] (fun vc vk => GbCn (rchB mul J) Y vc vk) (fun _ vk => Y.length - (intOf vk).toNat)
        case atStart => exact ⟨0, rfl, Nat.zero_le _, rfl⟩
        case round =>
          obtain ⟨k, rfl, hk, rfl⟩ := hrel
          by_cases hkl : k < Y.length
          · obtain ⟨gy, rfl, gy2, y1⟩ := own_elemI (L := nats Y) (by rw [nats_len]; exact HY5.out) (k := k) (by rw [nats_len]; exact hkl)
            rw [(nats_get Y hkl).2] at y1
            have hh1 := hh.out Y[k] (Hk2.out _ (List.getElem_mem hkl))
            have hct := cnt_take (p := rchB mul J) hkl
            have hle : ((Y.take k).filter (rchB mul J)).length ≤ 1640 := Nat.le_trans (List.length_filter_le _ _) (by rw [List.length_take]; omega)
            generalize Y[k] = y at *
            generalize ((Y.take k).filter (rchB mul J)).length = C at *
            cases hr : rchB mul J y with
            | true =>
              rw [hr] at hh1 hct
              have Hct := Lib.hid hct
              clear hct
              go_wp2_with (go_at_call 194; refine (l1Has_any _ _ (nats X) y _ (by omega) HX5.out).mono ?_; rw [hh1]; rintro e v1 ⟨rfl, rfl⟩)
              go_round
              case rel => exact ⟨k + 1, by go_num, hkl, by rw [Hct.out]; simp⟩
              case measure => (first | (simp [intOf]; done) | (simp [intOf]; omega))
            | false =>
              rw [hr] at hh1 hct
              have Hct := Lib.hid hct
              clear hct
              go_wp2_with (go_at_call 194; refine (l1Has_any _ _ (nats X) y _ (by omega) HX5.out).mono ?_; rw [hh1]; rintro e v1 ⟨rfl, rfl⟩)
              go_round
              case rel => exact ⟨k + 1, by go_num, hkl, by rw [Hct.out]; simp⟩
              case measure => (first | (simp [intOf]; done) | (simp [intOf]; omega))
          · have e : k = Y.length := by omega
            subst e
            rw [List.take_length]
            obtain ⟨go, rfl, ho2, o1⟩ := own_elemO (own_call hb25 HO.out) hil
            obtain ⟨ge, rfl, ge2, e1⟩ := own_elemI (own_call hb25 HR.out) (k := a) hal
            rw [HN.out] at o1
            have Hok := Lib.hid hok
            have hCl : (Y.filter (rchB mul J)).length ≤ 1640 := Nat.le_trans (List.length_filter_le _ _) (by omega)
            generalize R[a] = F at *
            generalize (Y.filter (rchB mul J)).length = C at *
            clear hok
            by_cases hNF : (N : Int) = F
            · subst hNF
              by_cases hC : C = 1
              · subst hC
                have hi0e : i = i0 := by
                  rcases Nat.lt_or_ge i i0 with h | h
                  · have h1 := Hn.out i h
                    rw [Hok.out] at h1
                    simp at h1
                  · omega
                subst hi0e
                have enx := Lib.hid (show (nats (i :: J)).length = 1 + (nats J).length by rw [nats_len, nats_len, List.length_cons]; omega)
                clear Hok Hn Hy
                go_wp2
                go_quiet (fail)
                have hS9 : ((w5.drewN nq).alloc (.cells #[.int .i64 (i : Int)] 3)).ownsRow w2.heap.size 3 1 (.slice (some ⟨w5.heap.size, 0, none⟩) 1 1) 1 [.int .i64 (i : Int)] := by
                  have h := own_one (w := w5.drewN nq) (e := 3) (u := .int .i64 (i : Int)) (B := w2.heap.size) (by simp; omega)
                  simp at h
                  exact h
                go_wp2_with (at_builtin; refine wpList_append_any _ rfl (.tmp 62) (.tmp 63) _ rfl w2.heap.size 3 j0 _ 1 8 Try.underlying30 hj hj0 hj1 hj2 rfl (by omega) (.slice (some ⟨w5.heap.size, 0, none⟩) 1 1) 1 [.int .i64 (i : Int)] rfl hS9 _ bj (nats J).length cj (cellsI (nats J)) rfl (Reads.of_own (own_alloc (own_drewN (own_call hb45 Hown4.out)))) (cellsI_one _) (by unfold maxLen; omega) (by omega) (by simp; omega) ?_; intro x9 w6 hon9 hg9 hloc9)
                have hb9 : Below w2.heap.size w2 w6 := below_grown (own_ge hS9) (by simp; omega) hg9 (by repeat (first | with_reducible exact Below.refl _ _ | with_reducible assumption | with_reducible apply Below.drew | with_reducible apply below_drewN | (with_reducible apply below_setp; (first | omega | (simp <;> omega))) | (with_reducible apply below_allocp; (first | omega | (simp <;> omega))) | (with_reducible refine below_viap (by assumption) ?_ ?_; (first | omega | (simp <;> omega)))))
                have hon10 : w6.ownsRow w2.heap.size 3 1 x9 (nats (i :: J)).length (cellsI (nats (i :: J))) := by rw [enx.out]; exact hon9
                clear hon9 hg9 hS9
                go_wp2
                go_roundw
                case rel => exact ⟨t + 1, by rw [← Hb.out], hlt, by rw [He.out]; exact hon10, hb9⟩
                case measure => (first | (simp [intOf]; done) | (simp [intOf]; omega))
              · have hlti : i < i0 := by
                  rcases Nat.lt_or_ge i i0 with h | h
                  · exact h
                  · have h1 := Hy.out
                    rw [show i0 = i by omega, Hok.out] at h1
                    simp at h1
                    omega
                have hC2 : ((C : Int) == 1) = false := by rw [beq_eq_false_iff_ne]; omega
                clear Hok Hn Hy
                go_wp2
                go_quiet (fail)
                go_wp2
                go_roundw
                case rel => exact ⟨i + 1, rfl, by go_num, by omega, (by repeat (first | with_reducible exact Below.refl _ _ | with_reducible assumption | with_reducible apply Below.drew | with_reducible apply below_drewN | (with_reducible apply below_setp; (first | omega | (simp <;> omega))) | (with_reducible apply below_allocp; (first | omega | (simp <;> omega))) | (with_reducible refine below_viap (by assumption) ?_ ?_; (first | omega | (simp <;> omega)))))⟩
                case measure => (first | (simp [intOf]; done) | (simp [intOf]; omega))
            · have hlti : i < i0 := by
                rcases Nat.lt_or_ge i i0 with h | h
                · exact h
                · have h1 := Hy.out
                  rw [show i0 = i by omega, Hok.out] at h1
                  simp at h1
                  omega
              have hN2 : ((N : Int) == F) = false := by rw [beq_eq_false_iff_ne]; exact hNF
              clear Hok Hn Hy
              go_wp2
              go_quiet (fail)
              go_wp2
              go_roundw
              case rel => exact ⟨i + 1, rfl, by go_num, by omega, (by repeat (first | with_reducible exact Below.refl _ _ | with_reducible assumption | with_reducible apply Below.drew | with_reducible apply below_drewN | (with_reducible apply below_setp; (first | omega | (simp <;> omega))) | (with_reducible apply below_allocp; (first | omega | (simp <;> omega))) | (with_reducible refine below_viap (by assumption) ?_ ?_; (first | omega | (simp <;> omega)))))⟩
              case measure => (first | (simp [intOf]; done) | (simp [intOf]; omega))
    · have e : t = R.length := by omega
      subst e
      rw [hfin.out] at hown
      have ea : (R.length : Int) - 1 - R.length = -1 := by omega
      rw [ea]
      clear hfin
      go_wp2
      go_ret
      exact ⟨_, rfl, own_base (by omega) hown, below_via hb12 hbel (by omega)⟩
end Go.Proofs.Ytkkamlhpappebaa
