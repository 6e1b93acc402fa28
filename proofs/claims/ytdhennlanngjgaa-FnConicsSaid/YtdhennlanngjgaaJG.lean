/- Contract: the place that forbids, of the program. -/
import Derived.Test.YtdhennlanngjgaaJF
namespace Go.Proofs.Ytdhennlanngjgaa
open Go.RowKit

def rtAll (a b c : Int) (L : List Int) (k : Nat) : Prop := ∀ j (h : j < L.length), j < k → rtB L[j] (kkE a b c L[j]) = true
theorem plE_none {a b c : Int} {L : List Int} {k : Nat} (hk : L.length ≤ k) (h : rtAll a b c L k) : plE a b c L = -1 := by
  unfold plE
  rw [List.find?_eq_none.2]
  · rfl
  · intro x hx
    obtain ⟨j, hj, rfl⟩ := List.getElem_of_mem hx
    rw [h j hj (by omega)]
    simp
theorem plE_hit {a b c : Int} {L : List Int} {k : Nat} (hk : k < L.length) (h : rtAll a b c L k) (hn : rtB L[k] (kkE a b c L[k]) = false) : plE a b c L = L[k] := by
  unfold plE
  rw [List.find?_eq_some_iff_getElem.2 ⟨by rw [hn]; rfl, k, hk, rfl, fun j hj => by rw [h j (by omega) hj]; decide⟩]
  rfl
theorem rtAll_next {a b c : Int} {L : List Int} {k : Nat} (hk : k < L.length) (h : rtAll a b c L k) (hy : rtB L[k] (kkE a b c L[k]) = true) : rtAll a b c L (k + 1) := fun j hj hjk => by
  by_cases e : j = k
  · subst e; exact hy
  · exact h j hj (by omega)
/-- The place that forbids, of a normal triple; -1 if there is none. -/
def plG (a b c : Int) : Int := if a.sign = b.sign ∧ a.sign = c.sign then 0 else plE a b c (odP (prT a b c))
/-- A prime that divides the product divides just one. -/
def OneD (a b c : Int) : Prop := ∀ q, PrI q → q ∣ a * b * c → (q ∣ a ∧ ¬ q ∣ b ∧ ¬ q ∣ c) ∨ (¬ q ∣ a ∧ q ∣ b ∧ ¬ q ∣ c) ∨ (¬ q ∣ a ∧ ¬ q ∣ b ∧ q ∣ c)
theorem tmod_dvd {a q : Int} (h : q ∣ a) : (a.tmod q == 0) = true := by rw [beq_iff_eq]; exact Int.tmod_eq_zero_of_dvd h
theorem tmod_ndvd {a q : Int} (h : ¬ q ∣ a) : (a.tmod q == 0) = false := by rw [beq_eq_false_iff_ne]; exact fun e => h (Int.dvd_of_tmod_eq_zero e)
theorem tmod_dvd2 {a q : Int} (h : q ∣ a) : (a.tmod q != 0) = false := by rw [bne, tmod_dvd h]; rfl
theorem tmod_ndvd2 {a q : Int} (h : ¬ q ∣ a) : (a.tmod q != 0) = true := by rw [bne, tmod_ndvd h]; rfl
theorem kk1 {a b c q : Int} (h : q ∣ a) : kkE a b c q = b * c := by unfold kkE; rw [if_pos (Int.emod_eq_zero_of_dvd h)]
theorem kk2 {a b c q : Int} (h1 : ¬ q ∣ a) (h : q ∣ b) : kkE a b c q = a * c := by unfold kkE; rw [if_neg (fun e => h1 (Int.dvd_of_emod_eq_zero e)), if_pos (Int.emod_eq_zero_of_dvd h)]
theorem kk3 {a b c q : Int} (h1 : ¬ q ∣ a) (h : ¬ q ∣ b) : kkE a b c q = a * b := by unfold kkE; rw [if_neg (fun e => h1 (Int.dvd_of_emod_eq_zero e)), if_neg (fun e => h (Int.dvd_of_emod_eq_zero e))]
/-- What comes back: the place, and whether there is one. -/
def plR (x : Int) : Value := .tuple #[.int .i64 (if x < 0 then 0 else x), .bool (decide (0 ≤ x))]
theorem plR_no : plR (-1) = .tuple #[.int .i64 0, .bool false] := rfl
theorem plR_yes {x : Int} (h : 0 ≤ x) : plR x = .tuple #[.int .i64 x, .bool true] := by
  unfold plR; rw [if_neg (by omega), decide_eq_true h]

set_option maxRecDepth 100000 in
set_option maxHeartbeats 12800000 in
theorem forb_any (a b c : Int) (w : World) (h : TrI a b c) (h1 : OneD a b c) :
    Calls Try.prog 19 #[.agg #[.int .i64 a, .int .i64 b, .int .i64 c]] w fun e w' => e = .returned (plR (plG a b c)) ∧ Below w.heap.size w w' := by
  have hS := Lib.hid (fun x w => sign_any x w)
  have hLs := Lib.hid (fun w => tlist_any a b c w)
  have hPo := Lib.hid (fun C w (hb : Blk w C 63 #[.int .i64 a, .int .i64 b, .int .i64 c]) => placesOf_any C 3 3 [a, b, c] w hb.lt rfl (by omega) (fun j hj => by
    rw [hb.cell]
    match j, hj with
    | 0, _ => rfl
    | 1, _ => rfl
    | 2, _ => rfl) (by
    obtain ⟨a0, a1, b0, b1, c0, c1⟩ := h
    intro x hx
    simp only [List.mem_cons, List.not_mem_nil, or_false] at hx
    rcases hx with rfl | rfl | rfl <;> omega))
  have hPl := Lib.hid (fun (K : List Int) (hK : K.Pairwise (· < ·)) (hm : ∀ x, x ∈ K ↔ (x = 0 ∨ x = 2) ∨ ∃ n ∈ [a, b, c], x ∈ prims (n.natAbs : Int)) => h.places hK (fun x => by rw [hm x]; simp))
  obtain ⟨⟨ab1, ab2⟩, ⟨bc1, bc2⟩, ⟨ac1, ac2⟩, _⟩ := h.pb
  obtain ⟨L, hL⟩ : ∃ L, odP (prT a b c) = L := ⟨_, rfl⟩
  rw [hL] at hPl
  have hLl : L.length ≤ 101 := by
    rw [← hL]
    have h1 := h.len
    have h2 := List.length_filter_le (fun p : Int => decide (2 < p)) (prT a b c)
    unfold odP
    omega
  have hTp := Lib.hid (fun x (hx : x ∈ L) => (by
    rw [← hL] at hx
    have h3 := (List.mem_filter.1 hx).2
    have hx := (List.mem_filter.1 hx).1
    have h4 := ((h.pr x).1 hx)
    have h2 := Int.le_of_dvd (by have := h.prod.1; omega) (Int.dvd_natAbs.2 h4.2)
    have := h.prod.2
    exact ⟨of_decide_eq_true h3, by omega, h1 x h4.1 h4.2⟩ : 2 < x ∧ x ≤ 64000000 ∧ ((x ∣ a ∧ ¬ x ∣ b ∧ ¬ x ∣ c) ∨ (¬ x ∣ a ∧ x ∣ b ∧ ¬ x ∣ c) ∨ (¬ x ∣ a ∧ ¬ x ∣ b ∧ x ∣ c))))
  have hx0 : ∀ w : World, (Instr.index 63 (.agg #[.int .i64 a, .int .i64 b, .int .i64 c]) (.int .i64 0)).run Try.prog w = .ok (.int .i64 a) w := fun _ => by kernel_rfl
  have hx1 : ∀ w : World, (Instr.index 63 (.agg #[.int .i64 a, .int .i64 b, .int .i64 c]) (.int .i64 1)).run Try.prog w = .ok (.int .i64 b) w := fun _ => by kernel_rfl
  have hx2 : ∀ w : World, (Instr.index 63 (.agg #[.int .i64 a, .int .i64 b, .int .i64 c]) (.int .i64 2)).run Try.prog w = .ok (.int .i64 c) w := fun _ => by kernel_rfl
  have hG0 : Hid (a.sign = b.sign ∧ a.sign = c.sign → plR (plG a b c) = .tuple #[.int .i64 0, .bool true]) := Lib.hid (fun e => by unfold plG; rw [if_pos e]; rfl)
  have hG1 : Hid (¬ (a.sign = b.sign ∧ a.sign = c.sign) → plR (plG a b c) = plR (plE a b c L)) := Lib.hid (fun e => by unfold plG; rw [if_neg e, hL])
  obtain ⟨a0, ⟨a1, a2⟩, b0, ⟨b1, b2⟩, c0, c1, c2⟩ := h
  clear hL h1
  by_cases e0 : a.sign = b.sign ∧ a.sign = c.sign
  · have hR := Lib.hid (hG0.out e0)
    have k1 : (a.sign == b.sign) = true := by rw [beq_iff_eq]; exact e0.1
    have k2 : (a.sign == c.sign) = true := by rw [beq_iff_eq]; exact e0.2
    clear e0 hG0 hG1
    go_enter Try.func19, Try.ntmps19
    go_wp2
    refine wp_region_calm 16 (Below (w.heap.size + 1) _) (by kernel_rfl) (by kernel_rfl) ((Below.refl _ _).drew) ?_
    simp only [List.take_succ_cons, List.take_zero, List.drop_succ_cons, List.drop_zero]
    repeat (first | (apply wpCalm_go; go_simp; (intro w' hw' hcc hff; go_simp; first | exact rfl | (refine (hS.out _ _).mono ?_; rintro e w1 ⟨rfl, hb⟩; exact ⟨rfl, calm_call_same hw' hb⟩)); (intro K hK; go_simp; refine hK _ ?_; clear hK K)) | (apply wpCalm_skip; go_simp; (try (focus (simp [undef]; done))); (intro K hK; go_simp; refine hK _ ?_; clear hK K)))
    refine wpCalm_nil ?_
    intro w1 hw1
    have hcc := (calm_cells hw1).1
    have hff := (calm_cells hw1).2
    have hss := calm_size hw1
    have hsz := hw1.size
    (try simp at hsz)
    go_wp2
    exact bodyPost_ret (v := .tuple #[.int .i64 0, .bool true]) (by simp [results, Try.results19, go_sem, *]) rfl ⟨by rw [hR.out], (by repeat (first | with_reducible exact Below.refl _ _ | with_reducible assumption | with_reducible apply Below.drew | with_reducible apply below_drewN | (with_reducible apply below_setp; (first | omega | (simp <;> omega))) | (with_reducible apply below_allocp; (first | omega | (simp <;> omega))) | (with_reducible refine below_viap (by assumption) ?_ ?_; (first | omega | (simp <;> omega)))))⟩
  · have hR := Lib.hid (hG1.out e0)
    have hk : ((a.sign == b.sign) && (a.sign == c.sign)) = false := by
      rw [← Bool.not_eq_true, Bool.and_eq_true, beq_iff_eq, beq_iff_eq]; exact e0
    clear e0 hG0 hG1
    obtain ⟨t1, k1⟩ : ∃ t, (a.sign == b.sign) = t := ⟨_, rfl⟩
    obtain ⟨t2, k2⟩ : ∃ t, (a.sign == c.sign) = t := ⟨_, rfl⟩
    rw [k1, k2] at hk
    cases t1 <;> cases t2
    case neg.true.true => cases hk
    · clear hk
      go_enter Try.func19, Try.ntmps19
      go_wp2
      refine wp_region_calm 16 (Below (w.heap.size + 1) _) (by kernel_rfl) (by kernel_rfl) ((Below.refl _ _).drew) ?_
      simp only [List.take_succ_cons, List.take_zero, List.drop_succ_cons, List.drop_zero]
      repeat (first | (apply wpCalm_go; go_simp; (intro w' hw' hcc hff; go_simp; first | exact rfl | (refine (hS.out _ _).mono ?_; rintro e w1 ⟨rfl, hb⟩; exact ⟨rfl, calm_call_same hw' hb⟩)); (intro K hK; go_simp; refine hK _ ?_; clear hK K)) | (apply wpCalm_skip; go_simp; (try (focus (simp [undef]; done))); (intro K hK; go_simp; refine hK _ ?_; clear hK K)))
      refine wpCalm_nil ?_
      intro w1 hw1
      have hcc := (calm_cells hw1).1
      have hff := (calm_cells hw1).2
      have hss := calm_size hw1
      have hsz := hw1.size
      (try simp at hsz)
      have hA1 : Blk w1 w.heap.size 25 #[.int .i64 a, .int .i64 b, .int .i64 c] := Blk.below (by (repeat (first | with_reducible assumption | (with_reducible apply Blk.new_at; (first | rfl | (simp; done))) | with_reducible apply Blk.store3 | with_reducible apply Blk.store4 | (with_reducible apply Blk.farp; (first | omega | (simp <;> omega))) | with_reducible apply Blk.allocp | with_reducible apply Blk.drew | with_reducible apply Blk.drewN))) hw1 (by omega)
      have hb1 : Below w.heap.size w w1 := below_via (show Below w.heap.size w _ from (by repeat (first | with_reducible exact Below.refl _ _ | with_reducible assumption | with_reducible apply Below.drew | with_reducible apply below_drewN | (with_reducible apply below_setp; (first | omega | (simp <;> omega))) | (with_reducible apply below_allocp; (first | omega | (simp <;> omega))) | (with_reducible refine below_viap (by assumption) ?_ ?_; (first | omega | (simp <;> omega)))))) hw1 (by omega)
      have cA1 := hA1.cell; have fA1 := hA1.frozen; have lA1 := hA1.lt
      clear hcc hff hss hw1 k1 k2
      go_wp2_with (first
        | (go_at_call 41; (with_reducible refine (hLs.out _).mono ?_); rintro e v2 ⟨rfl, hB2⟩; have hZ2 := hB2.size; (try simp at hZ2))
        | (go_at_call 25; refine (hPo.out _ _ (by (repeat (first | with_reducible assumption | (with_reducible apply Blk.new_at; (first | rfl | (simp; done))) | with_reducible apply Blk.store3 | with_reducible apply Blk.store4 | (with_reducible apply Blk.farp; (first | omega | (simp <;> omega))) | with_reducible apply Blk.allocp | with_reducible apply Blk.drew | with_reducible apply Blk.drewN)))).mono ?_; rintro e w3 ⟨K, hK1, hK2, vk, rfl, hok, hB3⟩; have hZ3 := hB3.size; (try simp at hZ3); obtain rfl := hPl.out K hK1 hK2; (rcases hok.2 with ⟨_, hn⟩ | ⟨g, cap, cur, rfl, hbg, hg, hnc, hcm, hcs, htake⟩; (exact absurd hn (by simp))); (by_cases hc2 : cap = 2)))
      · have hl0 : L.length = 0 := by simp at hnc; omega
        obtain rfl : L = [] := List.eq_nil_of_length_eq_zero hl0
        have hb3 : Below w.heap.size w w3 := (by repeat (first | with_reducible exact Below.refl _ _ | with_reducible assumption | with_reducible apply Below.drew | with_reducible apply below_drewN | (with_reducible apply below_setp; (first | omega | (simp <;> omega))) | (with_reducible apply below_allocp; (first | omega | (simp <;> omega))) | (with_reducible refine below_viap (by assumption) ?_ ?_; (first | omega | (simp <;> omega)))))
        refine wp_loop_rounds 1 ?_
        rw [rounds_succ]
        go_wp2
        exact bodyPost_ret (v := .tuple #[.int .i64 0, .bool false]) (by simp [results, Try.results19, go_sem, *]) rfl ⟨by rw [hR.out]; rfl, (by repeat (first | with_reducible exact Below.refl _ _ | with_reducible assumption | with_reducible apply Below.drew | with_reducible apply below_drewN | (with_reducible apply below_setp; (first | omega | (simp <;> omega))) | (with_reducible apply below_allocp; (first | omega | (simp <;> omega))) | (with_reducible refine below_viap (by assumption) ?_ ?_; (first | omega | (simp <;> omega)))))⟩
      · have hL3 : Blk w3 v2.heap.size 63 #[.int .i64 a, .int .i64 b, .int .i64 c] := Blk.call (by (repeat (first | with_reducible assumption | (with_reducible apply Blk.new_at; (first | rfl | (simp; done))) | with_reducible apply Blk.store3 | with_reducible apply Blk.store4 | (with_reducible apply Blk.farp; (first | omega | (simp <;> omega))) | with_reducible apply Blk.allocp | with_reducible apply Blk.drew | with_reducible apply Blk.drewN))) hB3
        have hG3 : Blk w3 g 3 cur := hg
        have hb3 : Below w.heap.size w w3 := (by repeat (first | with_reducible exact Below.refl _ _ | with_reducible assumption | with_reducible apply Below.drew | with_reducible apply below_drewN | (with_reducible apply below_setp; (first | omega | (simp <;> omega))) | (with_reducible apply below_allocp; (first | omega | (simp <;> omega))) | (with_reducible refine below_viap (by assumption) ?_ ?_; (first | omega | (simp <;> omega)))))
        have HG := Lib.hid (fun (wr : World) (hb : Blk wr g 3 cur) (k : Nat) (hk : k < L.length) => (cells_get htake hb (j := k + 2) (by simp; omega) : wr.cell? ⟨g, k + 2, none⟩ = some (.int .i64 L[k])))
        obtain ⟨C, hC⟩ : ∃ C, v2.heap.size = C := ⟨_, rfl⟩
        rw [hC] at hL3 ⊢
        clear hok hbg hg hnc hcm hcs htake hK1 hK2 hB3 hZ3 hB2 hZ2 hA1 cA1 fA1 lA1 hb1 hC hS hLs hPo hPl hsz
        obtain ⟨m, hm⟩ : ∃ m, L.length = m := ⟨_, rfl⟩
        have Hm := Lib.hid hm
        rw [hm] at hLl ⊢
        clear hm
        go_loopw [34] (fun vi wr => ∃ k : Nat, vi = .int .i64 k ∧ k ≤ m ∧ Hid (rtAll a b c L k) ∧ Hid (Blk wr C 63 #[.int .i64 a, .int .i64 b, .int .i64 c]) ∧ Hid (Blk wr g 3 cur) ∧ Below w.heap.size w wr) (fun vi _ => m - (intOf vi).toNat)
        case atStart => exact ⟨0, rfl, Nat.zero_le _, Lib.hid (fun j hj h0 => absurd h0 (Nat.not_lt_zero _)), Lib.hid hL3, Lib.hid hG3, hb3⟩
        case round =>
          clear hL3 hG3 hb3
          obtain ⟨k, rfl, hk, hall, hL1, hG1, hbel⟩ := hrel
          have hz := hbel.size
          by_cases hlt : k < m
          · have hkT : k < L.length := by rw [Hm.out]; exact hlt
            have e1 := HG.out wr hG1.out k hkT
            have e2 : wr.cell? ⟨g, 2 + k, none⟩ = some (.int .i64 L[k]) := by rw [Nat.add_comm]; exact e1
            have f1 := hG1.out.frozen (k + 2)
            have f2 := hG1.out.frozen (2 + k)
            obtain ⟨p2, p3, h1⟩ := hTp.out _ (List.getElem_mem hkT)
            have hhit := Lib.hid (fun hn => plE_hit hkT hall.out hn)
            have hnxt := Lib.hid (fun hn => rtAll_next hkT hall.out hn)
            generalize L[k] = p at *
            have hp0 : ¬ p = 0 := by omega
            have hp1 : (p == 0) = false := by rw [beq_eq_false_iff_ne]; exact hp0
            have cL := hL1.out.cell; have fL := hL1.out.frozen; have lL := hL1.out.lt
            rcases h1 with ⟨d1, d2, d3⟩ | ⟨d1, d2, d3⟩ | ⟨d1, d2, d3⟩
            · rw [show kkE a b c p = b * c from kk1 d1] at hhit hnxt
              have hLr := Lib.hid (fun w => leastRoot_any p (b * c) w (by omega) (by omega) (by omega))
              have t1 := tmod_dvd2 d1
              have t2 := tmod_ndvd2 d2
              have t3 := tmod_ndvd2 d3
              clear d1 d2 d3
              cases hrt : rtB p (b * c)
              all_goals
                rw [hrt] at hLr
                have Hrt := Lib.hid hrt
                clear hrt
                go_wp2
                refine wp_loop_rounds 4 ?_
                rw [rounds_succ]
                go_wp2
                rw [rounds_succ]
                go_wp2
                rw [rounds_succ]
                go_wp2
                rw [rounds_succ]
                go_wp2_with (go_at_call 44; refine (hLr.out _).mono ?_; rintro e v5 ⟨⟨r, rfl⟩, rfl⟩)
              · exact bodyPost_ret (v := .tuple #[.int .i64 p, .bool true]) (by simp [results, Try.results19, go_sem, *]) rfl ⟨by rw [hR.out, hhit.out Hrt.out, plR_yes (by omega)], hbel⟩
              · go_roundw
                case rel => exact ⟨k + 1, by go_num, hlt, Lib.hid (hnxt.out Hrt.out), hL1, hG1, hbel⟩
                case measure => simp [intOf]; omega
            · rw [show kkE a b c p = a * c from kk2 d1 d2] at hhit hnxt
              have hLr := Lib.hid (fun w => leastRoot_any p (a * c) w (by omega) (by omega) (by omega))
              have t1 := tmod_ndvd2 d1
              have t2 := tmod_dvd2 d2
              have t3 := tmod_ndvd2 d3
              clear d1 d2 d3
              cases hrt : rtB p (a * c)
              all_goals
                rw [hrt] at hLr
                have Hrt := Lib.hid hrt
                clear hrt
                go_wp2
                refine wp_loop_rounds 4 ?_
                rw [rounds_succ]
                go_wp2
                rw [rounds_succ]
                go_wp2
                rw [rounds_succ]
                go_wp2
                rw [rounds_succ]
                go_wp2_with (go_at_call 44; refine (hLr.out _).mono ?_; rintro e v5 ⟨⟨r, rfl⟩, rfl⟩)
              · exact bodyPost_ret (v := .tuple #[.int .i64 p, .bool true]) (by simp [results, Try.results19, go_sem, *]) rfl ⟨by rw [hR.out, hhit.out Hrt.out, plR_yes (by omega)], hbel⟩
              · go_roundw
                case rel => exact ⟨k + 1, by go_num, hlt, Lib.hid (hnxt.out Hrt.out), hL1, hG1, hbel⟩
                case measure => simp [intOf]; omega
            · rw [show kkE a b c p = a * b from kk3 d1 d2] at hhit hnxt
              have hLr := Lib.hid (fun w => leastRoot_any p (a * b) w (by omega) (by omega) (by omega))
              have t1 := tmod_ndvd2 d1
              have t2 := tmod_ndvd2 d2
              have t3 := tmod_dvd2 d3
              clear d1 d2 d3
              cases hrt : rtB p (a * b)
              all_goals
                rw [hrt] at hLr
                have Hrt := Lib.hid hrt
                clear hrt
                go_wp2
                refine wp_loop_rounds 4 ?_
                rw [rounds_succ]
                go_wp2
                rw [rounds_succ]
                go_wp2
                rw [rounds_succ]
                go_wp2
                rw [rounds_succ]
                go_wp2_with (go_at_call 44; refine (hLr.out _).mono ?_; rintro e v5 ⟨⟨r, rfl⟩, rfl⟩)
              · exact bodyPost_ret (v := .tuple #[.int .i64 p, .bool true]) (by simp [results, Try.results19, go_sem, *]) rfl ⟨by rw [hR.out, hhit.out Hrt.out, plR_yes (by omega)], hbel⟩
              · go_roundw
                case rel => exact ⟨k + 1, by go_num, hlt, Lib.hid (hnxt.out Hrt.out), hL1, hG1, hbel⟩
                case measure => simp [intOf]; omega
          · have hpl : plE a b c L = -1 := plE_none (k := k) (by rw [Hm.out]; omega) hall.out
            have Hpl := Lib.hid hpl
            clear hpl
            go_wp2
            exact bodyPost_ret (v := .tuple #[.int .i64 0, .bool false]) (by simp [results, Try.results19, go_sem, *]) rfl ⟨by rw [hR.out, Hpl.out, plR_no], hbel⟩
    · clear hk
      go_enter Try.func19, Try.ntmps19
      go_wp2
      refine wp_region_calm 16 (Below (w.heap.size + 1) _) (by kernel_rfl) (by kernel_rfl) ((Below.refl _ _).drew) ?_
      simp only [List.take_succ_cons, List.take_zero, List.drop_succ_cons, List.drop_zero]
      repeat (first | (apply wpCalm_go; go_simp; (intro w' hw' hcc hff; go_simp; first | exact rfl | (refine (hS.out _ _).mono ?_; rintro e w1 ⟨rfl, hb⟩; exact ⟨rfl, calm_call_same hw' hb⟩)); (intro K hK; go_simp; refine hK _ ?_; clear hK K)) | (apply wpCalm_skip; go_simp; (try (focus (simp [undef]; done))); (intro K hK; go_simp; refine hK _ ?_; clear hK K)))
      refine wpCalm_nil ?_
      intro w1 hw1
      have hcc := (calm_cells hw1).1
      have hff := (calm_cells hw1).2
      have hss := calm_size hw1
      have hsz := hw1.size
      (try simp at hsz)
      have hA1 : Blk w1 w.heap.size 25 #[.int .i64 a, .int .i64 b, .int .i64 c] := Blk.below (by (repeat (first | with_reducible assumption | (with_reducible apply Blk.new_at; (first | rfl | (simp; done))) | with_reducible apply Blk.store3 | with_reducible apply Blk.store4 | (with_reducible apply Blk.farp; (first | omega | (simp <;> omega))) | with_reducible apply Blk.allocp | with_reducible apply Blk.drew | with_reducible apply Blk.drewN))) hw1 (by omega)
      have hb1 : Below w.heap.size w w1 := below_via (show Below w.heap.size w _ from (by repeat (first | with_reducible exact Below.refl _ _ | with_reducible assumption | with_reducible apply Below.drew | with_reducible apply below_drewN | (with_reducible apply below_setp; (first | omega | (simp <;> omega))) | (with_reducible apply below_allocp; (first | omega | (simp <;> omega))) | (with_reducible refine below_viap (by assumption) ?_ ?_; (first | omega | (simp <;> omega)))))) hw1 (by omega)
      have cA1 := hA1.cell; have fA1 := hA1.frozen; have lA1 := hA1.lt
      clear hcc hff hss hw1 k1 k2
      go_wp2_with (first
        | (go_at_call 41; (with_reducible refine (hLs.out _).mono ?_); rintro e v2 ⟨rfl, hB2⟩; have hZ2 := hB2.size; (try simp at hZ2))
        | (go_at_call 25; refine (hPo.out _ _ (by (repeat (first | with_reducible assumption | (with_reducible apply Blk.new_at; (first | rfl | (simp; done))) | with_reducible apply Blk.store3 | with_reducible apply Blk.store4 | (with_reducible apply Blk.farp; (first | omega | (simp <;> omega))) | with_reducible apply Blk.allocp | with_reducible apply Blk.drew | with_reducible apply Blk.drewN)))).mono ?_; rintro e w3 ⟨K, hK1, hK2, vk, rfl, hok, hB3⟩; have hZ3 := hB3.size; (try simp at hZ3); obtain rfl := hPl.out K hK1 hK2; (rcases hok.2 with ⟨_, hn⟩ | ⟨g, cap, cur, rfl, hbg, hg, hnc, hcm, hcs, htake⟩; (exact absurd hn (by simp))); (by_cases hc2 : cap = 2)))
      · have hl0 : L.length = 0 := by simp at hnc; omega
        obtain rfl : L = [] := List.eq_nil_of_length_eq_zero hl0
        have hb3 : Below w.heap.size w w3 := (by repeat (first | with_reducible exact Below.refl _ _ | with_reducible assumption | with_reducible apply Below.drew | with_reducible apply below_drewN | (with_reducible apply below_setp; (first | omega | (simp <;> omega))) | (with_reducible apply below_allocp; (first | omega | (simp <;> omega))) | (with_reducible refine below_viap (by assumption) ?_ ?_; (first | omega | (simp <;> omega)))))
        refine wp_loop_rounds 1 ?_
        rw [rounds_succ]
        go_wp2
        exact bodyPost_ret (v := .tuple #[.int .i64 0, .bool false]) (by simp [results, Try.results19, go_sem, *]) rfl ⟨by rw [hR.out]; rfl, (by repeat (first | with_reducible exact Below.refl _ _ | with_reducible assumption | with_reducible apply Below.drew | with_reducible apply below_drewN | (with_reducible apply below_setp; (first | omega | (simp <;> omega))) | (with_reducible apply below_allocp; (first | omega | (simp <;> omega))) | (with_reducible refine below_viap (by assumption) ?_ ?_; (first | omega | (simp <;> omega)))))⟩
      · have hL3 : Blk w3 v2.heap.size 63 #[.int .i64 a, .int .i64 b, .int .i64 c] := Blk.call (by (repeat (first | with_reducible assumption | (with_reducible apply Blk.new_at; (first | rfl | (simp; done))) | with_reducible apply Blk.store3 | with_reducible apply Blk.store4 | (with_reducible apply Blk.farp; (first | omega | (simp <;> omega))) | with_reducible apply Blk.allocp | with_reducible apply Blk.drew | with_reducible apply Blk.drewN))) hB3
        have hG3 : Blk w3 g 3 cur := hg
        have hb3 : Below w.heap.size w w3 := (by repeat (first | with_reducible exact Below.refl _ _ | with_reducible assumption | with_reducible apply Below.drew | with_reducible apply below_drewN | (with_reducible apply below_setp; (first | omega | (simp <;> omega))) | (with_reducible apply below_allocp; (first | omega | (simp <;> omega))) | (with_reducible refine below_viap (by assumption) ?_ ?_; (first | omega | (simp <;> omega)))))
        have HG := Lib.hid (fun (wr : World) (hb : Blk wr g 3 cur) (k : Nat) (hk : k < L.length) => (cells_get htake hb (j := k + 2) (by simp; omega) : wr.cell? ⟨g, k + 2, none⟩ = some (.int .i64 L[k])))
        obtain ⟨C, hC⟩ : ∃ C, v2.heap.size = C := ⟨_, rfl⟩
        rw [hC] at hL3 ⊢
        clear hok hbg hg hnc hcm hcs htake hK1 hK2 hB3 hZ3 hB2 hZ2 hA1 cA1 fA1 lA1 hb1 hC hS hLs hPo hPl hsz
        obtain ⟨m, hm⟩ : ∃ m, L.length = m := ⟨_, rfl⟩
        have Hm := Lib.hid hm
        rw [hm] at hLl ⊢
        clear hm
        go_loopw [34] (fun vi wr => ∃ k : Nat, vi = .int .i64 k ∧ k ≤ m ∧ Hid (rtAll a b c L k) ∧ Hid (Blk wr C 63 #[.int .i64 a, .int .i64 b, .int .i64 c]) ∧ Hid (Blk wr g 3 cur) ∧ Below w.heap.size w wr) (fun vi _ => m - (intOf vi).toNat)
        case atStart => exact ⟨0, rfl, Nat.zero_le _, Lib.hid (fun j hj h0 => absurd h0 (Nat.not_lt_zero _)), Lib.hid hL3, Lib.hid hG3, hb3⟩
        case round =>
          clear hL3 hG3 hb3
          obtain ⟨k, rfl, hk, hall, hL1, hG1, hbel⟩ := hrel
          have hz := hbel.size
          by_cases hlt : k < m
          · have hkT : k < L.length := by rw [Hm.out]; exact hlt
            have e1 := HG.out wr hG1.out k hkT
            have e2 : wr.cell? ⟨g, 2 + k, none⟩ = some (.int .i64 L[k]) := by rw [Nat.add_comm]; exact e1
            have f1 := hG1.out.frozen (k + 2)
            have f2 := hG1.out.frozen (2 + k)
            obtain ⟨p2, p3, h1⟩ := hTp.out _ (List.getElem_mem hkT)
            have hhit := Lib.hid (fun hn => plE_hit hkT hall.out hn)
            have hnxt := Lib.hid (fun hn => rtAll_next hkT hall.out hn)
            generalize L[k] = p at *
            have hp0 : ¬ p = 0 := by omega
            have hp1 : (p == 0) = false := by rw [beq_eq_false_iff_ne]; exact hp0
            have cL := hL1.out.cell; have fL := hL1.out.frozen; have lL := hL1.out.lt
            rcases h1 with ⟨d1, d2, d3⟩ | ⟨d1, d2, d3⟩ | ⟨d1, d2, d3⟩
            · rw [show kkE a b c p = b * c from kk1 d1] at hhit hnxt
              have hLr := Lib.hid (fun w => leastRoot_any p (b * c) w (by omega) (by omega) (by omega))
              have t1 := tmod_dvd2 d1
              have t2 := tmod_ndvd2 d2
              have t3 := tmod_ndvd2 d3
              clear d1 d2 d3
              cases hrt : rtB p (b * c)
              all_goals
                rw [hrt] at hLr
                have Hrt := Lib.hid hrt
                clear hrt
                go_wp2
                refine wp_loop_rounds 4 ?_
                rw [rounds_succ]
                go_wp2
                rw [rounds_succ]
                go_wp2
                rw [rounds_succ]
                go_wp2
                rw [rounds_succ]
                go_wp2_with (go_at_call 44; refine (hLr.out _).mono ?_; rintro e v5 ⟨⟨r, rfl⟩, rfl⟩)
              · exact bodyPost_ret (v := .tuple #[.int .i64 p, .bool true]) (by simp [results, Try.results19, go_sem, *]) rfl ⟨by rw [hR.out, hhit.out Hrt.out, plR_yes (by omega)], hbel⟩
              · go_roundw
                case rel => exact ⟨k + 1, by go_num, hlt, Lib.hid (hnxt.out Hrt.out), hL1, hG1, hbel⟩
                case measure => simp [intOf]; omega
            · rw [show kkE a b c p = a * c from kk2 d1 d2] at hhit hnxt
              have hLr := Lib.hid (fun w => leastRoot_any p (a * c) w (by omega) (by omega) (by omega))
              have t1 := tmod_ndvd2 d1
              have t2 := tmod_dvd2 d2
              have t3 := tmod_ndvd2 d3
              clear d1 d2 d3
              cases hrt : rtB p (a * c)
              all_goals
                rw [hrt] at hLr
                have Hrt := Lib.hid hrt
                clear hrt
                go_wp2
                refine wp_loop_rounds 4 ?_
                rw [rounds_succ]
                go_wp2
                rw [rounds_succ]
                go_wp2
                rw [rounds_succ]
                go_wp2
                rw [rounds_succ]
                go_wp2_with (go_at_call 44; refine (hLr.out _).mono ?_; rintro e v5 ⟨⟨r, rfl⟩, rfl⟩)
              · exact bodyPost_ret (v := .tuple #[.int .i64 p, .bool true]) (by simp [results, Try.results19, go_sem, *]) rfl ⟨by rw [hR.out, hhit.out Hrt.out, plR_yes (by omega)], hbel⟩
              · go_roundw
                case rel => exact ⟨k + 1, by go_num, hlt, Lib.hid (hnxt.out Hrt.out), hL1, hG1, hbel⟩
                case measure => simp [intOf]; omega
            · rw [show kkE a b c p = a * b from kk3 d1 d2] at hhit hnxt
              have hLr := Lib.hid (fun w => leastRoot_any p (a * b) w (by omega) (by omega) (by omega))
              have t1 := tmod_ndvd2 d1
              have t2 := tmod_ndvd2 d2
              have t3 := tmod_dvd2 d3
              clear d1 d2 d3
              cases hrt : rtB p (a * b)
              all_goals
                rw [hrt] at hLr
                have Hrt := Lib.hid hrt
                clear hrt
                go_wp2
                refine wp_loop_rounds 4 ?_
                rw [rounds_succ]
                go_wp2
                rw [rounds_succ]
                go_wp2
                rw [rounds_succ]
                go_wp2
                rw [rounds_succ]
                go_wp2_with (go_at_call 44; refine (hLr.out _).mono ?_; rintro e v5 ⟨⟨r, rfl⟩, rfl⟩)
              · exact bodyPost_ret (v := .tuple #[.int .i64 p, .bool true]) (by simp [results, Try.results19, go_sem, *]) rfl ⟨by rw [hR.out, hhit.out Hrt.out, plR_yes (by omega)], hbel⟩
              · go_roundw
                case rel => exact ⟨k + 1, by go_num, hlt, Lib.hid (hnxt.out Hrt.out), hL1, hG1, hbel⟩
                case measure => simp [intOf]; omega
          · have hpl : plE a b c L = -1 := plE_none (k := k) (by rw [Hm.out]; omega) hall.out
            have Hpl := Lib.hid hpl
            clear hpl
            go_wp2
            exact bodyPost_ret (v := .tuple #[.int .i64 0, .bool false]) (by simp [results, Try.results19, go_sem, *]) rfl ⟨by rw [hR.out, Hpl.out, plR_no], hbel⟩
    · clear hk
      go_enter Try.func19, Try.ntmps19
      go_wp2
      refine wp_region_calm 16 (Below (w.heap.size + 1) _) (by kernel_rfl) (by kernel_rfl) ((Below.refl _ _).drew) ?_
      simp only [List.take_succ_cons, List.take_zero, List.drop_succ_cons, List.drop_zero]
      repeat (first | (apply wpCalm_go; go_simp; (intro w' hw' hcc hff; go_simp; first | exact rfl | (refine (hS.out _ _).mono ?_; rintro e w1 ⟨rfl, hb⟩; exact ⟨rfl, calm_call_same hw' hb⟩)); (intro K hK; go_simp; refine hK _ ?_; clear hK K)) | (apply wpCalm_skip; go_simp; (try (focus (simp [undef]; done))); (intro K hK; go_simp; refine hK _ ?_; clear hK K)))
      refine wpCalm_nil ?_
      intro w1 hw1
      have hcc := (calm_cells hw1).1
      have hff := (calm_cells hw1).2
      have hss := calm_size hw1
      have hsz := hw1.size
      (try simp at hsz)
      have hA1 : Blk w1 w.heap.size 25 #[.int .i64 a, .int .i64 b, .int .i64 c] := Blk.below (by (repeat (first | with_reducible assumption | (with_reducible apply Blk.new_at; (first | rfl | (simp; done))) | with_reducible apply Blk.store3 | with_reducible apply Blk.store4 | (with_reducible apply Blk.farp; (first | omega | (simp <;> omega))) | with_reducible apply Blk.allocp | with_reducible apply Blk.drew | with_reducible apply Blk.drewN))) hw1 (by omega)
      have hb1 : Below w.heap.size w w1 := below_via (show Below w.heap.size w _ from (by repeat (first | with_reducible exact Below.refl _ _ | with_reducible assumption | with_reducible apply Below.drew | with_reducible apply below_drewN | (with_reducible apply below_setp; (first | omega | (simp <;> omega))) | (with_reducible apply below_allocp; (first | omega | (simp <;> omega))) | (with_reducible refine below_viap (by assumption) ?_ ?_; (first | omega | (simp <;> omega)))))) hw1 (by omega)
      have cA1 := hA1.cell; have fA1 := hA1.frozen; have lA1 := hA1.lt
      clear hcc hff hss hw1 k1 k2
      go_wp2_with (first
        | (go_at_call 41; (with_reducible refine (hLs.out _).mono ?_); rintro e v2 ⟨rfl, hB2⟩; have hZ2 := hB2.size; (try simp at hZ2))
        | (go_at_call 25; refine (hPo.out _ _ (by (repeat (first | with_reducible assumption | (with_reducible apply Blk.new_at; (first | rfl | (simp; done))) | with_reducible apply Blk.store3 | with_reducible apply Blk.store4 | (with_reducible apply Blk.farp; (first | omega | (simp <;> omega))) | with_reducible apply Blk.allocp | with_reducible apply Blk.drew | with_reducible apply Blk.drewN)))).mono ?_; rintro e w3 ⟨K, hK1, hK2, vk, rfl, hok, hB3⟩; have hZ3 := hB3.size; (try simp at hZ3); obtain rfl := hPl.out K hK1 hK2; (rcases hok.2 with ⟨_, hn⟩ | ⟨g, cap, cur, rfl, hbg, hg, hnc, hcm, hcs, htake⟩; (exact absurd hn (by simp))); (by_cases hc2 : cap = 2)))
      · have hl0 : L.length = 0 := by simp at hnc; omega
        obtain rfl : L = [] := List.eq_nil_of_length_eq_zero hl0
        have hb3 : Below w.heap.size w w3 := (by repeat (first | with_reducible exact Below.refl _ _ | with_reducible assumption | with_reducible apply Below.drew | with_reducible apply below_drewN | (with_reducible apply below_setp; (first | omega | (simp <;> omega))) | (with_reducible apply below_allocp; (first | omega | (simp <;> omega))) | (with_reducible refine below_viap (by assumption) ?_ ?_; (first | omega | (simp <;> omega)))))
        refine wp_loop_rounds 1 ?_
        rw [rounds_succ]
        go_wp2
        exact bodyPost_ret (v := .tuple #[.int .i64 0, .bool false]) (by simp [results, Try.results19, go_sem, *]) rfl ⟨by rw [hR.out]; rfl, (by repeat (first | with_reducible exact Below.refl _ _ | with_reducible assumption | with_reducible apply Below.drew | with_reducible apply below_drewN | (with_reducible apply below_setp; (first | omega | (simp <;> omega))) | (with_reducible apply below_allocp; (first | omega | (simp <;> omega))) | (with_reducible refine below_viap (by assumption) ?_ ?_; (first | omega | (simp <;> omega)))))⟩
      · have hL3 : Blk w3 v2.heap.size 63 #[.int .i64 a, .int .i64 b, .int .i64 c] := Blk.call (by (repeat (first | with_reducible assumption | (with_reducible apply Blk.new_at; (first | rfl | (simp; done))) | with_reducible apply Blk.store3 | with_reducible apply Blk.store4 | (with_reducible apply Blk.farp; (first | omega | (simp <;> omega))) | with_reducible apply Blk.allocp | with_reducible apply Blk.drew | with_reducible apply Blk.drewN))) hB3
        have hG3 : Blk w3 g 3 cur := hg
        have hb3 : Below w.heap.size w w3 := (by repeat (first | with_reducible exact Below.refl _ _ | with_reducible assumption | with_reducible apply Below.drew | with_reducible apply below_drewN | (with_reducible apply below_setp; (first | omega | (simp <;> omega))) | (with_reducible apply below_allocp; (first | omega | (simp <;> omega))) | (with_reducible refine below_viap (by assumption) ?_ ?_; (first | omega | (simp <;> omega)))))
        have HG := Lib.hid (fun (wr : World) (hb : Blk wr g 3 cur) (k : Nat) (hk : k < L.length) => (cells_get htake hb (j := k + 2) (by simp; omega) : wr.cell? ⟨g, k + 2, none⟩ = some (.int .i64 L[k])))
        obtain ⟨C, hC⟩ : ∃ C, v2.heap.size = C := ⟨_, rfl⟩
        rw [hC] at hL3 ⊢
        clear hok hbg hg hnc hcm hcs htake hK1 hK2 hB3 hZ3 hB2 hZ2 hA1 cA1 fA1 lA1 hb1 hC hS hLs hPo hPl hsz
        obtain ⟨m, hm⟩ : ∃ m, L.length = m := ⟨_, rfl⟩
        have Hm := Lib.hid hm
        rw [hm] at hLl ⊢
        clear hm
        go_loopw [34] (fun vi wr => ∃ k : Nat, vi = .int .i64 k ∧ k ≤ m ∧ Hid (rtAll a b c L k) ∧ Hid (Blk wr C 63 #[.int .i64 a, .int .i64 b, .int .i64 c]) ∧ Hid (Blk wr g 3 cur) ∧ Below w.heap.size w wr) (fun vi _ => m - (intOf vi).toNat)
        case atStart => exact ⟨0, rfl, Nat.zero_le _, Lib.hid (fun j hj h0 => absurd h0 (Nat.not_lt_zero _)), Lib.hid hL3, Lib.hid hG3, hb3⟩
        case round =>
          clear hL3 hG3 hb3
          obtain ⟨k, rfl, hk, hall, hL1, hG1, hbel⟩ := hrel
          have hz := hbel.size
          by_cases hlt : k < m
          · have hkT : k < L.length := by rw [Hm.out]; exact hlt
            have e1 := HG.out wr hG1.out k hkT
            have e2 : wr.cell? ⟨g, 2 + k, none⟩ = some (.int .i64 L[k]) := by rw [Nat.add_comm]; exact e1
            have f1 := hG1.out.frozen (k + 2)
            have f2 := hG1.out.frozen (2 + k)
            obtain ⟨p2, p3, h1⟩ := hTp.out _ (List.getElem_mem hkT)
            have hhit := Lib.hid (fun hn => plE_hit hkT hall.out hn)
            have hnxt := Lib.hid (fun hn => rtAll_next hkT hall.out hn)
            generalize L[k] = p at *
            have hp0 : ¬ p = 0 := by omega
            have hp1 : (p == 0) = false := by rw [beq_eq_false_iff_ne]; exact hp0
            have cL := hL1.out.cell; have fL := hL1.out.frozen; have lL := hL1.out.lt
            rcases h1 with ⟨d1, d2, d3⟩ | ⟨d1, d2, d3⟩ | ⟨d1, d2, d3⟩
            · rw [show kkE a b c p = b * c from kk1 d1] at hhit hnxt
              have hLr := Lib.hid (fun w => leastRoot_any p (b * c) w (by omega) (by omega) (by omega))
              have t1 := tmod_dvd2 d1
              have t2 := tmod_ndvd2 d2
              have t3 := tmod_ndvd2 d3
              clear d1 d2 d3
              cases hrt : rtB p (b * c)
              all_goals
                rw [hrt] at hLr
                have Hrt := Lib.hid hrt
                clear hrt
                go_wp2
                refine wp_loop_rounds 4 ?_
                rw [rounds_succ]
                go_wp2
                rw [rounds_succ]
                go_wp2
                rw [rounds_succ]
                go_wp2
                rw [rounds_succ]
                go_wp2_with (go_at_call 44; refine (hLr.out _).mono ?_; rintro e v5 ⟨⟨r, rfl⟩, rfl⟩)
              · exact bodyPost_ret (v := .tuple #[.int .i64 p, .bool true]) (by simp [results, Try.results19, go_sem, *]) rfl ⟨by rw [hR.out, hhit.out Hrt.out, plR_yes (by omega)], hbel⟩
              · go_roundw
                case rel => exact ⟨k + 1, by go_num, hlt, Lib.hid (hnxt.out Hrt.out), hL1, hG1, hbel⟩
                case measure => simp [intOf]; omega
            · rw [show kkE a b c p = a * c from kk2 d1 d2] at hhit hnxt
              have hLr := Lib.hid (fun w => leastRoot_any p (a * c) w (by omega) (by omega) (by omega))
              have t1 := tmod_ndvd2 d1
              have t2 := tmod_dvd2 d2
              have t3 := tmod_ndvd2 d3
              clear d1 d2 d3
              cases hrt : rtB p (a * c)
              all_goals
                rw [hrt] at hLr
                have Hrt := Lib.hid hrt
                clear hrt
                go_wp2
                refine wp_loop_rounds 4 ?_
                rw [rounds_succ]
                go_wp2
                rw [rounds_succ]
                go_wp2
                rw [rounds_succ]
                go_wp2
                rw [rounds_succ]
                go_wp2_with (go_at_call 44; refine (hLr.out _).mono ?_; rintro e v5 ⟨⟨r, rfl⟩, rfl⟩)
              · exact bodyPost_ret (v := .tuple #[.int .i64 p, .bool true]) (by simp [results, Try.results19, go_sem, *]) rfl ⟨by rw [hR.out, hhit.out Hrt.out, plR_yes (by omega)], hbel⟩
              · go_roundw
                case rel => exact ⟨k + 1, by go_num, hlt, Lib.hid (hnxt.out Hrt.out), hL1, hG1, hbel⟩
                case measure => simp [intOf]; omega
            · rw [show kkE a b c p = a * b from kk3 d1 d2] at hhit hnxt
              have hLr := Lib.hid (fun w => leastRoot_any p (a * b) w (by omega) (by omega) (by omega))
              have t1 := tmod_ndvd2 d1
              have t2 := tmod_ndvd2 d2
              have t3 := tmod_dvd2 d3
              clear d1 d2 d3
              cases hrt : rtB p (a * b)
              all_goals
                rw [hrt] at hLr
                have Hrt := Lib.hid hrt
                clear hrt
                go_wp2
                refine wp_loop_rounds 4 ?_
                rw [rounds_succ]
                go_wp2
                rw [rounds_succ]
                go_wp2
                rw [rounds_succ]
                go_wp2
                rw [rounds_succ]
                go_wp2_with (go_at_call 44; refine (hLr.out _).mono ?_; rintro e v5 ⟨⟨r, rfl⟩, rfl⟩)
              · exact bodyPost_ret (v := .tuple #[.int .i64 p, .bool true]) (by simp [results, Try.results19, go_sem, *]) rfl ⟨by rw [hR.out, hhit.out Hrt.out, plR_yes (by omega)], hbel⟩
              · go_roundw
                case rel => exact ⟨k + 1, by go_num, hlt, Lib.hid (hnxt.out Hrt.out), hL1, hG1, hbel⟩
                case measure => simp [intOf]; omega
          · have hpl : plE a b c L = -1 := plE_none (k := k) (by rw [Hm.out]; omega) hall.out
            have Hpl := Lib.hid hpl
            clear hpl
            go_wp2
            exact bodyPost_ret (v := .tuple #[.int .i64 0, .bool false]) (by simp [results, Try.results19, go_sem, *]) rfl ⟨by rw [hR.out, Hpl.out, plR_no], hbel⟩
end Go.Proofs.Ytdhennlanngjgaa
