/- Contracts of SquareCoset, of the program: the whole. -/
import Derived.Test.YtononfokhdmofaaR5
import Derived.Deep.RegionLaw
import Derived.Test.YtononfokhdmofaaT6
namespace Go.Proofs.Ytononfokhdmofaa
open Go.RowKit

def ScSt (d : Int) (r : Fm) (S : List Fm) (C B2 : Nat) (vs : Value) (v1 : World) (vi : Value) (wr : World) : Prop :=
  ∃ (k : Nat) (vc : Value), vi = .int .i64 k ∧ k ≤ S.length ∧ Hid (Blk wr C 29 #[vc]) ∧ wr.ownsRow v1.heap.size 26 3 vc (cosT d r (S.take k)).length (cellsF (cosT d r (S.take k))) ∧ (∀ q, vc.ownBlock = some q → q ≠ C) ∧
    wr.ownsRow B2 26 3 vs S.length (cellsF S) ∧ Apart vc vs ∧ Below v1.heap.size v1 wr

set_option maxRecDepth 100000 in
set_option maxHeartbeats 6400000 in
theorem implSC_any (a b c : Int) (L : List Fm) (ok : Bool) (w : World) (h : ScL a b c L ok) :
    Calls Try.prog 28 #[.agg #[.int .i64 a, .int .i64 b, .int .i64 c]] w (RetFb L ok w) := by
  rcases h with ⟨hc, rfl, rfl⟩ | ⟨hc, hL, rfl⟩
  · go_enter Try.func28, Try.ntmps28
    go_wp2_with (go_at_call 59; (with_reducible refine (icls_any a b c _).mono ?_); rw [hc]; rintro e v1 ⟨rfl, hB1⟩; have hZ1 := hB1.size; (try simp at hZ1); (try have zl1 : w.heap.size < v1.heap.size := by omega); (try have ze1 : w.heap.size ≤ v1.heap.size := by omega); (try have zn1 : ¬ w.heap.size = v1.heap.size := by omega); (try have zm1 : ¬ v1.heap.size = w.heap.size := by omega); have hC1_0 := fun o => (calm_cells hB1).1 (w.heap.size) o (by first | omega | (simp <;> omega)); have hF1_0 := fun o => (calm_cells hB1).2 (w.heap.size) o (by first | omega | (simp <;> omega)); (try have hl1_0 : w.heap.size < v1.heap.size := by omega); (try have hm1_0 : ¬ w.heap.size = v1.heap.size := by omega); (try have hn1_0 : ¬ v1.heap.size = w.heap.size := by omega))
    go_ret2
    exact ⟨_, rfl, own_empty (by omega), (by repeat (first | with_reducible exact Below.refl _ _ | with_reducible assumption | with_reducible apply Below.drew | with_reducible apply below_drewN | (with_reducible apply below_setp; (first | omega | (simp <;> omega))) | (with_reducible apply below_allocp; (first | omega | (simp <;> omega))) | (with_reducible refine below_viap (by assumption) ?_ ?_; (first | omega | (simp <;> omega)))))⟩
  · have cf := CF.of_cls hc
    obtain ⟨i0, hi, hz0, hz1, hz2⟩ := info_parts infoForm
    obtain ⟨r, hr⟩ : ∃ r, red ⟨a, b, c⟩ = r := ⟨_, rfl⟩
    obtain ⟨d, hd⟩ : ∃ d, disc ⟨a, b, c⟩ = d := ⟨_, rfl⟩
    rw [hr, hd] at cf
    rw [hr, hd] at hL
    have hD := cf.D
    have hDc := Lib.hid (fun w => disc_cf d ⟨a, b, c⟩ r w cf)
    have hP := Lib.hid (fun w => powerClasses_any d 2 w hD (by decide))
    have hS : ∀ g ∈ (clsL d).filter (powP d 2 (clsL d)), g ∈ clsL d := fun g hg => (List.mem_filter.1 hg).1
    have hsl : ((clsL d).filter (powP d 2 (clsL d))).length ≤ 100000 := Nat.le_trans (List.length_filter_le _ _) (Nat.le_trans (clsL_len d) (by decide))
    generalize (clsL d).filter (powP d 2 (clsL d)) = S at *
    have hcm := Lib.hid (fun g (h : g ∈ S) w => compose_cf d ⟨a, b, c⟩ g r g _ w cf (CF.of_mem hD (hS g h)) rfl)
    have hFl := fun C w hcall => formsCos_any d (hasF (cosT d r S)) C w hD.lo hD.hi hcall
    rw [← hL] at hFl
    have HFl := Lib.hid hFl
    clear hFl hL hr hd cf hD hS
    go_enter Try.func28, Try.ntmps28
    go_wp2_with (first
      | (go_at_call 59; (with_reducible refine (icls_any a b c _).mono ?_); rw [hc]; rintro e v1 ⟨rfl, hB1⟩; have hZ1 := hB1.size; (try simp at hZ1); (try have zl1 : w.heap.size < v1.heap.size := by omega); (try have ze1 : w.heap.size ≤ v1.heap.size := by omega); (try have zn1 : ¬ w.heap.size = v1.heap.size := by omega); (try have zm1 : ¬ v1.heap.size = w.heap.size := by omega); have hA1 : Blk v1 (w.heap.size) 26 #[.int .i64 a, .int .i64 b, .int .i64 c] := Blk.call (by (repeat (first | with_reducible assumption | (with_reducible apply Blk.new_at; (first | rfl | (simp; done))) | with_reducible apply Blk.store3 | with_reducible apply Blk.store4 | (with_reducible apply Blk.farp; (first | omega | (simp <;> omega))) | with_reducible apply Blk.allocp | with_reducible apply Blk.drew | with_reducible apply Blk.drewN))) hB1; have cA1 := hA1.cell; have fA1 := hA1.frozen; have lA1 := hA1.lt; have mA1 := Nat.ne_of_gt lA1; have nA1 := Nat.ne_of_lt lA1)
      | (go_at_call 62; (with_reducible refine (hDc.out _).mono ?_); rintro e v2 ⟨rfl, hB2⟩; have hZ2 := hB2.size; (try simp at hZ2); (try have zl2 : w.heap.size < v2.heap.size := by omega); (try have ze2 : w.heap.size ≤ v2.heap.size := by omega); (try have zn2 : ¬ w.heap.size = v2.heap.size := by omega); (try have zm2 : ¬ v2.heap.size = w.heap.size := by omega); have hA2 : Blk v2 (w.heap.size) 26 #[.int .i64 a, .int .i64 b, .int .i64 c] := Blk.call (by (repeat (first | with_reducible assumption | (with_reducible apply Blk.new_at; (first | rfl | (simp; done))) | with_reducible apply Blk.store3 | with_reducible apply Blk.store4 | (with_reducible apply Blk.farp; (first | omega | (simp <;> omega))) | with_reducible apply Blk.allocp | with_reducible apply Blk.drew | with_reducible apply Blk.drewN))) hB2; have cA2 := hA2.cell; have fA2 := hA2.frozen; have lA2 := hA2.lt; have mA2 := Nat.ne_of_gt lA2; have nA2 := Nat.ne_of_lt lA2; have hC2 : Blk v2 (v1.heap.size + 1) 29 #[.slice (some ⟨v1.heap.size, 0, none⟩) 0 0] := Blk.call (by (repeat (first | with_reducible assumption | (with_reducible apply Blk.new_at; (first | rfl | (simp; done))) | with_reducible apply Blk.store3 | with_reducible apply Blk.store4 | (with_reducible apply Blk.farp; (first | omega | (simp <;> omega))) | with_reducible apply Blk.allocp | with_reducible apply Blk.drew | with_reducible apply Blk.drewN))) hB2; have cC2 := hC2.cell; have fC2 := hC2.frozen; have lC2 := hC2.lt; have mC2 := Nat.ne_of_gt lC2; have nC2 := Nat.ne_of_lt lC2)
      | (go_at_call 61; refine (hP.out _).mono ?_; rintro e v3 ⟨vs, rfl, hos, hB3⟩; have hZ3 := hB3.size; obtain ⟨bs, cs, rfl⟩ := own_shape hos; have hC3 : Blk v3 (v1.heap.size + 1) 29 #[.slice (some ⟨v1.heap.size, 0, none⟩) 0 0] := Blk.call hC2 hB3))
    obtain ⟨B2, hBe2⟩ : ∃ B2 : Nat, B2 = v2.heap.size := ⟨_, rfl⟩
    rw [← hBe2] at hos
    obtain ⟨C, hCe⟩ : ∃ C : Nat, C = v1.heap.size + 1 := ⟨_, rfl⟩
    have hCB : C < B2 := by omega
    have hon0 : v3.ownsRow v1.heap.size 26 3 (.slice (some ⟨v1.heap.size, 0, none⟩) 0 0) 0 [] := own_call hB3 (own_call hB2 (own_alloc (own_empty (Nat.le_refl _))))
    have hap0 : Apart (.slice (some ⟨v1.heap.size, 0, none⟩) 0 0) (.slice bs S.length cs) := apart_below hos (by omega)
    rw [← hCe] at hC3 ⊢
    have HC3 := Lib.hid hC3
    have hC1 : v1.heap.size < C := by omega
    clear hCe
    have hb3 : Below v1.heap.size v1 v3 := (by repeat (first | with_reducible exact Below.refl _ _ | with_reducible assumption | with_reducible apply Below.drew | with_reducible apply below_drewN | (with_reducible apply below_setp; (first | omega | (simp <;> omega))) | (with_reducible apply below_allocp; (first | omega | (simp <;> omega))) | (with_reducible refine below_viap (by assumption) ?_ ?_; (first | omega | (simp <;> omega)))))
    have hbw : Below w.heap.size w v1 := (by repeat (first | with_reducible exact Below.refl _ _ | with_reducible assumption | with_reducible apply Below.drew | with_reducible apply below_drewN | (with_reducible apply below_setp; (first | omega | (simp <;> omega))) | (with_reducible apply below_allocp; (first | omega | (simp <;> omega))) | (with_reducible refine below_viap (by assumption) ?_ ?_; (first | omega | (simp <;> omega)))))
    have HA1 := Lib.hid hA1
    clear hA2 hC2 hB2 hB3 hC3 hA1 cA2 fA2 cC2 fC2 cA1 fA1
    go_loopw [16] (fun i wr => ScSt d r S C B2 (.slice bs S.length cs) v1 i wr) (fun i _ => S.length - (intOf i).toNat)
    case atStart => exact ⟨0, _, rfl, Nat.zero_le _, HC3, hon0, (fun q hq => by simp [Value.ownBlock] at hq; omega), hos, hap0, hb3⟩
    case round =>
      clear hon0 hap0 HC3 hb3 hos
      obtain ⟨k, vc, rfl, hk, hCb, hown, hne, hos, hap, hbel⟩ := hrel
      have hz := hbel.size
      have hAr := Blk.call HA1.out hbel
      have cA := hAr.cell; have fA := hAr.frozen; have lA := hAr.lt
      have cC := hCb.out.cell; have fC := hCb.out.frozen; have lC := hCb.out.lt
      by_cases hlt : k < S.length
      · have hft := cosT_next (d := d) (r := r) hlt
        have hql : (cosT d r (S.take k)).length ≤ 100000 := by rw [cosT_len, List.length_take]; omega
        obtain ⟨g, rfl, hg2, d1, d2, d3⟩ := own_elem hos hlt
        have hfm := List.getElem_mem hlt
        generalize S[k] = f at d1 d2 d3 hft hfm
        have hW := Lib.hid (hcm.out f hfm)
        generalize Go.Proofs.Ytononfokhdmofaa.cmp d r f = P at hW hft
        generalize cosT d r (S.take k) = Q at hft hown hql
        have Hft := Lib.hid hft
        have n1 : ¬ w.heap.size = wr.heap.size := by omega
        have n2 : w.heap.size < wr.heap.size + 1 := by omega
        have n3 : ¬ C = wr.heap.size := by omega
        have n4 : C < wr.heap.size + 1 := by omega
        have cC0 : wr.cell? ⟨C, 0, none⟩ = some vc := (cC 0).trans rfl
        have fC0 := fC 0
        clear hft hfm cC fC
        go_wp2
        go_region_law (first
          | (refine step_append_any (v4.alloc (.cells #[.int .i64 P.a, .int .i64 P.b, .int .i64 P.c] 26)) rfl (.tmp 20) (.tmp 24) 29 rfl v1.heap.size 26 i0 _ 3 24 Try.underlying29 hi hz0 hz1 hz2 rfl (by omega) vc Q.length (cellsF Q) rfl (own_alloc hon4) (v4.heap.size + 1) (some ⟨v4.heap.size, 0, none⟩) 1 1 [.int .i64 P.a, .int .i64 P.b, .int .i64 P.c] rfl ⟨rfl, fun _ => ⟨_, rfl, (by simp), cells3 (Blk.new _ _ _)⟩⟩ (one3 _ _ _) (by unfold maxLen; omega) (by omega) (by simp; omega) ?_; intro x2 w2 hown2 hgr2 hloc2; obtain ⟨bx, cx, rfl⟩ := own_shape hown2; have hC5 := (Blk.allocp (o := .cells #[.int .i64 P.a, .int .i64 P.b, .int .i64 P.c] 26) hC4).grown hgr2 (fun he => hne C he.symm rfl); have cC5 : w2.cell? ⟨C, 0, none⟩ = some vc := (hC5.cell 0).trans rfl; have fC5 := hC5.frozen 0; have lC5 := hC5.lt)
          | (go_simp; go_wp2_with (go_at_call 78; (with_reducible refine (hW.out _).mono ?_); rintro e v4 ⟨rfl, hB4⟩; have hZ4 := hB4.size; (try simp at hZ4); have hC4 : Blk v4 C 29 #[vc] := Blk.call (Blk.drew (Blk.allocp hCb.out)) hB4; have cC4 : v4.cell? ⟨C, 0, none⟩ = some vc := (hC4.cell 0).trans rfl; have lC4 := hC4.lt; have mC4 : ¬ C = v4.heap.size := (by omega); have kC4 : C < v4.heap.size + 1 := (by omega); have hA4 : Blk v4 w.heap.size 26 #[.int .i64 a, .int .i64 b, .int .i64 c] := Blk.call (Blk.drew (Blk.allocp hAr)) hB4; have hon4 := own_call hB4 (own_drew (own_alloc hown)); have hos4 := own_call hB4 (own_drew (own_alloc hos)))))
        all_goals
          have hzz := hgr2.size
          simp at hzz
          have hneN : ∀ q, (Value.slice bx (Q.length + 1) cx).ownBlock = some q → q ≠ C := by
            intro q hq
            rcases hloc2 with e | e
            · exact hne q (e ▸ hq)
            · rw [e] at hq; injection hq with hq; simp at hq; omega
          have hosA := own_alloc (o := .cells #[.int .i64 P.a, .int .i64 P.b, .int .i64 P.c] 26) hos4
          have hapN := apart_next hap hosA (Nat.le_refl _) hloc2
          have hosK := hosA.kept hgr2 hap
          have hb4 : Below v1.heap.size v1 v4 := (by repeat (first | with_reducible exact Below.refl _ _ | with_reducible assumption | with_reducible apply Below.drew | with_reducible apply below_drewN | (with_reducible apply below_setp; (first | omega | (simp <;> omega))) | (with_reducible apply below_allocp; (first | omega | (simp <;> omega))) | (with_reducible refine below_viap (by assumption) ?_ ?_; (first | omega | (simp <;> omega)))))
          have hbN : Below v1.heap.size v1 w2 := below_grown (own_ge hon4) (by simp; omega) hgr2 (by repeat (first | with_reducible exact Below.refl _ _ | with_reducible assumption | with_reducible apply Below.drew | with_reducible apply below_drewN | (with_reducible apply below_setp; (first | omega | (simp <;> omega))) | (with_reducible apply below_allocp; (first | omega | (simp <;> omega))) | (with_reducible refine below_viap (by assumption) ?_ ?_; (first | omega | (simp <;> omega)))))
          have hbS : Below v1.heap.size v1 (w2.setCell ⟨C, 0, none⟩ (.slice bx (Q.length + 1) cx)) := hbN.setCell (by simp; omega) _
          have hblkN : Blk (w2.setCell ⟨C, 0, none⟩ (.slice bx (Q.length + 1) cx)) C 29 #[.slice bx (Q.length + 1) cx] := by
            have := hC5.set_ 0 (.slice bx (Q.length + 1) cx)
            simpa using this
          have hownN := own_set_ne (p := ⟨C, 0, none⟩) (u := .slice bx (Q.length + 1) cx) (fun q hq => hneN q hq) (own_snoc Hft.out hown2)
          have hosN := own_set_ne (p := ⟨C, 0, none⟩) (u := .slice bx (Q.length + 1) cx) (fun q hq => by have := own_ge hosK q hq; simp; omega) hosK
          have HbN := Lib.hid hblkN
          clear hblkN hosK hosA hC5 hb4 hbN hown2 hgr2 hon4 hos4 hown hos hap
          go_wp2
          exact ⟨⟨k + 1, _, rfl, hlt, HbN, hownN, hneN, hosN, hapN, hbS⟩, by simp [intOf]; omega⟩
      · have e : k = S.length := by omega
        have hx : cosT d r (S.take k) = cosT d r S := by rw [e, List.take_length]
        rw [hx] at hown
        have hTl : (cosT d r S).length ≤ 100000 := by rw [cosT_len]; exact hsl
        generalize cosT d r S = T at *
        have Hown := Lib.hid hown
        have hCbo := hCb.out
        subst e
        clear hx hown
        go_wp2_with (first
          | (go_at_call 62; (with_reducible refine (hDc.out _).mono ?_); rintro e v6 ⟨rfl, hB6⟩; have hZ6 := hB6.size; (try simp at hZ6); (try have zl6 : w.heap.size < v6.heap.size := by omega); (try have ze6 : w.heap.size ≤ v6.heap.size := by omega); (try have zn6 : ¬ w.heap.size = v6.heap.size := by omega); (try have zm6 : ¬ v6.heap.size = w.heap.size := by omega); have hC6 : Blk v6 (C) 29 #[vc] := Blk.call (by (repeat (first | with_reducible assumption | (with_reducible apply Blk.new_at; (first | rfl | (simp; done))) | with_reducible apply Blk.store3 | with_reducible apply Blk.store4 | (with_reducible apply Blk.farp; (first | omega | (simp <;> omega))) | with_reducible apply Blk.allocp | with_reducible apply Blk.drew | with_reducible apply Blk.drewN))) hB6; have cC6 := hC6.cell; have fC6 := hC6.frozen; have lC6 := hC6.lt; have mC6 := Nat.ne_of_gt lC6; have nC6 := Nat.ne_of_lt lC6)
          | (go_at_call 79; (with_reducible refine (HFl.out C _ ?_).mono ?_)))
        · intro f hf w' hb
          have cC' := hC6.below hb lC6
          have z := hb.size
          exact cosetFn_any f T vc v1.heap.size C w' hTl ((cC'.cell 0).trans rfl) (by omega) (own_bel hb (fun q hq => own_lt (own_call hB6 Hown.out) q hq) (own_call hB6 Hown.out))
        · rintro e v7 ⟨vl, rfl, how, hB7⟩
          have hz7 := hB7.size
          have hbw6 : Below w.heap.size w v6 := below_via hbw (below_via hbel hB6 hz) hbw.size
          go_wp2
          go_ret2
          exact ⟨_, rfl, own_base (by omega) how, (by repeat (first | with_reducible exact Below.refl _ _ | with_reducible assumption | with_reducible apply Below.drew | with_reducible apply below_drewN | (with_reducible apply below_setp; (first | omega | (simp <;> omega))) | (with_reducible apply below_allocp; (first | omega | (simp <;> omega))) | (with_reducible refine below_viap (by assumption) ?_ ?_; (first | omega | (simp <;> omega)))))⟩
end Go.Proofs.Ytononfokhdmofaa
