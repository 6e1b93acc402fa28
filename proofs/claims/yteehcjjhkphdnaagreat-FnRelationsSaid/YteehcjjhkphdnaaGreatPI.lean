/- Contracts of RelationClass, of the reference. -/
import Derived.Test.YteehcjjhkphdnaaGreatPH
namespace Go.Proofs.YteehcjjhkphdnaaGreat
open Go.RowKit

set_option maxRecDepth 100000 in
set_option maxHeartbeats 3200000 in
theorem specRc_any (d : Int) (Z E : List Int) (v ve : Value) (B B2 : Nat) (w : World) (hlz : Z.length ≤ 10000000) (hle : E.length ≤ 10000000)
    (ho : w.ownsRow B 3 1 v Z.length (cellsI Z)) (hoE : w.ownsRow B2 3 1 ve E.length (cellsI E)) :
    Calls Tryz.prog 22 #[.int .i64 d, v, ve] w fun e w' => e = .returned (.tuple #[.agg #[.int .i64 (pfV (rcO d Z E)).a, .int .i64 (pfV (rcO d Z E)).b, .int .i64 (pfV (rcO d Z E)).c], .bool (rcO d Z E).isSome]) ∧ Below w.heap.size w w' := by
  have hP0 := Lib.hid (fun w ho => amPrimes_any d Z v B w hlz ho)
  have hAll := Lib.hid (fun w h => l1All_any ve B2 E (-1000) 1000 w hle h)
  obtain ⟨bz, cz, rfl⟩ := own_shape ho
  obtain ⟨be, ce, rfl⟩ := own_shape hoE
  have HO := Lib.hid (own_alloc (o := .cells #[.int .i64 0, .int .i64 0, .int .i64 0] 36) ho)
  have HE := Lib.hid (own_alloc (o := .cells #[.int .i64 0, .int .i64 0, .int .i64 0] 36) hoE)
  clear ho hoE
  cases hc : isDisc d with
  | false =>
    have hz : pfsO d Z 6 = none := by unfold pfsO; rw [hc]; rfl
    rw [rcO_none hz]
    clear hP0 hz
    go_enter Tryz.func22, Tryz.ntmps22
    go_wp2_with (go_at_call 74; (with_reducible refine (rDisc_eq d false _ hc).mono ?_); rintro e v ⟨rfl, rfl⟩)
    exact bodyPost_ret (v := .tuple #[.agg #[.int .i64 0, .int .i64 0, .int .i64 0], .bool false]) (by simp [results, Tryz.results22, go_sem, *]) rfl ⟨rfl, (by repeat (first | with_reducible exact Below.refl _ _ | with_reducible assumption | with_reducible apply Below.drew | with_reducible apply below_drewN | (with_reducible apply below_setp; (first | omega | (simp <;> omega))) | (with_reducible apply below_allocp; (first | omega | (simp <;> omega))) | (with_reducible refine below_viap (by assumption) ?_ ?_; (first | omega | (simp <;> omega)))))⟩
  | true =>
    by_cases h16 : 1 ≤ (Z.length : Int) ∧ (Z.length : Int) ≤ 6
    · have hl16 : (decide (1 ≤ (Z.length : Int)) && decide ((Z.length : Int) ≤ 6)) = true := by rw [decide_eq_true h16.1, decide_eq_true h16.2]; rfl
      have hpo : pfsO d Z 6 = pfL d Z := by unfold pfsO; rw [if_pos ⟨hc, by omega, by omega⟩]
      by_cases hel : E.length = Z.length
      · have heb : ((E.length : Int) != (Z.length : Int)) = false := by rw [hel, bne_eq_false_iff_eq]
        cases hin : inR (-1000) 1000 E with
        | false =>
          rw [rcO_bad (fun h => by rw [hin] at h; cases h.2)]
          rw [hin] at hAll
          clear hP0 hpo hin hel
          go_enter Tryz.func22, Tryz.ntmps22
          go_wp2_with (first
            | (go_at_call 74; (with_reducible refine (rDisc_eq d true _ hc).mono ?_); rintro e v ⟨rfl, rfl⟩)
            | (go_at_call 89; refine (l1In_any _ _ _ _).mono ?_; rw [hl16]; rintro e v1 ⟨rfl, rfl⟩)
            | (go_at_call 90; refine (hAll.out _ HE.out).mono ?_; rintro e v1 ⟨rfl, rfl⟩))
          exact bodyPost_ret (v := .tuple #[.agg #[.int .i64 0, .int .i64 0, .int .i64 0], .bool false]) (by simp [results, Tryz.results22, go_sem, *]) rfl ⟨rfl, (by repeat (first | with_reducible exact Below.refl _ _ | with_reducible assumption | with_reducible apply Below.drew | with_reducible apply below_drewN | (with_reducible apply below_setp; (first | omega | (simp <;> omega))) | (with_reducible apply below_allocp; (first | omega | (simp <;> omega))) | (with_reducible refine below_viap (by assumption) ?_ ?_; (first | omega | (simp <;> omega)))))⟩
        | true =>
          rw [hin] at hAll
          cases hz : pfL d Z with
          | none =>
            rw [rcO_none (hpo.trans hz)]
            have hP := Lib.hid (fun w ho => (show Calls Tryz.prog 91 #[.int .i64 d, .slice bz Z.length cz] w (fun e w' => e = .returned (.tuple #[.slice none 0 0, .bool false]) ∧ Below w.heap.size w w') from (hP0.out w ho).mono (fun e w' h => by
              rcases h with ⟨_, a, b⟩ | ⟨L, v, a, _⟩
              · exact ⟨a, b⟩
              · rw [hz] at a; cases a)))
            clear hP0 hz hpo hin hel
            go_enter Tryz.func22, Tryz.ntmps22
            go_wp2_with (first
              | (go_at_call 74; (with_reducible refine (rDisc_eq d true _ hc).mono ?_); rintro e v ⟨rfl, rfl⟩)
              | (go_at_call 89; refine (l1In_any _ _ _ _).mono ?_; rw [hl16]; rintro e v1 ⟨rfl, rfl⟩)
              | (go_at_call 90; refine (hAll.out _ HE.out).mono ?_; rintro e v1 ⟨rfl, rfl⟩)
              | (go_at_call 91; (with_reducible refine (hP.out _ HO.out).mono ?_); rintro e v2 ⟨rfl, hB2⟩; have hZ2 := hB2.size; (try simp at hZ2); (try have zl2 : w.heap.size < v2.heap.size := by omega); (try have ze2 : w.heap.size ≤ v2.heap.size := by omega); (try have zn2 : ¬ w.heap.size = v2.heap.size := by omega); (try have zm2 : ¬ v2.heap.size = w.heap.size := by omega); have hR2 : Blk v2 (w.heap.size) 36 #[.int .i64 0, .int .i64 0, .int .i64 0] := Blk.call (by (repeat (first | with_reducible assumption | (with_reducible apply Blk.new_at; (first | rfl | (simp; done))) | with_reducible apply Blk.store3 | with_reducible apply Blk.store4 | (with_reducible apply Blk.farp; (first | omega | (simp <;> omega))) | with_reducible apply Blk.allocp | with_reducible apply Blk.drew | with_reducible apply Blk.drewN))) hB2; have cR2 := hR2.cell; have fR2 := hR2.frozen; have lR2 := hR2.lt; have mR2 := Nat.ne_of_gt lR2; have nR2 := Nat.ne_of_lt lR2))
            exact bodyPost_ret (v := .tuple #[.agg #[.int .i64 0, .int .i64 0, .int .i64 0], .bool false]) (by simp [results, Tryz.results22, go_sem, *]) rfl ⟨rfl, (by repeat (first | with_reducible exact Below.refl _ _ | with_reducible assumption | with_reducible apply Below.drew | with_reducible apply below_drewN | (with_reducible apply below_setp; (first | omega | (simp <;> omega))) | (with_reducible apply below_allocp; (first | omega | (simp <;> omega))) | (with_reducible refine below_viap (by assumption) ?_ ?_; (first | omega | (simp <;> omega)))))⟩
          | some L =>
            have hz6 := hpo.trans hz
            obtain ⟨_, hcf, hlen, hle6, _⟩ := pfsO_cf hz6
            have D := dsc_of hc
            have hP := Lib.hid (fun w ho => (show Calls Tryz.prog 91 #[.int .i64 d, .slice bz Z.length cz] w (fun e w' => ∃ v, e = .returned (.tuple #[v, .bool true]) ∧ w'.ownsRow w.heap.size 36 3 v (L.map red).length (cellsF (L.map red)) ∧ Below w.heap.size w w') from (hP0.out w ho).mono (fun e w' h => by
              rcases h with ⟨a, _⟩ | ⟨L, v, a, b⟩
              · rw [hz] at a; cases a
              · rw [hz] at a; injection a with a; subst a; exact ⟨v, b⟩)))
            have hll : (L.map red).length = L.length := List.length_map ..
            have hRel := Lib.hid (fun w v B B2 ho hoE => amClass_any d (L.map red) E v (.slice be E.length ce) B B2 w D (by omega) (by omega) (fun e he => by obtain ⟨a, b⟩ := inR_mem hin e he; omega) (fun f hf => by
              obtain ⟨g, hg, rfl⟩ := List.mem_map.1 hf
              exact (hcf g hg).mem) ho hoE)
            rw [rcO_yes hz6 hel hin]
            rw [hll] at hRel
            obtain ⟨rr, hrr⟩ : ∃ rr, relK d (L.map red) E L.length = rr := ⟨_, rfl⟩
            rw [hrr] at hRel ⊢
            generalize L.map red = K at *
            rw [← hll] at hRel
            clear hP0 hz hpo hin hel hz6 hcf D hrr hll
            go_enter Tryz.func22, Tryz.ntmps22
            go_wp2_with (first
              | (go_at_call 74; (with_reducible refine (rDisc_eq d true _ hc).mono ?_); rintro e v ⟨rfl, rfl⟩)
              | (go_at_call 89; refine (l1In_any _ _ _ _).mono ?_; rw [hl16]; rintro e v1 ⟨rfl, rfl⟩)
              | (go_at_call 90; refine (hAll.out _ HE.out).mono ?_; rintro e v1 ⟨rfl, rfl⟩)
              | (go_at_call 91; (with_reducible refine (hP.out _ HO.out).mono ?_); rintro e v1 ⟨vl, rfl, hol, hB1⟩; have hZ1 := hB1.size; (try simp at hZ1); have hR1 : Blk v1 w.heap.size 36 #[.int .i64 0, .int .i64 0, .int .i64 0] := Blk.call (by (repeat (first | with_reducible assumption | (with_reducible apply Blk.new_at; (first | rfl | (simp; done))) | with_reducible apply Blk.store3 | with_reducible apply Blk.store4 | (with_reducible apply Blk.farp; (first | omega | (simp <;> omega))) | with_reducible apply Blk.allocp | with_reducible apply Blk.drew | with_reducible apply Blk.drewN))) hB1; have cR1 := hR1.cell; have fR1 := hR1.frozen; have lR1 := hR1.lt; have mR1 := Nat.ne_of_gt lR1; have nR1 := Nat.ne_of_lt lR1; have hoe1 := own_call hB1 HE.out)
              | (go_at_call 92; (with_reducible refine (hRel.out _ _ _ _ hol hoe1).mono ?_); rintro e v2 ⟨rfl, hB2⟩; have hZ2 := hB2.size; (try simp at hZ2); (try have zl2 : w.heap.size < v2.heap.size := by omega); (try have ze2 : w.heap.size ≤ v2.heap.size := by omega); (try have zn2 : ¬ w.heap.size = v2.heap.size := by omega); (try have zm2 : ¬ v2.heap.size = w.heap.size := by omega); have hR2 : Blk v2 (w.heap.size) 36 #[.int .i64 0, .int .i64 0, .int .i64 0] := Blk.call (by (repeat (first | with_reducible assumption | (with_reducible apply Blk.new_at; (first | rfl | (simp; done))) | with_reducible apply Blk.store3 | with_reducible apply Blk.store4 | (with_reducible apply Blk.farp; (first | omega | (simp <;> omega))) | with_reducible apply Blk.allocp | with_reducible apply Blk.drew | with_reducible apply Blk.drewN))) hB2; have cR2 := hR2.cell; have fR2 := hR2.frozen; have lR2 := hR2.lt; have mR2 := Nat.ne_of_gt lR2; have nR2 := Nat.ne_of_lt lR2))
            exact bodyPost_ret (v := .tuple #[.agg #[.int .i64 rr.a, .int .i64 rr.b, .int .i64 rr.c], .bool true]) (by simp [results, Tryz.results22, go_sem, *]) rfl ⟨rfl, (by repeat (first | with_reducible exact Below.refl _ _ | with_reducible assumption | with_reducible apply Below.drew | with_reducible apply below_drewN | (with_reducible apply below_setp; (first | omega | (simp <;> omega))) | (with_reducible apply below_allocp; (first | omega | (simp <;> omega))) | (with_reducible refine below_viap (by assumption) ?_ ?_; (first | omega | (simp <;> omega)))))⟩
      · have heb : ((E.length : Int) != (Z.length : Int)) = true := by rw [bne_iff_ne]; omega
        rw [rcO_bad (fun h => hel h.1)]
        clear hP0 hpo hel
        go_enter Tryz.func22, Tryz.ntmps22
        go_wp2_with (first
          | (go_at_call 74; (with_reducible refine (rDisc_eq d true _ hc).mono ?_); rintro e v ⟨rfl, rfl⟩)
          | (go_at_call 89; refine (l1In_any _ _ _ _).mono ?_; rw [hl16]; rintro e v1 ⟨rfl, rfl⟩))
        exact bodyPost_ret (v := .tuple #[.agg #[.int .i64 0, .int .i64 0, .int .i64 0], .bool false]) (by simp [results, Tryz.results22, go_sem, *]) rfl ⟨rfl, (by repeat (first | with_reducible exact Below.refl _ _ | with_reducible assumption | with_reducible apply Below.drew | with_reducible apply below_drewN | (with_reducible apply below_setp; (first | omega | (simp <;> omega))) | (with_reducible apply below_allocp; (first | omega | (simp <;> omega))) | (with_reducible refine below_viap (by assumption) ?_ ?_; (first | omega | (simp <;> omega)))))⟩
    · have hz : pfsO d Z 6 = none := by
        unfold pfsO
        rw [if_neg (fun h => h16 ⟨by omega, h.2.2⟩)]
      have hl16 : (decide (1 ≤ (Z.length : Int)) && decide ((Z.length : Int) ≤ 6)) = false := by
        rw [← Bool.not_eq_true, Bool.and_eq_true, decide_eq_true_eq, decide_eq_true_eq]
        exact h16
      rw [rcO_none hz]
      clear hP0 hz h16
      go_enter Tryz.func22, Tryz.ntmps22
      go_wp2_with (first
        | (go_at_call 74; (with_reducible refine (rDisc_eq d true _ hc).mono ?_); rintro e v ⟨rfl, rfl⟩)
        | (go_at_call 89; refine (l1In_any _ _ _ _).mono ?_; rw [hl16]; rintro e v1 ⟨rfl, rfl⟩))
      exact bodyPost_ret (v := .tuple #[.agg #[.int .i64 0, .int .i64 0, .int .i64 0], .bool false]) (by simp [results, Tryz.results22, go_sem, *]) rfl ⟨rfl, (by repeat (first | with_reducible exact Below.refl _ _ | with_reducible assumption | with_reducible apply Below.drew | with_reducible apply below_drewN | (with_reducible apply below_setp; (first | omega | (simp <;> omega))) | (with_reducible apply below_allocp; (first | omega | (simp <;> omega))) | (with_reducible refine below_viap (by assumption) ?_ ?_; (first | omega | (simp <;> omega)))))⟩
end Go.Proofs.YteehcjjhkphdnaaGreat
