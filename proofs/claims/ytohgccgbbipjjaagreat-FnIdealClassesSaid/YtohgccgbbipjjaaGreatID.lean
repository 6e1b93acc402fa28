/- Contract: a sorted insertion into a list of points, of the reference. -/
import Derived.Test.YtohgccgbbipjjaaGreatIC
import Derived.Test.YtohgccgbbipjjaaGreatEP
namespace Go.Proofs.YtohgccgbbipjjaaGreat
open Go.RowKit

set_option maxRecDepth 100000 in
set_option maxHeartbeats 6400000 in
theorem vaPut_any (v : Value) (B : Nat) (L : List (Int × Int)) (x y : Int) (w : World) (hl : L.length ≤ 1000000) (h : w.ownsRow B 80 2 v L.length (cellsP L)) :
    Calls Tryz.prog 84 #[v, .agg #[.int .i64 x, .int .i64 y]] w (fun e w' => ∃ k, k ≤ L.length ∧ RetPs (insP L (x, y) k) w e w') := by
  obtain ⟨i0, hi, hz0, hz1, hz2⟩ := info_parts infoPt
  rcases h.2 with ⟨rfl, hn⟩ | ⟨g, cap, cur, rfl, hbg, hg, hnc, hcm, hcs, htake⟩
  · have hL : L = [] := List.eq_nil_of_length_eq_zero hn
    subst hL
    clear h hn
    go_enter Tryz.func84, Tryz.ntmps84
    go_wp2
    have hP : Hid (Blk (w.alloc (.cells #[.int .i64 x, .int .i64 y] 80)) w.heap.size 80 #[.int .i64 x, .int .i64 y]) := Lib.hid (Blk.new _ _ _)
    have hbel : Below w.heap.size w (w.alloc (.cells #[.int .i64 x, .int .i64 y] 80)) := (by repeat (first | with_reducible exact Below.refl _ _ | with_reducible assumption | with_reducible apply Below.drew | with_reducible apply below_drewN | (with_reducible apply below_setp; (first | omega | (simp <;> omega))) | (with_reducible apply below_allocp; (first | omega | (simp <;> omega))) | (with_reducible refine below_viap (by assumption) ?_ ?_; (first | omega | (simp <;> omega)))))
    refine wp_loop_rounds 1 ?_
    rw [rounds_succ]
    go_wp2
    refine wp_region_calm 34 (Below (w.heap.size + 1) _) (by kernel_rfl) (by kernel_rfl) ((Below.refl _ _).drew) ?_
    simp only [List.take_succ_cons, List.take_zero, List.drop_succ_cons, List.drop_zero]
    repeat (first | (apply wpCalm_go; go_simp; (intro w' hw' hcc hff; go_simp; first | exact rfl | fail); (intro K hK; go_simp; refine hK _ ?_; clear hK K)) | (apply wpCalm_skip; go_simp; (try (focus (simp [undef]; done))); (intro K hK; go_simp; refine hK _ ?_; clear hK K)))
    refine wpCalm_nil ?_
    intro w1 hw1
    have hcc := (calm_cells hw1).1
    have hff := (calm_cells hw1).2
    have hss := calm_size hw1
    have hsz := hw1.size
    (try simp at hsz)
    obtain ⟨wo, hwo⟩ : ∃ wo, w1 = wo := ⟨_, rfl⟩
    have hPo : Blk wo w.heap.size 80 #[.int .i64 x, .int .i64 y] := by rw [← hwo]; exact Blk.below hP.out hw1 (by omega)
    have hbo : Below w.heap.size w wo := by rw [← hwo]; exact below_via hbel hw1 (by omega)
    have cPo := hPo.cell; have fPo := hPo.frozen; have lPo := hPo.lt
    have hlo1 : w.heap.size < wo.heap.size := lPo
    have hlo2 : w.heap.size ≤ wo.heap.size := by omega
    have npo : ¬ w.heap.size = wo.heap.size := by omega
    rw [hwo]
    clear hwo
    go_wp2_with (first
      | (at_builtin; refine wpList_append_any _ rfl (.tmp 43) (.tmp 46) _ rfl wo.heap.size 80 i0 _ 2 16 Tryz.underlying77 hi hz0 hz1 hz2 rfl (by omega) (.slice (some ⟨wo.heap.size, 0, none⟩) 0 0) 0 [] rfl (own_empty (Nat.le_refl _)) w.heap.size none 0 _ (cellsP ([])) rfl Reads.none_ (cellsP_one _) (by unfold maxLen; omega) (by omega) (by simp) ?_; intro x1 w1 hown1 hg1 hat1; have hb1 : Below wo.heap.size wo w1 := Below.grown ((by repeat (first | with_reducible exact Below.refl _ _ | with_reducible assumption | with_reducible apply Below.drew | with_reducible apply below_drewN | (with_reducible apply below_setp; (first | omega | (simp <;> omega))) | (with_reducible apply below_allocp; (first | omega | (simp <;> omega))) | (with_reducible refine below_viap (by assumption) ?_ ?_; (first | omega | (simp <;> omega)))))) hg1 (by simp) (fun q hq => by simp [Value.ownBlock] at hq; omega); have hz5 := hb1.size; have hP1 : Blk w1 w.heap.size 80 #[.int .i64 x, .int .i64 y] := Blk.below hPo hb1 hlo1; have cP1 := hP1.cell; have fP1 := hP1.frozen; have lP1 := hP1.lt)
      | (at_builtin; refine wpList_append_any _ rfl (.tmp 48) (.tmp 50) _ rfl wo.heap.size 80 i0 _ 2 16 Tryz.underlying77 hi hz0 hz1 hz2 rfl (by omega) x1 (0 + 0) ([] ++ cellsP ([])) rfl (own_alloc hown1) (w1.heap.size + 1) _ 1 _ [.int .i64 x, .int .i64 y] rfl ⟨rfl, fun _ => ⟨_, rfl, by simp, cells2 (Blk.new _ _ _)⟩⟩ (one2 _ _) (by unfold maxLen; omega) (by omega) (by simp; omega) ?_; intro x2 w2 hown2 hg2 hat2; have hb2 : Below wo.heap.size wo w2 := Below.grown ((by repeat (first | with_reducible exact Below.refl _ _ | with_reducible assumption | with_reducible apply Below.drew | with_reducible apply below_drewN | (with_reducible apply below_setp; (first | omega | (simp <;> omega))) | (with_reducible apply below_allocp; (first | omega | (simp <;> omega))) | (with_reducible refine below_viap (by assumption) ?_ ?_; (first | omega | (simp <;> omega)))))) hg2 (by simp; omega) (fun q hq => (own_ge hown1) q hq); have hz6 := hb2.size)
      | (at_builtin; refine wpList_append_any _ rfl (.tmp 52) (.tmp 55) _ rfl wo.heap.size 80 i0 _ 2 16 Tryz.underlying77 hi hz0 hz1 hz2 rfl (by omega) x2 (0 + 0 + 1) ([] ++ cellsP ([]) ++ [.int .i64 x, .int .i64 y]) rfl hown2 w.heap.size none 0 _ (cellsP ([])) rfl Reads.none_ (cellsP_one _) (by unfold maxLen; omega) (by omega) (by omega) ?_; intro x3 w3 hown3 hg3 hat3; have hb3 : Below wo.heap.size wo w3 := Below.grown hb2 hg3 (by omega) (fun q hq => (own_ge hown2) q hq)))
    go_ret
    exact ⟨0, Nat.zero_le _, x3, rfl, own_base hlo2 (by simpa [insP, cellsP] using hown3), below_via hbo hb3 hlo2⟩
  · have hcells : ∀ j (hj : j < L.length), w.cell? ⟨g, j * 2, none⟩ = some (.int .i64 L[j].1) ∧ w.cell? ⟨g, j * 2 + 1, none⟩ = some (.int .i64 L[j].2) := by
      intro j hj
      obtain ⟨g', e, _, hc⟩ := own_elemP h hj
      injection e with e; injection e with e; subst e
      exact hc
    have Hc := Lib.hid hcells
    have hrd := Lib.hid (Reads.of_own h)
    have hgl : g < w.heap.size := (Array.getElem?_eq_some_iff.1 hg).1
    have hng : ¬ g = w.heap.size := by omega
    have hP0 : Blk (w.alloc (.cells #[.int .i64 x, .int .i64 y] 80)) w.heap.size 80 #[.int .i64 x, .int .i64 y] := Blk.new _ _ _
    have hb0 : Below w.heap.size w (w.alloc (.cells #[.int .i64 x, .int .i64 y] 80)) := (by repeat (first | with_reducible exact Below.refl _ _ | with_reducible assumption | with_reducible apply Below.drew | with_reducible apply below_drewN | (with_reducible apply below_setp; (first | omega | (simp <;> omega))) | (with_reducible apply below_allocp; (first | omega | (simp <;> omega))) | (with_reducible refine below_viap (by assumption) ?_ ?_; (first | omega | (simp <;> omega)))))
    clear hcells h hg hcs htake
    go_enter Tryz.func84, Tryz.ntmps84
    go_wp2
    go_loopw [5] (fun s wr => ∃ k : Nat, s = .int .i64 k ∧ k ≤ L.length ∧ Hid (Blk wr w.heap.size 80 #[.int .i64 x, .int .i64 y]) ∧ Below w.heap.size w wr) (fun s _ => L.length - (intOf s).toNat)
    case atStart => exact ⟨0, rfl, Nat.zero_le _, Lib.hid hP0, hb0⟩
    case round =>
      clear hP0 hb0
      obtain ⟨k, rfl, hk, hP, hbel⟩ := hrel
      have hz := hbel.size
      have cP := hP.out.cell; have fP := hP.out.frozen; have lP := hP.out.lt
      by_cases hlt : k < L.length
      · obtain ⟨c1, c2⟩ := Hc.out k hlt
        generalize L[k] = q at c1 c2
        obtain ⟨s, t⟩ := q
        dsimp only at c1 c2
        rw [← (calm_cells hbel).1 g _ hgl] at c1 c2
        by_cases e1 : s < x
        · go_wp2
          refine wp_region_calm 34 (Below (w.heap.size + 1) _) (by kernel_rfl) (by kernel_rfl) ((Below.refl _ _).drew) ?_
          simp only [List.take_succ_cons, List.take_zero, List.drop_succ_cons, List.drop_zero]
          repeat (first | (apply wpCalm_go; go_simp; (intro w' hw' hcc hff; go_simp; first | exact rfl | fail); (intro K hK; go_simp; refine hK _ ?_; clear hK K)) | (apply wpCalm_skip; go_simp; (try (focus (simp [undef]; done))); (intro K hK; go_simp; refine hK _ ?_; clear hK K)))
          refine wpCalm_nil ?_
          intro w1 hw1
          have hcc := (calm_cells hw1).1
          have hff := (calm_cells hw1).2
          have hss := calm_size hw1
          have hsz := hw1.size
          (try simp at hsz)
          go_wp2
          go_roundw
          case rel => exact ⟨k + 1, by go_num, hlt, Lib.hid (Blk.below hP.out hw1 (by omega)), below_via hbel hw1 (by omega)⟩
          case measure => simp [intOf]; omega
        · by_cases e2 : s = x
          · subst e2
            by_cases e3 : t < y
            · go_wp2
              refine wp_region_calm 34 (Below (w.heap.size + 1) _) (by kernel_rfl) (by kernel_rfl) ((Below.refl _ _).drew) ?_
              simp only [List.take_succ_cons, List.take_zero, List.drop_succ_cons, List.drop_zero]
              repeat (first | (apply wpCalm_go; go_simp; (intro w' hw' hcc hff; go_simp; first | exact rfl | fail); (intro K hK; go_simp; refine hK _ ?_; clear hK K)) | (apply wpCalm_skip; go_simp; (try (focus (simp [undef]; done))); (intro K hK; go_simp; refine hK _ ?_; clear hK K)))
              refine wpCalm_nil ?_
              intro w1 hw1
              have hcc := (calm_cells hw1).1
              have hff := (calm_cells hw1).2
              have hss := calm_size hw1
              have hsz := hw1.size
              (try simp at hsz)
              go_wp2
              go_roundw
              case rel => exact ⟨k + 1, by go_num, hlt, Lib.hid (Blk.below hP.out hw1 (by omega)), below_via hbel hw1 (by omega)⟩
              case measure => simp [intOf]; omega
            · go_wp2
              refine wp_region_calm 34 (Below (w.heap.size + 1) _) (by kernel_rfl) (by kernel_rfl) ((Below.refl _ _).drew) ?_
              simp only [List.take_succ_cons, List.take_zero, List.drop_succ_cons, List.drop_zero]
              repeat (first | (apply wpCalm_go; go_simp; (intro w' hw' hcc hff; go_simp; first | exact rfl | fail); (intro K hK; go_simp; refine hK _ ?_; clear hK K)) | (apply wpCalm_skip; go_simp; (try (focus (simp [undef]; done))); (intro K hK; go_simp; refine hK _ ?_; clear hK K)))
              refine wpCalm_nil ?_
              intro w1 hw1
              have hcc := (calm_cells hw1).1
              have hff := (calm_cells hw1).2
              have hss := calm_size hw1
              have hsz := hw1.size
              (try simp at hsz)
              obtain ⟨wo, hwo⟩ : ∃ wo, w1 = wo := ⟨_, rfl⟩
              have hPo : Blk wo w.heap.size 80 #[.int .i64 s, .int .i64 y] := by rw [← hwo]; exact Blk.below hP.out hw1 (by omega)
              have hbo : Below w.heap.size w wo := by rw [← hwo]; exact below_via hbel hw1 (by omega)
              have cPo := hPo.cell; have fPo := hPo.frozen; have lPo := hPo.lt
              have hlo1 : w.heap.size < wo.heap.size := lPo
              have hlo2 : w.heap.size ≤ wo.heap.size := by omega
              have npo : ¬ w.heap.size = wo.heap.size := by omega
              rw [hwo]
              clear hwo
              have hrd2 := hrd.out.below hbo
              go_wp2_with (first
                | (at_builtin; refine wpList_append_any _ rfl (.tmp 43) (.tmp 46) _ rfl wo.heap.size 80 i0 _ 2 16 Tryz.underlying77 hi hz0 hz1 hz2 rfl (by omega) (.slice (some ⟨wo.heap.size, 0, none⟩) 0 0) 0 [] rfl (own_empty (Nat.le_refl _)) w.heap.size _ k _ (cellsP (L.take k)) rfl ((readsP_take hrd2 hk).alloc hlo2 _) (cellsP_one _) (by unfold maxLen; omega) (by omega) (by simp) ?_; intro x1 w1 hown1 hg1 hat1; have hb1 : Below wo.heap.size wo w1 := Below.grown ((by repeat (first | with_reducible exact Below.refl _ _ | with_reducible assumption | with_reducible apply Below.drew | with_reducible apply below_drewN | (with_reducible apply below_setp; (first | omega | (simp <;> omega))) | (with_reducible apply below_allocp; (first | omega | (simp <;> omega))) | (with_reducible refine below_viap (by assumption) ?_ ?_; (first | omega | (simp <;> omega)))))) hg1 (by simp) (fun q hq => by simp [Value.ownBlock] at hq; omega); have hz5 := hb1.size; have hP1 : Blk w1 w.heap.size 80 #[.int .i64 s, .int .i64 y] := Blk.below hPo hb1 hlo1; have cP1 := hP1.cell; have fP1 := hP1.frozen; have lP1 := hP1.lt)
                | (at_builtin; refine wpList_append_any _ rfl (.tmp 48) (.tmp 50) _ rfl wo.heap.size 80 i0 _ 2 16 Tryz.underlying77 hi hz0 hz1 hz2 rfl (by omega) x1 (0 + k) ([] ++ cellsP (L.take k)) rfl (own_alloc hown1) (w1.heap.size + 1) _ 1 _ [.int .i64 s, .int .i64 y] rfl ⟨rfl, fun _ => ⟨_, rfl, by simp, cells2 (Blk.new _ _ _)⟩⟩ (one2 _ _) (by unfold maxLen; omega) (by omega) (by simp; omega) ?_; intro x2 w2 hown2 hg2 hat2; have hb2 : Below wo.heap.size wo w2 := Below.grown ((by repeat (first | with_reducible exact Below.refl _ _ | with_reducible assumption | with_reducible apply Below.drew | with_reducible apply below_drewN | (with_reducible apply below_setp; (first | omega | (simp <;> omega))) | (with_reducible apply below_allocp; (first | omega | (simp <;> omega))) | (with_reducible refine below_viap (by assumption) ?_ ?_; (first | omega | (simp <;> omega)))))) hg2 (by simp; omega) (fun q hq => (own_ge hown1) q hq); have hz6 := hb2.size)
                | (at_builtin; refine wpList_append_any _ rfl (.tmp 52) (.tmp 55) _ rfl wo.heap.size 80 i0 _ 2 16 Tryz.underlying77 hi hz0 hz1 hz2 rfl (by omega) x2 (0 + k + 1) ([] ++ cellsP (L.take k) ++ [.int .i64 s, .int .i64 y]) rfl hown2 w.heap.size _ (L.length - k) _ (cellsP (L.drop k)) rfl ?_ (cellsP_one _) (by unfold maxLen; omega) (by omega) (by omega) ?_))
              · have hr5 := readsP_drop hrd2 hk hnc
                rw [if_neg (by omega)] at hr5
                exact hr5.below (hb2.mono hlo2)
              · intro x3 w3 hown3 hg3 hat3
                have hb3 : Below wo.heap.size wo w3 := Below.grown hb2 hg3 (by omega) (fun q hq => (own_ge hown2) q hq)
                have ho3 : w3.ownsRow wo.heap.size 80 2 x3 (insP L (s, y) k).length (cellsP (insP L (s, y) k)) := by
                  have e2 : [] ++ cellsP (L.take k) ++ [.int .i64 s, .int .i64 y] ++ cellsP (L.drop k) = cellsP (insP L (s, y) k) := by unfold insP; rw [cellsP_append, cellsP_cons]; simp
                  have e3 : 0 + k + 1 + (L.length - k) = (insP L (s, y) k).length := by rw [insP_len]; omega
                  rw [← e2, ← e3]; simpa using hown3
                clear hown3
                go_wp2
                go_ret
                exact ⟨k, hk, x3, rfl, own_base hlo2 ho3, below_via hbo hb3 hlo2⟩
          · have e4 : (s == x) = false := by rw [beq_eq_false_iff_ne]; exact e2
            clear e2
            go_wp2
            refine wp_region_calm 34 (Below (w.heap.size + 1) _) (by kernel_rfl) (by kernel_rfl) ((Below.refl _ _).drew) ?_
            simp only [List.take_succ_cons, List.take_zero, List.drop_succ_cons, List.drop_zero]
            repeat (first | (apply wpCalm_go; go_simp; (intro w' hw' hcc hff; go_simp; first | exact rfl | fail); (intro K hK; go_simp; refine hK _ ?_; clear hK K)) | (apply wpCalm_skip; go_simp; (try (focus (simp [undef]; done))); (intro K hK; go_simp; refine hK _ ?_; clear hK K)))
            refine wpCalm_nil ?_
            intro w1 hw1
            have hcc := (calm_cells hw1).1
            have hff := (calm_cells hw1).2
            have hss := calm_size hw1
            have hsz := hw1.size
            (try simp at hsz)
            obtain ⟨wo, hwo⟩ : ∃ wo, w1 = wo := ⟨_, rfl⟩
            have hPo : Blk wo w.heap.size 80 #[.int .i64 x, .int .i64 y] := by rw [← hwo]; exact Blk.below hP.out hw1 (by omega)
            have hbo : Below w.heap.size w wo := by rw [← hwo]; exact below_via hbel hw1 (by omega)
            have cPo := hPo.cell; have fPo := hPo.frozen; have lPo := hPo.lt
            have hlo1 : w.heap.size < wo.heap.size := lPo
            have hlo2 : w.heap.size ≤ wo.heap.size := by omega
            have npo : ¬ w.heap.size = wo.heap.size := by omega
            rw [hwo]
            clear hwo
            have hrd2 := hrd.out.below hbo
            go_wp2_with (first
              | (at_builtin; refine wpList_append_any _ rfl (.tmp 43) (.tmp 46) _ rfl wo.heap.size 80 i0 _ 2 16 Tryz.underlying77 hi hz0 hz1 hz2 rfl (by omega) (.slice (some ⟨wo.heap.size, 0, none⟩) 0 0) 0 [] rfl (own_empty (Nat.le_refl _)) w.heap.size _ k _ (cellsP (L.take k)) rfl ((readsP_take hrd2 hk).alloc hlo2 _) (cellsP_one _) (by unfold maxLen; omega) (by omega) (by simp) ?_; intro x1 w1 hown1 hg1 hat1; have hb1 : Below wo.heap.size wo w1 := Below.grown ((by repeat (first | with_reducible exact Below.refl _ _ | with_reducible assumption | with_reducible apply Below.drew | with_reducible apply below_drewN | (with_reducible apply below_setp; (first | omega | (simp <;> omega))) | (with_reducible apply below_allocp; (first | omega | (simp <;> omega))) | (with_reducible refine below_viap (by assumption) ?_ ?_; (first | omega | (simp <;> omega)))))) hg1 (by simp) (fun q hq => by simp [Value.ownBlock] at hq; omega); have hz5 := hb1.size; have hP1 : Blk w1 w.heap.size 80 #[.int .i64 x, .int .i64 y] := Blk.below hPo hb1 hlo1; have cP1 := hP1.cell; have fP1 := hP1.frozen; have lP1 := hP1.lt)
              | (at_builtin; refine wpList_append_any _ rfl (.tmp 48) (.tmp 50) _ rfl wo.heap.size 80 i0 _ 2 16 Tryz.underlying77 hi hz0 hz1 hz2 rfl (by omega) x1 (0 + k) ([] ++ cellsP (L.take k)) rfl (own_alloc hown1) (w1.heap.size + 1) _ 1 _ [.int .i64 x, .int .i64 y] rfl ⟨rfl, fun _ => ⟨_, rfl, by simp, cells2 (Blk.new _ _ _)⟩⟩ (one2 _ _) (by unfold maxLen; omega) (by omega) (by simp; omega) ?_; intro x2 w2 hown2 hg2 hat2; have hb2 : Below wo.heap.size wo w2 := Below.grown ((by repeat (first | with_reducible exact Below.refl _ _ | with_reducible assumption | with_reducible apply Below.drew | with_reducible apply below_drewN | (with_reducible apply below_setp; (first | omega | (simp <;> omega))) | (with_reducible apply below_allocp; (first | omega | (simp <;> omega))) | (with_reducible refine below_viap (by assumption) ?_ ?_; (first | omega | (simp <;> omega)))))) hg2 (by simp; omega) (fun q hq => (own_ge hown1) q hq); have hz6 := hb2.size)
              | (at_builtin; refine wpList_append_any _ rfl (.tmp 52) (.tmp 55) _ rfl wo.heap.size 80 i0 _ 2 16 Tryz.underlying77 hi hz0 hz1 hz2 rfl (by omega) x2 (0 + k + 1) ([] ++ cellsP (L.take k) ++ [.int .i64 x, .int .i64 y]) rfl hown2 w.heap.size _ (L.length - k) _ (cellsP (L.drop k)) rfl ?_ (cellsP_one _) (by unfold maxLen; omega) (by omega) (by omega) ?_))
            · have hr5 := readsP_drop hrd2 hk hnc
              rw [if_neg (by omega)] at hr5
              exact hr5.below (hb2.mono hlo2)
            · intro x3 w3 hown3 hg3 hat3
              have hb3 : Below wo.heap.size wo w3 := Below.grown hb2 hg3 (by omega) (fun q hq => (own_ge hown2) q hq)
              have ho3 : w3.ownsRow wo.heap.size 80 2 x3 (insP L (x, y) k).length (cellsP (insP L (x, y) k)) := by
                have e2 : [] ++ cellsP (L.take k) ++ [.int .i64 x, .int .i64 y] ++ cellsP (L.drop k) = cellsP (insP L (x, y) k) := by unfold insP; rw [cellsP_append, cellsP_cons]; simp
                have e3 : 0 + k + 1 + (L.length - k) = (insP L (x, y) k).length := by rw [insP_len]; omega
                rw [← e2, ← e3]; simpa using hown3
              clear hown3
              go_wp2
              go_ret
              exact ⟨k, hk, x3, rfl, own_base hlo2 ho3, below_via hbo hb3 hlo2⟩
      · have hkl : k = L.length := by omega
        subst hkl
        go_wp2
        refine wp_region_calm 34 (Below (w.heap.size + 1) _) (by kernel_rfl) (by kernel_rfl) ((Below.refl _ _).drew) ?_
        simp only [List.take_succ_cons, List.take_zero, List.drop_succ_cons, List.drop_zero]
        repeat (first | (apply wpCalm_go; go_simp; (intro w' hw' hcc hff; go_simp; first | exact rfl | fail); (intro K hK; go_simp; refine hK _ ?_; clear hK K)) | (apply wpCalm_skip; go_simp; (try (focus (simp [undef]; done))); (intro K hK; go_simp; refine hK _ ?_; clear hK K)))
        refine wpCalm_nil ?_
        intro w1 hw1
        have hcc := (calm_cells hw1).1
        have hff := (calm_cells hw1).2
        have hss := calm_size hw1
        have hsz := hw1.size
        (try simp at hsz)
        obtain ⟨wo, hwo⟩ : ∃ wo, w1 = wo := ⟨_, rfl⟩
        have hPo : Blk wo w.heap.size 80 #[.int .i64 x, .int .i64 y] := by rw [← hwo]; exact Blk.below hP.out hw1 (by omega)
        have hbo : Below w.heap.size w wo := by rw [← hwo]; exact below_via hbel hw1 (by omega)
        have cPo := hPo.cell; have fPo := hPo.frozen; have lPo := hPo.lt
        have hlo1 : w.heap.size < wo.heap.size := lPo
        have hlo2 : w.heap.size ≤ wo.heap.size := by omega
        have npo : ¬ w.heap.size = wo.heap.size := by omega
        rw [hwo]
        clear hwo
        have hrd2 := hrd.out.below hbo
        go_wp2_with (first
          | (at_builtin; refine wpList_append_any _ rfl (.tmp 43) (.tmp 46) _ rfl wo.heap.size 80 i0 _ 2 16 Tryz.underlying77 hi hz0 hz1 hz2 rfl (by omega) (.slice (some ⟨wo.heap.size, 0, none⟩) 0 0) 0 [] rfl (own_empty (Nat.le_refl _)) w.heap.size _ L.length _ (cellsP (L)) rfl (hrd2.alloc hlo2 _) (cellsP_one _) (by unfold maxLen; omega) (by omega) (by simp) ?_; intro x1 w1 hown1 hg1 hat1; have hb1 : Below wo.heap.size wo w1 := Below.grown ((by repeat (first | with_reducible exact Below.refl _ _ | with_reducible assumption | with_reducible apply Below.drew | with_reducible apply below_drewN | (with_reducible apply below_setp; (first | omega | (simp <;> omega))) | (with_reducible apply below_allocp; (first | omega | (simp <;> omega))) | (with_reducible refine below_viap (by assumption) ?_ ?_; (first | omega | (simp <;> omega)))))) hg1 (by simp) (fun q hq => by simp [Value.ownBlock] at hq; omega); have hz5 := hb1.size; have hP1 : Blk w1 w.heap.size 80 #[.int .i64 x, .int .i64 y] := Blk.below hPo hb1 hlo1; have cP1 := hP1.cell; have fP1 := hP1.frozen; have lP1 := hP1.lt)
          | (at_builtin; refine wpList_append_any _ rfl (.tmp 48) (.tmp 50) _ rfl wo.heap.size 80 i0 _ 2 16 Tryz.underlying77 hi hz0 hz1 hz2 rfl (by omega) x1 (0 + L.length) ([] ++ cellsP (L)) rfl (own_alloc hown1) (w1.heap.size + 1) _ 1 _ [.int .i64 x, .int .i64 y] rfl ⟨rfl, fun _ => ⟨_, rfl, by simp, cells2 (Blk.new _ _ _)⟩⟩ (one2 _ _) (by unfold maxLen; omega) (by omega) (by simp; omega) ?_; intro x2 w2 hown2 hg2 hat2; have hb2 : Below wo.heap.size wo w2 := Below.grown ((by repeat (first | with_reducible exact Below.refl _ _ | with_reducible assumption | with_reducible apply Below.drew | with_reducible apply below_drewN | (with_reducible apply below_setp; (first | omega | (simp <;> omega))) | (with_reducible apply below_allocp; (first | omega | (simp <;> omega))) | (with_reducible refine below_viap (by assumption) ?_ ?_; (first | omega | (simp <;> omega)))))) hg2 (by simp; omega) (fun q hq => (own_ge hown1) q hq); have hz6 := hb2.size)
          | (at_builtin; refine wpList_append_any _ rfl (.tmp 52) (.tmp 55) _ rfl wo.heap.size 80 i0 _ 2 16 Tryz.underlying77 hi hz0 hz1 hz2 rfl (by omega) x2 (0 + L.length + 1) ([] ++ cellsP L ++ [.int .i64 x, .int .i64 y]) rfl hown2 w.heap.size _ 0 _ [] rfl ⟨by simp, fun h => absurd h (by omega)⟩ (fun _ h => by simp at h) (by unfold maxLen; omega) (by omega) (by omega) ?_; intro x3 w3 hown3 hg3 hat3; have hb3 : Below wo.heap.size wo w3 := Below.grown hb2 hg3 (by omega) (fun q hq => (own_ge hown2) q hq)))
        all_goals
          go_ret
          refine ⟨L.length, Nat.le_refl _, x3, rfl, own_base hlo2 ?_, below_via hbo hb3 hlo2⟩
          rw [insP_len]
          have e2 : [] ++ cellsP L ++ [.int .i64 x, .int .i64 y] = cellsP (insP L (x, y) L.length) := by unfold insP; rw [List.take_length, List.drop_length, cellsP_append]; simp [cellsP]
          rw [← e2]; simpa using hown3
end Go.Proofs.YtohgccgbbipjjaaGreat
