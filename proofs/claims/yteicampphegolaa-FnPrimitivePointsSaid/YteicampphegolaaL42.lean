/- FnPrimitivePoints returns true: for every drawn discriminant, the primitive representations of n by all reduced forms are as many as the automorphs times the primitive forms that begin with n, and completed points begin with their values. Conditions: none. -/
import Derived.Test.YteicampphegolaaI7
import Derived.Test.YteicampphegolaaI8
import Derived.Test.YteicampphegolaaDB
import Derived.Test.YteicampphegolaaW2
namespace Go.Proofs.Yteicampphegolaa
open Go.RowKit Go.ChangeShapes Go.WideShapes Go.ChangeAt Go.Joins

set_option maxRecDepth 100000 in
set_option maxHeartbeats 6400000 in
theorem walk_FnPrimitivePoints (zs es : List Int) (v u : Value) (w : World) (hz : ReB zs v w) (he : ReB es u w) :
    Calls Try.prog 9 #[v, u] w fun e w' => e = .returned (.bool true) ∧ Below w.heap.size w w' := by
  have HZ := Lib.hid hz
  have HY := Lib.hid he
  obtain ⟨A, c, rfl⟩ := hz.shape
  obtain ⟨A2, c2, rfl⟩ := he.shape
  clear hz he
  by_cases hbig : zs.length ≤ 1048576 ∧ es.length ≤ 1048576 - zs.length
  · have Hb := Lib.hid (fun w => big_no A A2 zs.length es.length c c2 w hbig.1 hbig.2)
    have HR := Lib.hid (HZ.out.rd hbig.1)
    have HE := Lib.hid (fun w' (hb : Below w.heap.size w w') => (HY.out.rd (by omega)).below hb (Nat.le_refl _))
    clear HZ HY hbig
    go_enter Try.func9, Try.ntmps9
    go_wp2_with (go_at_call 11; (with_reducible refine (Hb.out _).mono ?_); rintro e v ⟨rfl, rfl⟩)
    refine (drawRep_any zs _ _ _ HR.out (Nat.le_refl _)).mono ?_
    rintro e w1 ⟨d, p, rfl, hb1⟩
    have hz1 := hb1.size
    obtain ⟨R, ok, hR, hRl⟩ := rpL_ex d p
    have HI := Lib.hid (fun w => implRep_any d p R ok w hR)
    have HS := Lib.hid (fun w => specRep_any d p R ok w hR)
    have hcase : (ok = false ∧ R = []) ∨ (ok = true ∧ isDisc d = true ∧ shwB p = true ∧ R = (clsL d).filter (repP d p)) := by
      rcases hR with ⟨_, h1, h2⟩ | ⟨_, _, h1, h2⟩ | ⟨h0, h3, h1, h2⟩
      · exact .inl ⟨h2, h1⟩
      · exact .inl ⟨h2, h1⟩
      · exact .inr ⟨h2, h0, h3, h1⟩
    clear hR
    rcases hcase with ⟨rfl, rfl⟩ | ⟨rfl, hc, hs, hR⟩
    · go_wp2_with fail
      refine (HI.out _).mono ?_
      rintro e w2 ⟨vi, rfl, hi2, hb2⟩
      have hz2 := hb2.size
      go_wp2_with fail
      refine (HS.out _).mono ?_
      rintro e w3 ⟨vs, rfl, hs3, hb3⟩
      have hz3 := hb3.size
      have hi3 := own_call hb3 hi2
      have hb13 := below_via hb1 (below_via hb2 hb3 hz2) hz1
      clear hi2 hb2 hb3 hb1
      go_wp2_with (go_at_call 72; refine (pSameForms_same vi vs _ _ [] _ (by simp) hi3 hs3).mono ?_; rintro e w4 ⟨rfl, hb4⟩)
      have hz4 := hb4.size
      have hb14 := below_via hb13 hb4 hb13.size
      clear hi3 hs3 hb4 hb13 HI HS
      refine (drawCf_any es _ w.heap.size _ (HE.out _ (by repeat (first | with_reducible exact Below.refl _ _ | with_reducible assumption | with_reducible apply Below.drew | with_reducible apply below_drewN | (with_reducible apply below_setp; (first | omega | (simp <;> omega))) | (with_reducible apply below_allocp; (first | omega | (simp <;> omega))) | (with_reducible refine below_viap (by assumption) ?_ ?_; (first | omega | (simp <;> omega)))))) (by first | omega | (simp <;> omega))).mono ?_
      rintro e w5 ⟨f, x, y, rfl, ⟨hx, hy⟩, hb5⟩
      have hz5 := hb5.size
      have hb15 := below_via hb14 hb5 hb14.size
      clear hb5 hb14 HE
      obtain ⟨g1, g2, g3, m1, m2, m3, m4, ok2, hC⟩ := cfR_ex f.a f.b f.c x y
      have HJ := Lib.hid (fun w => implCf_any f.a f.b f.c x y g1 g2 g3 m1 m2 m3 m4 ok2 w hx hy hC)
      have HT := Lib.hid (fun w => specCf_any f.a f.b f.c x y g1 g2 g3 m1 m2 m3 m4 ok2 w hx hy hC)
      rcases hC with ⟨⟨-, -, rfl⟩, -⟩ | ⟨rfl, S, Q, T, E, P, hD, h1, h2, ⟨e1, e2, e3⟩, e4, e5, e6, e7⟩
      · go_wp2_with (first
          | (go_at_call 76; (with_reducible refine (HJ.out _).mono ?_); rintro e v6 ⟨rfl, hB6⟩; have hZ6 := hB6.size; (try simp at hZ6); (try have zl6 : w.heap.size < v6.heap.size := by omega); (try have ze6 : w.heap.size ≤ v6.heap.size := by omega); (try have zn6 : ¬ w.heap.size = v6.heap.size := by omega); (try have zm6 : ¬ v6.heap.size = w.heap.size := by omega); have hF6 : Blk v6 (w5.heap.size) 35 #[.int .i64 f.a, .int .i64 f.b, .int .i64 f.c] := Blk.call (by (repeat (first | with_reducible assumption | (with_reducible apply Blk.new_at; (first | rfl | (simp; done))) | with_reducible apply Blk.store3 | with_reducible apply Blk.store4 | (with_reducible apply Blk.farp; (first | omega | (simp <;> omega))) | with_reducible apply Blk.allocp | with_reducible apply Blk.drew | with_reducible apply Blk.drewN))) hB6; have cF6 := hF6.cell; have fF6 := hF6.frozen; have lF6 := hF6.lt; have mF6 := Nat.ne_of_gt lF6; have nF6 := Nat.ne_of_lt lF6)
          | (go_at_call 77; (with_reducible refine (HT.out _).mono ?_); rintro e v7 ⟨rfl, hB7⟩; have hZ7 := hB7.size; (try simp at hZ7); (try have zl7 : w.heap.size < v7.heap.size := by omega); (try have ze7 : w.heap.size ≤ v7.heap.size := by omega); (try have zn7 : ¬ w.heap.size = v7.heap.size := by omega); (try have zm7 : ¬ v7.heap.size = w.heap.size := by omega); have hF7 : Blk v7 (w5.heap.size) 35 #[.int .i64 f.a, .int .i64 f.b, .int .i64 f.c] := Blk.call (by (repeat (first | with_reducible assumption | (with_reducible apply Blk.new_at; (first | rfl | (simp; done))) | with_reducible apply Blk.store3 | with_reducible apply Blk.store4 | (with_reducible apply Blk.farp; (first | omega | (simp <;> omega))) | with_reducible apply Blk.allocp | with_reducible apply Blk.drew | with_reducible apply Blk.drewN))) hB7; have cF7 := hF7.cell; have fF7 := hF7.frozen; have lF7 := hF7.lt; have mF7 := Nat.ne_of_gt lF7; have nF7 := Nat.ne_of_lt lF7; have hG7 : Blk v7 (v6.heap.size) 35 #[.int .i64 g1, .int .i64 g2, .int .i64 g3] := Blk.call (by (repeat (first | with_reducible assumption | (with_reducible apply Blk.new_at; (first | rfl | (simp; done))) | with_reducible apply Blk.store3 | with_reducible apply Blk.store4 | (with_reducible apply Blk.farp; (first | omega | (simp <;> omega))) | with_reducible apply Blk.allocp | with_reducible apply Blk.drew | with_reducible apply Blk.drewN))) hB7; have cG7 := hG7.cell; have fG7 := hG7.frozen; have lG7 := hG7.lt; have mG7 := Nat.ne_of_gt lG7; have nG7 := Nat.ne_of_lt lG7; have hM7 : Blk v7 (v6.heap.size + 1) 49 #[.int .i64 m1, .int .i64 m2, .int .i64 m3, .int .i64 m4] := Blk.call (by (repeat (first | with_reducible assumption | (with_reducible apply Blk.new_at; (first | rfl | (simp; done))) | with_reducible apply Blk.store3 | with_reducible apply Blk.store4 | (with_reducible apply Blk.farp; (first | omega | (simp <;> omega))) | with_reducible apply Blk.allocp | with_reducible apply Blk.drew | with_reducible apply Blk.drewN))) hB7; have cM7 := hM7.cell; have fM7 := hM7.frozen; have lM7 := hM7.lt; have mM7 := Nat.ne_of_gt lM7; have nM7 := Nat.ne_of_lt lM7))
        go_ret
        exact ⟨rfl, (by repeat (first | with_reducible exact Below.refl _ _ | with_reducible assumption | with_reducible apply Below.drew | with_reducible apply below_drewN | (with_reducible apply below_setp; (first | omega | (simp <;> omega))) | (with_reducible apply below_allocp; (first | omega | (simp <;> omega))) | (with_reducible refine below_viap (by assumption) ?_ ?_; (first | omega | (simp <;> omega)))))⟩
      · have hV := Lib.hid (fun w => implVA_c f.a f.b f.c x y g1 w (ishown_form hD.hs) (by have := hD.hx; rw [isNum_iff]; omega) (by have := hD.hy; rw [isNum_iff]; omega) hD.ok.1 (by rw [e1]; exact hD.eE))
        have hU := Lib.hid (fun w => implSub_c f.a f.b f.c m1 m2 m3 m4 g1 g2 g3 w (ishown_form hD.hs) (by rw [e4, e5, e6, e7]; exact h2) (by rw [e4, e6, e1]; exact hD.wr.1) (by rw [e4, e5, e6, e7, e2]; exact hD.wr.2.1) (by rw [e5, e7, e3]; exact hD.wr.2.2) (by rw [e1, e2, e3]; exact h1))
        clear hD h1 h2 e1 e2 e3 e5 e7
        subst e4
        subst e6
        go_wp2_with (first
          | (go_at_call 76; (with_reducible refine (HJ.out _).mono ?_); rintro e v6 ⟨rfl, hB6⟩; have hZ6 := hB6.size; (try simp at hZ6); (try have zl6 : w.heap.size < v6.heap.size := by omega); (try have ze6 : w.heap.size ≤ v6.heap.size := by omega); (try have zn6 : ¬ w.heap.size = v6.heap.size := by omega); (try have zm6 : ¬ v6.heap.size = w.heap.size := by omega); have hF6 : Blk v6 (w5.heap.size) 35 #[.int .i64 f.a, .int .i64 f.b, .int .i64 f.c] := Blk.call (by (repeat (first | with_reducible assumption | (with_reducible apply Blk.new_at; (first | rfl | (simp; done))) | with_reducible apply Blk.store3 | with_reducible apply Blk.store4 | (with_reducible apply Blk.farp; (first | omega | (simp <;> omega))) | with_reducible apply Blk.allocp | with_reducible apply Blk.drew | with_reducible apply Blk.drewN))) hB6; have cF6 := hF6.cell; have fF6 := hF6.frozen; have lF6 := hF6.lt; have mF6 := Nat.ne_of_gt lF6; have nF6 := Nat.ne_of_lt lF6)
          | (go_at_call 77; (with_reducible refine (HT.out _).mono ?_); rintro e v7 ⟨rfl, hB7⟩; have hZ7 := hB7.size; (try simp at hZ7); (try have zl7 : w.heap.size < v7.heap.size := by omega); (try have ze7 : w.heap.size ≤ v7.heap.size := by omega); (try have zn7 : ¬ w.heap.size = v7.heap.size := by omega); (try have zm7 : ¬ v7.heap.size = w.heap.size := by omega); have hF7 : Blk v7 (w5.heap.size) 35 #[.int .i64 f.a, .int .i64 f.b, .int .i64 f.c] := Blk.call (by (repeat (first | with_reducible assumption | (with_reducible apply Blk.new_at; (first | rfl | (simp; done))) | with_reducible apply Blk.store3 | with_reducible apply Blk.store4 | (with_reducible apply Blk.farp; (first | omega | (simp <;> omega))) | with_reducible apply Blk.allocp | with_reducible apply Blk.drew | with_reducible apply Blk.drewN))) hB7; have cF7 := hF7.cell; have fF7 := hF7.frozen; have lF7 := hF7.lt; have mF7 := Nat.ne_of_gt lF7; have nF7 := Nat.ne_of_lt lF7; have hG7 : Blk v7 (v6.heap.size) 35 #[.int .i64 g1, .int .i64 g2, .int .i64 g3] := Blk.call (by (repeat (first | with_reducible assumption | (with_reducible apply Blk.new_at; (first | rfl | (simp; done))) | with_reducible apply Blk.store3 | with_reducible apply Blk.store4 | (with_reducible apply Blk.farp; (first | omega | (simp <;> omega))) | with_reducible apply Blk.allocp | with_reducible apply Blk.drew | with_reducible apply Blk.drewN))) hB7; have cG7 := hG7.cell; have fG7 := hG7.frozen; have lG7 := hG7.lt; have mG7 := Nat.ne_of_gt lG7; have nG7 := Nat.ne_of_lt lG7; have hM7 : Blk v7 (v6.heap.size + 1) 49 #[.int .i64 m1, .int .i64 m2, .int .i64 m3, .int .i64 m4] := Blk.call (by (repeat (first | with_reducible assumption | (with_reducible apply Blk.new_at; (first | rfl | (simp; done))) | with_reducible apply Blk.store3 | with_reducible apply Blk.store4 | (with_reducible apply Blk.farp; (first | omega | (simp <;> omega))) | with_reducible apply Blk.allocp | with_reducible apply Blk.drew | with_reducible apply Blk.drewN))) hB7; have cM7 := hM7.cell; have fM7 := hM7.frozen; have lM7 := hM7.lt; have mM7 := Nat.ne_of_gt lM7; have nM7 := Nat.ne_of_lt lM7)
          | (go_at_call 78; (with_reducible refine (hV.out _).mono ?_); rintro e v8 ⟨rfl, hB8⟩; have hZ8 := hB8.size; (try simp at hZ8); (try have zl8 : w.heap.size < v8.heap.size := by omega); (try have ze8 : w.heap.size ≤ v8.heap.size := by omega); (try have zn8 : ¬ w.heap.size = v8.heap.size := by omega); (try have zm8 : ¬ v8.heap.size = w.heap.size := by omega); have hF8 : Blk v8 (w5.heap.size) 35 #[.int .i64 f.a, .int .i64 f.b, .int .i64 f.c] := Blk.call (by (repeat (first | with_reducible assumption | (with_reducible apply Blk.new_at; (first | rfl | (simp; done))) | with_reducible apply Blk.store3 | with_reducible apply Blk.store4 | (with_reducible apply Blk.farp; (first | omega | (simp <;> omega))) | with_reducible apply Blk.allocp | with_reducible apply Blk.drew | with_reducible apply Blk.drewN))) hB8; have cF8 := hF8.cell; have fF8 := hF8.frozen; have lF8 := hF8.lt; have mF8 := Nat.ne_of_gt lF8; have nF8 := Nat.ne_of_lt lF8; have hG8 : Blk v8 (v6.heap.size) 35 #[.int .i64 g1, .int .i64 g2, .int .i64 g3] := Blk.call (by (repeat (first | with_reducible assumption | (with_reducible apply Blk.new_at; (first | rfl | (simp; done))) | with_reducible apply Blk.store3 | with_reducible apply Blk.store4 | (with_reducible apply Blk.farp; (first | omega | (simp <;> omega))) | with_reducible apply Blk.allocp | with_reducible apply Blk.drew | with_reducible apply Blk.drewN))) hB8; have cG8 := hG8.cell; have fG8 := hG8.frozen; have lG8 := hG8.lt; have mG8 := Nat.ne_of_gt lG8; have nG8 := Nat.ne_of_lt lG8; have hM8 : Blk v8 (v6.heap.size + 1) 49 #[.int .i64 m1, .int .i64 m2, .int .i64 m3, .int .i64 m4] := Blk.call (by (repeat (first | with_reducible assumption | (with_reducible apply Blk.new_at; (first | rfl | (simp; done))) | with_reducible apply Blk.store3 | with_reducible apply Blk.store4 | (with_reducible apply Blk.farp; (first | omega | (simp <;> omega))) | with_reducible apply Blk.allocp | with_reducible apply Blk.drew | with_reducible apply Blk.drewN))) hB8; have cM8 := hM8.cell; have fM8 := hM8.frozen; have lM8 := hM8.lt; have mM8 := Nat.ne_of_gt lM8; have nM8 := Nat.ne_of_lt lM8)
          | (go_at_call 29; (with_reducible refine (hU.out _).mono ?_); rintro e v9 ⟨rfl, hB9⟩; have hZ9 := hB9.size; (try simp at hZ9); (try have zl9 : w.heap.size < v9.heap.size := by omega); (try have ze9 : w.heap.size ≤ v9.heap.size := by omega); (try have zn9 : ¬ w.heap.size = v9.heap.size := by omega); (try have zm9 : ¬ v9.heap.size = w.heap.size := by omega); have hG9 : Blk v9 (v6.heap.size) 35 #[.int .i64 g1, .int .i64 g2, .int .i64 g3] := Blk.call (by (repeat (first | with_reducible assumption | (with_reducible apply Blk.new_at; (first | rfl | (simp; done))) | with_reducible apply Blk.store3 | with_reducible apply Blk.store4 | (with_reducible apply Blk.farp; (first | omega | (simp <;> omega))) | with_reducible apply Blk.allocp | with_reducible apply Blk.drew | with_reducible apply Blk.drewN))) hB9; have cG9 := hG9.cell; have fG9 := hG9.frozen; have lG9 := hG9.lt; have mG9 := Nat.ne_of_gt lG9; have nG9 := Nat.ne_of_lt lG9; have hM9 : Blk v9 (v6.heap.size + 1) 49 #[.int .i64 m1, .int .i64 m2, .int .i64 m3, .int .i64 m4] := Blk.call (by (repeat (first | with_reducible assumption | (with_reducible apply Blk.new_at; (first | rfl | (simp; done))) | with_reducible apply Blk.store3 | with_reducible apply Blk.store4 | (with_reducible apply Blk.farp; (first | omega | (simp <;> omega))) | with_reducible apply Blk.allocp | with_reducible apply Blk.drew | with_reducible apply Blk.drewN))) hB9; have cM9 := hM9.cell; have fM9 := hM9.frozen; have lM9 := hM9.lt; have mM9 := Nat.ne_of_gt lM9; have nM9 := Nat.ne_of_lt lM9))
        go_ret
        exact ⟨rfl, (by repeat (first | with_reducible exact Below.refl _ _ | with_reducible assumption | with_reducible apply Below.drew | with_reducible apply below_drewN | (with_reducible apply below_setp; (first | omega | (simp <;> omega))) | (with_reducible apply below_allocp; (first | omega | (simp <;> omega))) | (with_reducible refine below_viap (by assumption) ?_ ?_; (first | omega | (simp <;> omega)))))⟩
    · have HRq := Lib.hid hR
      clear hR
      go_wp2_with fail
      refine (HI.out _).mono ?_
      rintro e w2 ⟨vi, rfl, hi2, hb2⟩
      have hz2 := hb2.size
      go_wp2_with fail
      refine (HS.out _).mono ?_
      rintro e w3 ⟨vs, rfl, hs3, hb3⟩
      have hz3 := hb3.size
      have hi3 := own_call hb3 hi2
      have hb13 := below_via hb1 (below_via hb2 hb3 hz2) hz1
      clear hi2 hb2 hb3 hb1
      by_cases hp : p ≤ 2500
      · go_wp2_with (go_at_call 72; refine (pSameForms_same vi vs _ _ R _ (by omega) hi3 hs3).mono ?_; rintro e w4 ⟨rfl, hb4⟩)
        have D := dsc_of hc
        have hp1 : 1 ≤ p := by unfold shwB at hs; simp at hs; omega
        have HP := Lib.hid (fun w => PrimLd_any d p w D.lo D.hi hp1 hp)
        have HW := Lib.hid (fun w => autW_any d w hc)
        have HN := Lib.hid (count_rep D hp1 hp HRq.out)
        obtain ⟨bi, ci, rfl⟩ := own_shape hi3
        have Hi4 := Lib.hid (own_call hb4 hi3)
        have hz4 := hb4.size
        have hb14 := below_via hb13 hb4 hb13.size
        clear hi3 hs3 hb4 hb13 HI HS
        go_wp2_with fail
        refine (HP.out _).mono ?_
        rintro e v5 ⟨vf, rfl, hf5, hp5⟩
        have hy5 := hp5.size
        have hq5 := below_via hb14 hp5 hb14.size
        obtain ⟨bf, cf, rfl⟩ := own_shape hf5
        have Hi5 := Lib.hid (own_call hp5 Hi4.out)
        clear hp5 hb14 Hi4 HP
        go_wp2_with (go_at_call 16; (with_reducible refine (HW.out _).mono ?_); rintro e v ⟨rfl, rfl⟩)
        have hRs : ∀ k (hk : k < R.length), ∃ m : Nat, m ≤ 50000 ∧ ((R.take (k + 1)).map fun f => ((ptsL d p f).filter prmP).length).sum = ((R.take k).map fun f => ((ptsL d p f).filter prmP).length).sum + m ∧ ∀ w, Calls Try.prog 74 #[.agg #[.int .i64 R[k].a, .int .i64 R[k].b, .int .i64 R[k].c], .int .i64 p] w (fun e w' => ∃ b c, e = .returned (.tuple #[.slice b m c, .bool true]) ∧ Below w.heap.size w w') := by
          intro k hk
          have hf : R[k] ∈ clsL d := by
            have : R[k] ∈ (clsL d).filter (repP d p) := HRq.out ▸ List.getElem_mem hk
            exact (List.mem_filter.1 this).1
          refine ⟨((ptsL d p R[k]).filter prmP).length, Nat.le_trans (List.length_filter_le _ _) (pts_len D hf ⟨hp1, by omega⟩), by rw [List.take_succ_eq_append_getElem hk, List.map_append, List.sum_append]; rfl, fun w => ?_⟩
          refine (implPr_any d p R[k] w D hf hp1 (by omega)).mono ?_
          rintro e w' ⟨v, rfl, ho, hb⟩
          obtain ⟨b, c, rfl⟩ := own_shape ho
          exact ⟨b, c, rfl, hb⟩
        have HRs := Lib.hid hRs
        obtain ⟨S0, hS0⟩ : ∃ S : Nat → Nat, ∀ k, S k = ((R.take k).map fun f => ((ptsL d p f).filter prmP).length).sum := ⟨_, fun _ => rfl⟩
        have hSe : S0 R.length = wD d * ((ldL d p).filter primB).length := by rw [hS0, List.take_length]; exact HN.out
        have hS00 : S0 0 = 0 := by rw [hS0]; rfl
        have HS1 := Lib.hid (fun k (hk : k < R.length) => (show ∃ m : Nat, m ≤ 50000 ∧ S0 (k + 1) = S0 k + m ∧ ∀ w, Calls Try.prog 74 #[.agg #[.int .i64 R[k].a, .int .i64 R[k].b, .int .i64 R[k].c], .int .i64 p] w (fun e w' => ∃ b c, e = .returned (.tuple #[.slice b m c, .bool true]) ∧ Below w.heap.size w w') from by rw [hS0, hS0]; exact HRs.out k hk))
        clear HRs hRs hS0 HN D hc hs
        have hBel0 : Below v5.heap.size v5 v5 := Below.refl _ _
        go_loopw [15, 80] (fun vc vi wr => ∃ k : Nat, vi = .int .i64 k ∧ k ≤ R.length ∧ vc = .int .i64 (S0 k) ∧ S0 k ≤ 50000 * k ∧ Below v5.heap.size v5 wr) (fun _ vi _ => R.length - (intOf vi).toNat)
        case atStart => exact ⟨0, rfl, Nat.zero_le _, by rw [hS00]; rfl, by omega, hBel0⟩
        case round =>
          obtain ⟨k, rfl, hk, rfl, hSk, hbel⟩ := hrel
          have hz := hbel.size
          by_cases hlt : k < R.length
          · obtain ⟨g, rfl, lg, c1, c2, c3⟩ := own_elem Hi5.out hlt
            obtain ⟨m, hm1, hm2, hm3⟩ := HS1.out k hlt
            have d1 := (hbel.cell (p := ⟨g, k * 3, none⟩) lg).trans c1
            have d2 := (hbel.cell (p := ⟨g, k * 3 + 1, none⟩) lg).trans c2
            have d3 := (hbel.cell (p := ⟨g, k * 3 + 2, none⟩) lg).trans c3
            have HM := Lib.hid hm3
            clear c1 c2 c3 hm3
            generalize R[k] = f at *
            have lg2 : g < wr.heap.size := by omega
            go_wp2_with (go_at_call 74; refine (HM.out _).mono ?_; rintro e v6 ⟨b6, c6, rfl, hB6⟩; have hZ6 := hB6.size; (try simp at hZ6))
            go_roundw
            case rel => exact ⟨k + 1, by go_num, hlt, by rw [hm2]; go_num, by omega, (by repeat (first | with_reducible exact Below.refl _ _ | with_reducible assumption | with_reducible apply Below.drew | with_reducible apply below_drewN | (with_reducible apply below_setp; (first | omega | (simp <;> omega))) | (with_reducible apply below_allocp; (first | omega | (simp <;> omega))) | (with_reducible refine below_viap (by assumption) ?_ ?_; (first | omega | (simp <;> omega)))))⟩
            case measure => simp [intOf]; omega
          · obtain rfl : k = R.length := by omega
            generalize ((ldL d p).filter primB).length = N1 at *
            generalize wD d = W1 at *
            clear HS1 Hi5 hf5
            generalize R.length = N2 at *
            rw [hSe] at hSk
            have hWr : wrap64 ((W1 : Int) * (N1 : Int)) = (S0 N2 : Int) := by
              rw [hSe, Int.natCast_mul]
              exact IntWalk.wrap64_in _ (by have : ((W1 * N1 : Nat) : Int) = (W1 : Int) * N1 := Int.natCast_mul _ _; omega)
            have hb14 : Below w.heap.size w wr := below_via hq5 hbel hq5.size
            clear hSe hS00 hSk
            generalize S0 N2 = S1 at *
            go_wp2_with fail
            refine (drawCf_any es _ w.heap.size _ (HE.out _ (by repeat (first | with_reducible exact Below.refl _ _ | with_reducible assumption | with_reducible apply Below.drew | with_reducible apply below_drewN | (with_reducible apply below_setp; (first | omega | (simp <;> omega))) | (with_reducible apply below_allocp; (first | omega | (simp <;> omega))) | (with_reducible refine below_viap (by assumption) ?_ ?_; (first | omega | (simp <;> omega)))))) (by first | omega | (simp <;> omega))).mono ?_
            rintro e w5 ⟨f, x, y, rfl, ⟨hx, hy⟩, hb5⟩
            have hz5 := hb5.size
            have hb15 := below_via hb14 hb5 hb14.size
            clear hb5 hb14 HE
            obtain ⟨g1, g2, g3, m1, m2, m3, m4, ok2, hC⟩ := cfR_ex f.a f.b f.c x y
            have HJ := Lib.hid (fun w => implCf_any f.a f.b f.c x y g1 g2 g3 m1 m2 m3 m4 ok2 w hx hy hC)
            have HT := Lib.hid (fun w => specCf_any f.a f.b f.c x y g1 g2 g3 m1 m2 m3 m4 ok2 w hx hy hC)
            rcases hC with ⟨⟨-, -, rfl⟩, -⟩ | ⟨rfl, S, Q, T, E, P, hD, h1, h2, ⟨e1, e2, e3⟩, e4, e5, e6, e7⟩
            · go_wp2_with (first
                | (go_at_call 76; (with_reducible refine (HJ.out _).mono ?_); rintro e v6 ⟨rfl, hB6⟩; have hZ6 := hB6.size; (try simp at hZ6); (try have zl6 : w.heap.size < v6.heap.size := by omega); (try have ze6 : w.heap.size ≤ v6.heap.size := by omega); (try have zn6 : ¬ w.heap.size = v6.heap.size := by omega); (try have zm6 : ¬ v6.heap.size = w.heap.size := by omega); have hF6 : Blk v6 (w5.heap.size) 35 #[.int .i64 f.a, .int .i64 f.b, .int .i64 f.c] := Blk.call (by (repeat (first | with_reducible assumption | (with_reducible apply Blk.new_at; (first | rfl | (simp; done))) | with_reducible apply Blk.store3 | with_reducible apply Blk.store4 | (with_reducible apply Blk.farp; (first | omega | (simp <;> omega))) | with_reducible apply Blk.allocp | with_reducible apply Blk.drew | with_reducible apply Blk.drewN))) hB6; have cF6 := hF6.cell; have fF6 := hF6.frozen; have lF6 := hF6.lt; have mF6 := Nat.ne_of_gt lF6; have nF6 := Nat.ne_of_lt lF6)
                | (go_at_call 77; (with_reducible refine (HT.out _).mono ?_); rintro e v7 ⟨rfl, hB7⟩; have hZ7 := hB7.size; (try simp at hZ7); (try have zl7 : w.heap.size < v7.heap.size := by omega); (try have ze7 : w.heap.size ≤ v7.heap.size := by omega); (try have zn7 : ¬ w.heap.size = v7.heap.size := by omega); (try have zm7 : ¬ v7.heap.size = w.heap.size := by omega); have hF7 : Blk v7 (w5.heap.size) 35 #[.int .i64 f.a, .int .i64 f.b, .int .i64 f.c] := Blk.call (by (repeat (first | with_reducible assumption | (with_reducible apply Blk.new_at; (first | rfl | (simp; done))) | with_reducible apply Blk.store3 | with_reducible apply Blk.store4 | (with_reducible apply Blk.farp; (first | omega | (simp <;> omega))) | with_reducible apply Blk.allocp | with_reducible apply Blk.drew | with_reducible apply Blk.drewN))) hB7; have cF7 := hF7.cell; have fF7 := hF7.frozen; have lF7 := hF7.lt; have mF7 := Nat.ne_of_gt lF7; have nF7 := Nat.ne_of_lt lF7; have hG7 : Blk v7 (v6.heap.size) 35 #[.int .i64 g1, .int .i64 g2, .int .i64 g3] := Blk.call (by (repeat (first | with_reducible assumption | (with_reducible apply Blk.new_at; (first | rfl | (simp; done))) | with_reducible apply Blk.store3 | with_reducible apply Blk.store4 | (with_reducible apply Blk.farp; (first | omega | (simp <;> omega))) | with_reducible apply Blk.allocp | with_reducible apply Blk.drew | with_reducible apply Blk.drewN))) hB7; have cG7 := hG7.cell; have fG7 := hG7.frozen; have lG7 := hG7.lt; have mG7 := Nat.ne_of_gt lG7; have nG7 := Nat.ne_of_lt lG7; have hM7 : Blk v7 (v6.heap.size + 1) 49 #[.int .i64 m1, .int .i64 m2, .int .i64 m3, .int .i64 m4] := Blk.call (by (repeat (first | with_reducible assumption | (with_reducible apply Blk.new_at; (first | rfl | (simp; done))) | with_reducible apply Blk.store3 | with_reducible apply Blk.store4 | (with_reducible apply Blk.farp; (first | omega | (simp <;> omega))) | with_reducible apply Blk.allocp | with_reducible apply Blk.drew | with_reducible apply Blk.drewN))) hB7; have cM7 := hM7.cell; have fM7 := hM7.frozen; have lM7 := hM7.lt; have mM7 := Nat.ne_of_gt lM7; have nM7 := Nat.ne_of_lt lM7))
              go_ret
              exact ⟨rfl, (by repeat (first | with_reducible exact Below.refl _ _ | with_reducible assumption | with_reducible apply Below.drew | with_reducible apply below_drewN | (with_reducible apply below_setp; (first | omega | (simp <;> omega))) | (with_reducible apply below_allocp; (first | omega | (simp <;> omega))) | (with_reducible refine below_viap (by assumption) ?_ ?_; (first | omega | (simp <;> omega)))))⟩
            · have hV := Lib.hid (fun w => implVA_c f.a f.b f.c x y g1 w (ishown_form hD.hs) (by have := hD.hx; rw [isNum_iff]; omega) (by have := hD.hy; rw [isNum_iff]; omega) hD.ok.1 (by rw [e1]; exact hD.eE))
              have hU := Lib.hid (fun w => implSub_c f.a f.b f.c m1 m2 m3 m4 g1 g2 g3 w (ishown_form hD.hs) (by rw [e4, e5, e6, e7]; exact h2) (by rw [e4, e6, e1]; exact hD.wr.1) (by rw [e4, e5, e6, e7, e2]; exact hD.wr.2.1) (by rw [e5, e7, e3]; exact hD.wr.2.2) (by rw [e1, e2, e3]; exact h1))
              clear hD h1 h2 e1 e2 e3 e5 e7
              subst e4
              subst e6
              go_wp2_with (first
                | (go_at_call 76; (with_reducible refine (HJ.out _).mono ?_); rintro e v6 ⟨rfl, hB6⟩; have hZ6 := hB6.size; (try simp at hZ6); (try have zl6 : w.heap.size < v6.heap.size := by omega); (try have ze6 : w.heap.size ≤ v6.heap.size := by omega); (try have zn6 : ¬ w.heap.size = v6.heap.size := by omega); (try have zm6 : ¬ v6.heap.size = w.heap.size := by omega); have hF6 : Blk v6 (w5.heap.size) 35 #[.int .i64 f.a, .int .i64 f.b, .int .i64 f.c] := Blk.call (by (repeat (first | with_reducible assumption | (with_reducible apply Blk.new_at; (first | rfl | (simp; done))) | with_reducible apply Blk.store3 | with_reducible apply Blk.store4 | (with_reducible apply Blk.farp; (first | omega | (simp <;> omega))) | with_reducible apply Blk.allocp | with_reducible apply Blk.drew | with_reducible apply Blk.drewN))) hB6; have cF6 := hF6.cell; have fF6 := hF6.frozen; have lF6 := hF6.lt; have mF6 := Nat.ne_of_gt lF6; have nF6 := Nat.ne_of_lt lF6)
                | (go_at_call 77; (with_reducible refine (HT.out _).mono ?_); rintro e v7 ⟨rfl, hB7⟩; have hZ7 := hB7.size; (try simp at hZ7); (try have zl7 : w.heap.size < v7.heap.size := by omega); (try have ze7 : w.heap.size ≤ v7.heap.size := by omega); (try have zn7 : ¬ w.heap.size = v7.heap.size := by omega); (try have zm7 : ¬ v7.heap.size = w.heap.size := by omega); have hF7 : Blk v7 (w5.heap.size) 35 #[.int .i64 f.a, .int .i64 f.b, .int .i64 f.c] := Blk.call (by (repeat (first | with_reducible assumption | (with_reducible apply Blk.new_at; (first | rfl | (simp; done))) | with_reducible apply Blk.store3 | with_reducible apply Blk.store4 | (with_reducible apply Blk.farp; (first | omega | (simp <;> omega))) | with_reducible apply Blk.allocp | with_reducible apply Blk.drew | with_reducible apply Blk.drewN))) hB7; have cF7 := hF7.cell; have fF7 := hF7.frozen; have lF7 := hF7.lt; have mF7 := Nat.ne_of_gt lF7; have nF7 := Nat.ne_of_lt lF7; have hG7 : Blk v7 (v6.heap.size) 35 #[.int .i64 g1, .int .i64 g2, .int .i64 g3] := Blk.call (by (repeat (first | with_reducible assumption | (with_reducible apply Blk.new_at; (first | rfl | (simp; done))) | with_reducible apply Blk.store3 | with_reducible apply Blk.store4 | (with_reducible apply Blk.farp; (first | omega | (simp <;> omega))) | with_reducible apply Blk.allocp | with_reducible apply Blk.drew | with_reducible apply Blk.drewN))) hB7; have cG7 := hG7.cell; have fG7 := hG7.frozen; have lG7 := hG7.lt; have mG7 := Nat.ne_of_gt lG7; have nG7 := Nat.ne_of_lt lG7; have hM7 : Blk v7 (v6.heap.size + 1) 49 #[.int .i64 m1, .int .i64 m2, .int .i64 m3, .int .i64 m4] := Blk.call (by (repeat (first | with_reducible assumption | (with_reducible apply Blk.new_at; (first | rfl | (simp; done))) | with_reducible apply Blk.store3 | with_reducible apply Blk.store4 | (with_reducible apply Blk.farp; (first | omega | (simp <;> omega))) | with_reducible apply Blk.allocp | with_reducible apply Blk.drew | with_reducible apply Blk.drewN))) hB7; have cM7 := hM7.cell; have fM7 := hM7.frozen; have lM7 := hM7.lt; have mM7 := Nat.ne_of_gt lM7; have nM7 := Nat.ne_of_lt lM7)
                | (go_at_call 78; (with_reducible refine (hV.out _).mono ?_); rintro e v8 ⟨rfl, hB8⟩; have hZ8 := hB8.size; (try simp at hZ8); (try have zl8 : w.heap.size < v8.heap.size := by omega); (try have ze8 : w.heap.size ≤ v8.heap.size := by omega); (try have zn8 : ¬ w.heap.size = v8.heap.size := by omega); (try have zm8 : ¬ v8.heap.size = w.heap.size := by omega); have hF8 : Blk v8 (w5.heap.size) 35 #[.int .i64 f.a, .int .i64 f.b, .int .i64 f.c] := Blk.call (by (repeat (first | with_reducible assumption | (with_reducible apply Blk.new_at; (first | rfl | (simp; done))) | with_reducible apply Blk.store3 | with_reducible apply Blk.store4 | (with_reducible apply Blk.farp; (first | omega | (simp <;> omega))) | with_reducible apply Blk.allocp | with_reducible apply Blk.drew | with_reducible apply Blk.drewN))) hB8; have cF8 := hF8.cell; have fF8 := hF8.frozen; have lF8 := hF8.lt; have mF8 := Nat.ne_of_gt lF8; have nF8 := Nat.ne_of_lt lF8; have hG8 : Blk v8 (v6.heap.size) 35 #[.int .i64 g1, .int .i64 g2, .int .i64 g3] := Blk.call (by (repeat (first | with_reducible assumption | (with_reducible apply Blk.new_at; (first | rfl | (simp; done))) | with_reducible apply Blk.store3 | with_reducible apply Blk.store4 | (with_reducible apply Blk.farp; (first | omega | (simp <;> omega))) | with_reducible apply Blk.allocp | with_reducible apply Blk.drew | with_reducible apply Blk.drewN))) hB8; have cG8 := hG8.cell; have fG8 := hG8.frozen; have lG8 := hG8.lt; have mG8 := Nat.ne_of_gt lG8; have nG8 := Nat.ne_of_lt lG8; have hM8 : Blk v8 (v6.heap.size + 1) 49 #[.int .i64 m1, .int .i64 m2, .int .i64 m3, .int .i64 m4] := Blk.call (by (repeat (first | with_reducible assumption | (with_reducible apply Blk.new_at; (first | rfl | (simp; done))) | with_reducible apply Blk.store3 | with_reducible apply Blk.store4 | (with_reducible apply Blk.farp; (first | omega | (simp <;> omega))) | with_reducible apply Blk.allocp | with_reducible apply Blk.drew | with_reducible apply Blk.drewN))) hB8; have cM8 := hM8.cell; have fM8 := hM8.frozen; have lM8 := hM8.lt; have mM8 := Nat.ne_of_gt lM8; have nM8 := Nat.ne_of_lt lM8)
                | (go_at_call 29; (with_reducible refine (hU.out _).mono ?_); rintro e v9 ⟨rfl, hB9⟩; have hZ9 := hB9.size; (try simp at hZ9); (try have zl9 : w.heap.size < v9.heap.size := by omega); (try have ze9 : w.heap.size ≤ v9.heap.size := by omega); (try have zn9 : ¬ w.heap.size = v9.heap.size := by omega); (try have zm9 : ¬ v9.heap.size = w.heap.size := by omega); have hG9 : Blk v9 (v6.heap.size) 35 #[.int .i64 g1, .int .i64 g2, .int .i64 g3] := Blk.call (by (repeat (first | with_reducible assumption | (with_reducible apply Blk.new_at; (first | rfl | (simp; done))) | with_reducible apply Blk.store3 | with_reducible apply Blk.store4 | (with_reducible apply Blk.farp; (first | omega | (simp <;> omega))) | with_reducible apply Blk.allocp | with_reducible apply Blk.drew | with_reducible apply Blk.drewN))) hB9; have cG9 := hG9.cell; have fG9 := hG9.frozen; have lG9 := hG9.lt; have mG9 := Nat.ne_of_gt lG9; have nG9 := Nat.ne_of_lt lG9; have hM9 : Blk v9 (v6.heap.size + 1) 49 #[.int .i64 m1, .int .i64 m2, .int .i64 m3, .int .i64 m4] := Blk.call (by (repeat (first | with_reducible assumption | (with_reducible apply Blk.new_at; (first | rfl | (simp; done))) | with_reducible apply Blk.store3 | with_reducible apply Blk.store4 | (with_reducible apply Blk.farp; (first | omega | (simp <;> omega))) | with_reducible apply Blk.allocp | with_reducible apply Blk.drew | with_reducible apply Blk.drewN))) hB9; have cM9 := hM9.cell; have fM9 := hM9.frozen; have lM9 := hM9.lt; have mM9 := Nat.ne_of_gt lM9; have nM9 := Nat.ne_of_lt lM9))
              go_ret
              exact ⟨rfl, (by repeat (first | with_reducible exact Below.refl _ _ | with_reducible assumption | with_reducible apply Below.drew | with_reducible apply below_drewN | (with_reducible apply below_setp; (first | omega | (simp <;> omega))) | (with_reducible apply below_allocp; (first | omega | (simp <;> omega))) | (with_reducible refine below_viap (by assumption) ?_ ?_; (first | omega | (simp <;> omega)))))⟩
      · go_wp2_with (go_at_call 72; refine (pSameForms_same vi vs _ _ R _ (by omega) hi3 hs3).mono ?_; rintro e w4 ⟨rfl, hb4⟩)
        have hz4 := hb4.size
        have hb14 := below_via hb13 hb4 hb13.size
        clear hi3 hs3 hb4 hb13 HI HS
        refine (drawCf_any es _ w.heap.size _ (HE.out _ (by repeat (first | with_reducible exact Below.refl _ _ | with_reducible assumption | with_reducible apply Below.drew | with_reducible apply below_drewN | (with_reducible apply below_setp; (first | omega | (simp <;> omega))) | (with_reducible apply below_allocp; (first | omega | (simp <;> omega))) | (with_reducible refine below_viap (by assumption) ?_ ?_; (first | omega | (simp <;> omega)))))) (by first | omega | (simp <;> omega))).mono ?_
        rintro e w5 ⟨f, x, y, rfl, ⟨hx, hy⟩, hb5⟩
        have hz5 := hb5.size
        have hb15 := below_via hb14 hb5 hb14.size
        clear hb5 hb14 HE
        obtain ⟨g1, g2, g3, m1, m2, m3, m4, ok2, hC⟩ := cfR_ex f.a f.b f.c x y
        have HJ := Lib.hid (fun w => implCf_any f.a f.b f.c x y g1 g2 g3 m1 m2 m3 m4 ok2 w hx hy hC)
        have HT := Lib.hid (fun w => specCf_any f.a f.b f.c x y g1 g2 g3 m1 m2 m3 m4 ok2 w hx hy hC)
        rcases hC with ⟨⟨-, -, rfl⟩, -⟩ | ⟨rfl, S, Q, T, E, P, hD, h1, h2, ⟨e1, e2, e3⟩, e4, e5, e6, e7⟩
        · go_wp2_with (first
            | (go_at_call 76; (with_reducible refine (HJ.out _).mono ?_); rintro e v6 ⟨rfl, hB6⟩; have hZ6 := hB6.size; (try simp at hZ6); (try have zl6 : w.heap.size < v6.heap.size := by omega); (try have ze6 : w.heap.size ≤ v6.heap.size := by omega); (try have zn6 : ¬ w.heap.size = v6.heap.size := by omega); (try have zm6 : ¬ v6.heap.size = w.heap.size := by omega); have hF6 : Blk v6 (w5.heap.size) 35 #[.int .i64 f.a, .int .i64 f.b, .int .i64 f.c] := Blk.call (by (repeat (first | with_reducible assumption | (with_reducible apply Blk.new_at; (first | rfl | (simp; done))) | with_reducible apply Blk.store3 | with_reducible apply Blk.store4 | (with_reducible apply Blk.farp; (first | omega | (simp <;> omega))) | with_reducible apply Blk.allocp | with_reducible apply Blk.drew | with_reducible apply Blk.drewN))) hB6; have cF6 := hF6.cell; have fF6 := hF6.frozen; have lF6 := hF6.lt; have mF6 := Nat.ne_of_gt lF6; have nF6 := Nat.ne_of_lt lF6)
            | (go_at_call 77; (with_reducible refine (HT.out _).mono ?_); rintro e v7 ⟨rfl, hB7⟩; have hZ7 := hB7.size; (try simp at hZ7); (try have zl7 : w.heap.size < v7.heap.size := by omega); (try have ze7 : w.heap.size ≤ v7.heap.size := by omega); (try have zn7 : ¬ w.heap.size = v7.heap.size := by omega); (try have zm7 : ¬ v7.heap.size = w.heap.size := by omega); have hF7 : Blk v7 (w5.heap.size) 35 #[.int .i64 f.a, .int .i64 f.b, .int .i64 f.c] := Blk.call (by (repeat (first | with_reducible assumption | (with_reducible apply Blk.new_at; (first | rfl | (simp; done))) | with_reducible apply Blk.store3 | with_reducible apply Blk.store4 | (with_reducible apply Blk.farp; (first | omega | (simp <;> omega))) | with_reducible apply Blk.allocp | with_reducible apply Blk.drew | with_reducible apply Blk.drewN))) hB7; have cF7 := hF7.cell; have fF7 := hF7.frozen; have lF7 := hF7.lt; have mF7 := Nat.ne_of_gt lF7; have nF7 := Nat.ne_of_lt lF7; have hG7 : Blk v7 (v6.heap.size) 35 #[.int .i64 g1, .int .i64 g2, .int .i64 g3] := Blk.call (by (repeat (first | with_reducible assumption | (with_reducible apply Blk.new_at; (first | rfl | (simp; done))) | with_reducible apply Blk.store3 | with_reducible apply Blk.store4 | (with_reducible apply Blk.farp; (first | omega | (simp <;> omega))) | with_reducible apply Blk.allocp | with_reducible apply Blk.drew | with_reducible apply Blk.drewN))) hB7; have cG7 := hG7.cell; have fG7 := hG7.frozen; have lG7 := hG7.lt; have mG7 := Nat.ne_of_gt lG7; have nG7 := Nat.ne_of_lt lG7; have hM7 : Blk v7 (v6.heap.size + 1) 49 #[.int .i64 m1, .int .i64 m2, .int .i64 m3, .int .i64 m4] := Blk.call (by (repeat (first | with_reducible assumption | (with_reducible apply Blk.new_at; (first | rfl | (simp; done))) | with_reducible apply Blk.store3 | with_reducible apply Blk.store4 | (with_reducible apply Blk.farp; (first | omega | (simp <;> omega))) | with_reducible apply Blk.allocp | with_reducible apply Blk.drew | with_reducible apply Blk.drewN))) hB7; have cM7 := hM7.cell; have fM7 := hM7.frozen; have lM7 := hM7.lt; have mM7 := Nat.ne_of_gt lM7; have nM7 := Nat.ne_of_lt lM7))
          go_ret
          exact ⟨rfl, (by repeat (first | with_reducible exact Below.refl _ _ | with_reducible assumption | with_reducible apply Below.drew | with_reducible apply below_drewN | (with_reducible apply below_setp; (first | omega | (simp <;> omega))) | (with_reducible apply below_allocp; (first | omega | (simp <;> omega))) | (with_reducible refine below_viap (by assumption) ?_ ?_; (first | omega | (simp <;> omega)))))⟩
        · have hV := Lib.hid (fun w => implVA_c f.a f.b f.c x y g1 w (ishown_form hD.hs) (by have := hD.hx; rw [isNum_iff]; omega) (by have := hD.hy; rw [isNum_iff]; omega) hD.ok.1 (by rw [e1]; exact hD.eE))
          have hU := Lib.hid (fun w => implSub_c f.a f.b f.c m1 m2 m3 m4 g1 g2 g3 w (ishown_form hD.hs) (by rw [e4, e5, e6, e7]; exact h2) (by rw [e4, e6, e1]; exact hD.wr.1) (by rw [e4, e5, e6, e7, e2]; exact hD.wr.2.1) (by rw [e5, e7, e3]; exact hD.wr.2.2) (by rw [e1, e2, e3]; exact h1))
          clear hD h1 h2 e1 e2 e3 e5 e7
          subst e4
          subst e6
          go_wp2_with (first
            | (go_at_call 76; (with_reducible refine (HJ.out _).mono ?_); rintro e v6 ⟨rfl, hB6⟩; have hZ6 := hB6.size; (try simp at hZ6); (try have zl6 : w.heap.size < v6.heap.size := by omega); (try have ze6 : w.heap.size ≤ v6.heap.size := by omega); (try have zn6 : ¬ w.heap.size = v6.heap.size := by omega); (try have zm6 : ¬ v6.heap.size = w.heap.size := by omega); have hF6 : Blk v6 (w5.heap.size) 35 #[.int .i64 f.a, .int .i64 f.b, .int .i64 f.c] := Blk.call (by (repeat (first | with_reducible assumption | (with_reducible apply Blk.new_at; (first | rfl | (simp; done))) | with_reducible apply Blk.store3 | with_reducible apply Blk.store4 | (with_reducible apply Blk.farp; (first | omega | (simp <;> omega))) | with_reducible apply Blk.allocp | with_reducible apply Blk.drew | with_reducible apply Blk.drewN))) hB6; have cF6 := hF6.cell; have fF6 := hF6.frozen; have lF6 := hF6.lt; have mF6 := Nat.ne_of_gt lF6; have nF6 := Nat.ne_of_lt lF6)
            | (go_at_call 77; (with_reducible refine (HT.out _).mono ?_); rintro e v7 ⟨rfl, hB7⟩; have hZ7 := hB7.size; (try simp at hZ7); (try have zl7 : w.heap.size < v7.heap.size := by omega); (try have ze7 : w.heap.size ≤ v7.heap.size := by omega); (try have zn7 : ¬ w.heap.size = v7.heap.size := by omega); (try have zm7 : ¬ v7.heap.size = w.heap.size := by omega); have hF7 : Blk v7 (w5.heap.size) 35 #[.int .i64 f.a, .int .i64 f.b, .int .i64 f.c] := Blk.call (by (repeat (first | with_reducible assumption | (with_reducible apply Blk.new_at; (first | rfl | (simp; done))) | with_reducible apply Blk.store3 | with_reducible apply Blk.store4 | (with_reducible apply Blk.farp; (first | omega | (simp <;> omega))) | with_reducible apply Blk.allocp | with_reducible apply Blk.drew | with_reducible apply Blk.drewN))) hB7; have cF7 := hF7.cell; have fF7 := hF7.frozen; have lF7 := hF7.lt; have mF7 := Nat.ne_of_gt lF7; have nF7 := Nat.ne_of_lt lF7; have hG7 : Blk v7 (v6.heap.size) 35 #[.int .i64 g1, .int .i64 g2, .int .i64 g3] := Blk.call (by (repeat (first | with_reducible assumption | (with_reducible apply Blk.new_at; (first | rfl | (simp; done))) | with_reducible apply Blk.store3 | with_reducible apply Blk.store4 | (with_reducible apply Blk.farp; (first | omega | (simp <;> omega))) | with_reducible apply Blk.allocp | with_reducible apply Blk.drew | with_reducible apply Blk.drewN))) hB7; have cG7 := hG7.cell; have fG7 := hG7.frozen; have lG7 := hG7.lt; have mG7 := Nat.ne_of_gt lG7; have nG7 := Nat.ne_of_lt lG7; have hM7 : Blk v7 (v6.heap.size + 1) 49 #[.int .i64 m1, .int .i64 m2, .int .i64 m3, .int .i64 m4] := Blk.call (by (repeat (first | with_reducible assumption | (with_reducible apply Blk.new_at; (first | rfl | (simp; done))) | with_reducible apply Blk.store3 | with_reducible apply Blk.store4 | (with_reducible apply Blk.farp; (first | omega | (simp <;> omega))) | with_reducible apply Blk.allocp | with_reducible apply Blk.drew | with_reducible apply Blk.drewN))) hB7; have cM7 := hM7.cell; have fM7 := hM7.frozen; have lM7 := hM7.lt; have mM7 := Nat.ne_of_gt lM7; have nM7 := Nat.ne_of_lt lM7)
            | (go_at_call 78; (with_reducible refine (hV.out _).mono ?_); rintro e v8 ⟨rfl, hB8⟩; have hZ8 := hB8.size; (try simp at hZ8); (try have zl8 : w.heap.size < v8.heap.size := by omega); (try have ze8 : w.heap.size ≤ v8.heap.size := by omega); (try have zn8 : ¬ w.heap.size = v8.heap.size := by omega); (try have zm8 : ¬ v8.heap.size = w.heap.size := by omega); have hF8 : Blk v8 (w5.heap.size) 35 #[.int .i64 f.a, .int .i64 f.b, .int .i64 f.c] := Blk.call (by (repeat (first | with_reducible assumption | (with_reducible apply Blk.new_at; (first | rfl | (simp; done))) | with_reducible apply Blk.store3 | with_reducible apply Blk.store4 | (with_reducible apply Blk.farp; (first | omega | (simp <;> omega))) | with_reducible apply Blk.allocp | with_reducible apply Blk.drew | with_reducible apply Blk.drewN))) hB8; have cF8 := hF8.cell; have fF8 := hF8.frozen; have lF8 := hF8.lt; have mF8 := Nat.ne_of_gt lF8; have nF8 := Nat.ne_of_lt lF8; have hG8 : Blk v8 (v6.heap.size) 35 #[.int .i64 g1, .int .i64 g2, .int .i64 g3] := Blk.call (by (repeat (first | with_reducible assumption | (with_reducible apply Blk.new_at; (first | rfl | (simp; done))) | with_reducible apply Blk.store3 | with_reducible apply Blk.store4 | (with_reducible apply Blk.farp; (first | omega | (simp <;> omega))) | with_reducible apply Blk.allocp | with_reducible apply Blk.drew | with_reducible apply Blk.drewN))) hB8; have cG8 := hG8.cell; have fG8 := hG8.frozen; have lG8 := hG8.lt; have mG8 := Nat.ne_of_gt lG8; have nG8 := Nat.ne_of_lt lG8; have hM8 : Blk v8 (v6.heap.size + 1) 49 #[.int .i64 m1, .int .i64 m2, .int .i64 m3, .int .i64 m4] := Blk.call (by (repeat (first | with_reducible assumption | (with_reducible apply Blk.new_at; (first | rfl | (simp; done))) | with_reducible apply Blk.store3 | with_reducible apply Blk.store4 | (with_reducible apply Blk.farp; (first | omega | (simp <;> omega))) | with_reducible apply Blk.allocp | with_reducible apply Blk.drew | with_reducible apply Blk.drewN))) hB8; have cM8 := hM8.cell; have fM8 := hM8.frozen; have lM8 := hM8.lt; have mM8 := Nat.ne_of_gt lM8; have nM8 := Nat.ne_of_lt lM8)
            | (go_at_call 29; (with_reducible refine (hU.out _).mono ?_); rintro e v9 ⟨rfl, hB9⟩; have hZ9 := hB9.size; (try simp at hZ9); (try have zl9 : w.heap.size < v9.heap.size := by omega); (try have ze9 : w.heap.size ≤ v9.heap.size := by omega); (try have zn9 : ¬ w.heap.size = v9.heap.size := by omega); (try have zm9 : ¬ v9.heap.size = w.heap.size := by omega); have hG9 : Blk v9 (v6.heap.size) 35 #[.int .i64 g1, .int .i64 g2, .int .i64 g3] := Blk.call (by (repeat (first | with_reducible assumption | (with_reducible apply Blk.new_at; (first | rfl | (simp; done))) | with_reducible apply Blk.store3 | with_reducible apply Blk.store4 | (with_reducible apply Blk.farp; (first | omega | (simp <;> omega))) | with_reducible apply Blk.allocp | with_reducible apply Blk.drew | with_reducible apply Blk.drewN))) hB9; have cG9 := hG9.cell; have fG9 := hG9.frozen; have lG9 := hG9.lt; have mG9 := Nat.ne_of_gt lG9; have nG9 := Nat.ne_of_lt lG9; have hM9 : Blk v9 (v6.heap.size + 1) 49 #[.int .i64 m1, .int .i64 m2, .int .i64 m3, .int .i64 m4] := Blk.call (by (repeat (first | with_reducible assumption | (with_reducible apply Blk.new_at; (first | rfl | (simp; done))) | with_reducible apply Blk.store3 | with_reducible apply Blk.store4 | (with_reducible apply Blk.farp; (first | omega | (simp <;> omega))) | with_reducible apply Blk.allocp | with_reducible apply Blk.drew | with_reducible apply Blk.drewN))) hB9; have cM9 := hM9.cell; have fM9 := hM9.frozen; have lM9 := hM9.lt; have mM9 := Nat.ne_of_gt lM9; have nM9 := Nat.ne_of_lt lM9))
          go_ret
          exact ⟨rfl, (by repeat (first | with_reducible exact Below.refl _ _ | with_reducible assumption | with_reducible apply Below.drew | with_reducible apply below_drewN | (with_reducible apply below_setp; (first | omega | (simp <;> omega))) | (with_reducible apply below_allocp; (first | omega | (simp <;> omega))) | (with_reducible refine below_viap (by assumption) ?_ ?_; (first | omega | (simp <;> omega)))))⟩
  · have Hb := Lib.hid (fun w => big_yes A A2 zs.length es.length c c2 w hbig)
    clear HZ HY hbig
    go_enter Try.func9, Try.ntmps9
    go_wp2_with (go_at_call 11; (with_reducible refine (Hb.out _).mono ?_); rintro e v ⟨rfl, rfl⟩)
    go_ret
    exact ⟨rfl, (by repeat (first | with_reducible exact Below.refl _ _ | with_reducible assumption | with_reducible apply Below.drew | with_reducible apply below_drewN | (with_reducible apply below_setp; (first | omega | (simp <;> omega))) | (with_reducible apply below_allocp; (first | omega | (simp <;> omega))) | (with_reducible refine below_viap (by assumption) ?_ ?_; (first | omega | (simp <;> omega)))))⟩
theorem own_FnPrimitivePoints : ownKnob Try.prog.godebug = none := by kernel_rfl

set_option maxRecDepth 100000 in
theorem lifted_FnPrimitivePoints (os : Os) (started : os.Started) (H : Type) (enc : TypeId × Value → H) :
    ReturnsInHanded {} Try.checked os 9 .any (Rows.fnPrimitivePointsSpec.pre6 enc Try.prog Try.f9 Rows.fnPrimitivePointsRow.domain false) (Rows.fnPrimitivePointsSpec.post enc Try.prog Try.f9 false true false false) := by
  refine returnsInHanded_of_change (C := Try.checked) own_FnPrimitivePoints started (by kernel_rfl) Try.func9
    (ChangeSpec.witness6 (enc := enc) (C := Try.checked) false ⟨#[], #[.slice none 0 0, .slice none 0 0], []⟩ 8 (by kernel_rfl) (by kernel_rfl) (by kernel_rfl) (by kernel_rfl)) ?_
  intro W base args ds gs before hval0 hW hcnd _
  have hval : ∀ (j : Nat) t v, Try.f9.params[j]? = some t → args[j]? = some v → Value.okWide Try.prog W .any base t v := hval0
  have hW' := hW
  obtain ⟨p, q, hA0, hV, rfl, hfz, hnd⟩ := hW
  have hA : DataW.TrodAll enc Try.prog W 0 (fun _ => true) true Try.f9.params.toList args.toList ds p := hA0
  rw [Try.params9] at hA hval
  obtain ⟨v1, vs1, d1, ds1, p1, q1, hargs, rfl, rfl, h1, r1⟩ := trodAll_cons hA
  obtain ⟨v2, vs2, d2, ds2, p2, q2, rfl, rfl, rfl, h2, r2⟩ := trodAll_cons r1
  obtain ⟨rfl, rfl, rfl⟩ := trodAll_nil r2
  obtain rfl : args = #[v1, v2] := by cases args; simp_all
  obtain ⟨rfl, rfl⟩ := trodVars_none hV
  obtain ⟨zs, hrd⟩ := open_reB (hval 0 22 v1 rfl rfl) h1
  obtain ⟨es, hre⟩ := open_reB (hval 1 22 v2 rfl rfl) h2
  have hlt1 : ∀ x ∈ p1, x.block < W.heap.size := fun x hx => hW'.lt x (by simp [hx])
  have hlt2 : ∀ x ∈ p2, x.block < W.heap.size := fun x hx => hW'.lt x (by simp [hx])
  clear hA0 hval0
  refine (walk_FnPrimitivePoints zs es v1 v2 W hrd hre).mono fun e W' ⟨he, hg⟩ => ?_
  subst he
  exact ⟨_, rfl, post_of_below (pa := p1 ++ (p2 ++ [])) (pv := []) hW' (fun _ _ _ => (trodAll_cons_mk (shut_bool Try.underlying4 _) trodAll_mk0)) (fun sp hsp => (trodAll_cons_mk (WideElems.Trod_stays laid_D3 (by kernel_rfl) (of_decide_eq_true (by kernel_rfl)) h1 (fun x hx => hg.same (hlt1 x hx)) (fun x hx => hsp x (by simp [hx]))) (trodAll_cons_mk (WideElems.Trod_stays laid_D3 (by kernel_rfl) (of_decide_eq_true (by kernel_rfl)) h2 (fun x hx => hg.same (hlt2 x hx)) (fun x hx => hsp x (by simp [hx]))) trodAll_mk0))) (fun _ _ => rfl) rfl
    hg (ok_one (by kernel_rfl) rfl (okWide_bool_mk Try.underlying4 _))⟩

theorem and2_FnPrimitivePoints {a b : Bool} (h : a = true) (k : b = true) : (a && b) = true := by rw [h, k]; rfl
set_option maxRecDepth 100000 in
theorem cl0_FnPrimitivePoints : (Rows.fnPrimitivePointsRow.wf (OpenSpec.ofChange Rows.fnPrimitivePointsSpec)) = true := by kernel_rfl
set_option maxRecDepth 100000 in
theorem cl1_FnPrimitivePoints : (laidOutB Try.pinned.checked.prog) = true := by kernel_rfl
set_option maxRecDepth 100000 in
theorem cl2_FnPrimitivePoints : (mapsRowed Try.pinned.checked.prog) = true := by kernel_rfl
set_option maxRecDepth 100000 in
theorem cl3_FnPrimitivePoints : (Try.f9.params.all (Try.pinned.checked.prog.readableRec ·)) = true := by kernel_rfl
set_option maxRecDepth 100000 in
theorem cl4_FnPrimitivePoints : (namedTie Try.pinned.checked.prog Rows.fnPrimitivePointsRow.named Rows.fnPrimitivePointsSpec.vars) = true := by kernel_rfl
set_option maxRecDepth 100000 in
theorem cl5_FnPrimitivePoints : (Rows.fnPrimitivePointsRow.stops == []) = true := by kernel_rfl
set_option maxRecDepth 100000 in
theorem cl6_FnPrimitivePoints : (Try.pinned.checked.prog.stops == []) = true := by kernel_rfl
set_option maxRecDepth 100000 in
theorem cl7_FnPrimitivePoints : (Rows.fnPrimitivePointsRow.knobs == []) = true := by kernel_rfl
set_option maxRecDepth 100000 in
theorem cl8_FnPrimitivePoints : (Try.pinned.checked.prog.stopKnobs == []) = true := by kernel_rfl
set_option maxRecDepth 100000 in
theorem cl9_FnPrimitivePoints : (Rows.fnPrimitivePointsRow.inPlace == Try.pinned.checked.prog.inPlace 9) = true := by kernel_rfl
set_option maxRecDepth 100000 in
theorem cl10_FnPrimitivePoints : (Rows.fnPrimitivePointsRow.unfollowed == Try.pinned.checked.prog.unfollowed 9) = true := by kernel_rfl
set_option maxRecDepth 100000 in
theorem cl11_FnPrimitivePoints : (Rows.fnPrimitivePointsRow.recurses == Try.pinned.checked.prog.recurses 9) = true := by kernel_rfl
set_option maxRecDepth 100000 in
theorem cl12_FnPrimitivePoints : (Rows.fnPrimitivePointsRow.named == Try.pinned.checked.prog.varsNamed 9) = true := by kernel_rfl
set_option maxRecDepth 100000 in
theorem cl13_FnPrimitivePoints : (Rows.fnPrimitivePointsRow.maps == (Try.f9.params.toList ++ Rows.fnPrimitivePointsSpec.plain.varTypes Try.pinned.checked.prog).any (Try.pinned.checked.prog.mapsRec ·)) = true := by kernel_rfl
set_option maxRecDepth 100000 in
theorem cl14_FnPrimitivePoints : (Rows.fnPrimitivePointsRow.ifaces == (Try.f9.params.toList ++ Rows.fnPrimitivePointsSpec.plain.varTypes Try.pinned.checked.prog).any (Try.pinned.checked.prog.ifacesRec ·)) = true := by kernel_rfl
set_option maxRecDepth 100000 in
theorem cl15_FnPrimitivePoints : (Rows.fnPrimitivePointsRow.mapsOut == Try.pinned.checked.prog.mapsAmong Try.f9.resultTypes.toList) = true := by kernel_rfl
set_option maxRecDepth 100000 in
theorem cl16_FnPrimitivePoints : (Rows.fnPrimitivePointsRow.loops == (Try.f9.params.toList ++ Rows.fnPrimitivePointsSpec.plain.varTypes Try.pinned.checked.prog).any (Try.pinned.checked.prog.loopsFrom ·)) = true := by kernel_rfl
set_option maxRecDepth 100000 in
theorem cl17_FnPrimitivePoints : (Rows.fnPrimitivePointsRow.wideKeys == (Try.f9.params.toList ++ Rows.fnPrimitivePointsSpec.plain.varTypes Try.pinned.checked.prog ++ Try.f9.resultTypes.toList).any (Try.pinned.checked.prog.wideKeysFrom ·)) = true := by kernel_rfl
set_option maxRecDepth 100000 in
theorem cl18_FnPrimitivePoints : (Rows.fnPrimitivePointsSpec.vars.all (Try.pinned.checked.prog.varReadable ·)) = true := by kernel_rfl
set_option maxRecDepth 100000 in
theorem cl19_FnPrimitivePoints : (Try.f9.resultTypes.all (fun t => Try.pinned.checked.prog.readableRec t && decide (t < Try.pinned.checked.prog.types.size))) = true := by kernel_rfl
set_option maxRecDepth 100000 in
theorem cl20_FnPrimitivePoints : (Rows.fnPrimitivePointsRow.ifacesOut == Try.f9.resultTypes.toList.any (Try.pinned.checked.prog.ifacesRec ·)) = true := by kernel_rfl
set_option maxRecDepth 100000 in
theorem cl21_FnPrimitivePoints : (Rows.fnPrimitivePointsRow.loopsOut == Try.f9.resultTypes.toList.any (Try.pinned.checked.prog.loopsFrom ·)) = true := by kernel_rfl
set_option maxRecDepth 100000 in
theorem cl22_FnPrimitivePoints : (Rows.fnPrimitivePointsRow.plainKeys == Try.pinned.checked.prog.plainKeys) = true := by kernel_rfl
set_option maxRecDepth 100000 in
theorem cl23_FnPrimitivePoints : (Rows.fnPrimitivePointsRow.shortTexts.isNone) = true := by kernel_rfl
set_option maxRecDepth 100000 in
theorem cl24_FnPrimitivePoints : (Try.pinned.checked.prog.stopsHeard) = true := by kernel_rfl
set_option maxRecDepth 100000 in
theorem cl25_FnPrimitivePoints : (Try.pinned.checked.prog.mayEnter) = true := by kernel_rfl
set_option maxRecDepth 100000 in
theorem cl26_FnPrimitivePoints : (Rows.fnPrimitivePointsRow.lifted == Try.pinned.checked.prog.liftsFinal) = true := by kernel_rfl
set_option maxRecDepth 100000 in
theorem cl27_FnPrimitivePoints : (Try.pinned.checked.prog.make == some Rows.fnPrimitivePointsRow.make) = true := by kernel_rfl
set_option maxRecDepth 100000 in
theorem cl28_FnPrimitivePoints : (Rows.fnPrimitivePointsRow.kinds == (if Rows.fnPrimitivePointsRow.domain.isEmpty then [] else Try.f9.params.toList.map fun t => match Try.pinned.checked.prog.underlying t with | some (.int k) => some k | _ => none)) = true := by kernel_rfl
set_option maxRecDepth 100000 in
theorem cl29_FnPrimitivePoints : (Rows.fnPrimitivePointsRow.pinned == Rows.fnPrimitivePointsRow.pinnedBy) = true := by kernel_rfl
set_option maxRecDepth 100000 in
theorem cl30_FnPrimitivePoints : (Rows.fnPrimitivePointsRow.veiled == (Try.f9.params.toList ++ Rows.fnPrimitivePointsSpec.plain.varTypes Try.pinned.checked.prog ++ Try.f9.resultTypes.toList).any (Try.pinned.checked.prog.veiledRec ·)) = true := by kernel_rfl
set_option maxRecDepth 100000 in
theorem cl31_FnPrimitivePoints : (Rows.fnPrimitivePointsRow.veiledFits Try.pinned.checked.prog Try.f9.params.toList (Try.f9.params.toList ++ Rows.fnPrimitivePointsSpec.plain.varTypes Try.pinned.checked.prog ++ Try.f9.resultTypes.toList)) = true := by kernel_rfl
set_option maxRecDepth 100000 in
theorem closed_FnPrimitivePoints : joinedFacts Try.pinned.checked.prog 9 Try.f9 Rows.fnPrimitivePointsSpec Rows.fnPrimitivePointsRow = true := (and2_FnPrimitivePoints (and2_FnPrimitivePoints (and2_FnPrimitivePoints (and2_FnPrimitivePoints (and2_FnPrimitivePoints (and2_FnPrimitivePoints (and2_FnPrimitivePoints (and2_FnPrimitivePoints (and2_FnPrimitivePoints (and2_FnPrimitivePoints (and2_FnPrimitivePoints (and2_FnPrimitivePoints (and2_FnPrimitivePoints (and2_FnPrimitivePoints (and2_FnPrimitivePoints (and2_FnPrimitivePoints (and2_FnPrimitivePoints (and2_FnPrimitivePoints (and2_FnPrimitivePoints (and2_FnPrimitivePoints (and2_FnPrimitivePoints (and2_FnPrimitivePoints (and2_FnPrimitivePoints (and2_FnPrimitivePoints (and2_FnPrimitivePoints (and2_FnPrimitivePoints (and2_FnPrimitivePoints (and2_FnPrimitivePoints (and2_FnPrimitivePoints (and2_FnPrimitivePoints (and2_FnPrimitivePoints cl0_FnPrimitivePoints cl1_FnPrimitivePoints) cl2_FnPrimitivePoints) cl3_FnPrimitivePoints) cl4_FnPrimitivePoints) cl5_FnPrimitivePoints) cl6_FnPrimitivePoints) cl7_FnPrimitivePoints) cl8_FnPrimitivePoints) cl9_FnPrimitivePoints) cl10_FnPrimitivePoints) cl11_FnPrimitivePoints) cl12_FnPrimitivePoints) cl13_FnPrimitivePoints) cl14_FnPrimitivePoints) cl15_FnPrimitivePoints) cl16_FnPrimitivePoints) cl17_FnPrimitivePoints) cl18_FnPrimitivePoints) cl19_FnPrimitivePoints) cl20_FnPrimitivePoints) cl21_FnPrimitivePoints) cl22_FnPrimitivePoints) cl23_FnPrimitivePoints) cl24_FnPrimitivePoints) cl25_FnPrimitivePoints) cl26_FnPrimitivePoints) cl27_FnPrimitivePoints) cl28_FnPrimitivePoints) cl29_FnPrimitivePoints) cl30_FnPrimitivePoints) cl31_FnPrimitivePoints)


/-- The statement. -/
theorem holds_FnPrimitivePoints : Rows.FnPrimitivePointsSaid :=
  OpenClaim.holds_of_wide 9 Try.f9 rfl rfl rfl rfl rfl rfl rfl ⟨rfl, rfl, rfl, rfl, rfl⟩ rfl rfl rfl rfl rfl (by kernel_rfl) Try.func9 closed_FnPrimitivePoints
    (of_decide_eq_true (by kernel_rfl)) (by unfold Func.isWrapper; first | (rw [if_pos (by decide +kernel)]; kernel_rfl) | (rw [if_neg (by decide +kernel)]; exact ⟨rfl, rfl⟩))
    (fun os started H enc _ => lifted_FnPrimitivePoints os started H enc)
#print axioms holds_FnPrimitivePoints
end Go.Proofs.Yteicampphegolaa
