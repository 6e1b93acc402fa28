/- Contracts: the draws of the law on ambiguous splits. -/
import Derived.Test.YteehcjjhkphdnaaGreatAS
import Derived.Test.YteehcjjhkphdnaaGreatDK
import Derived.Test.YteehcjjhkphdnaaGreatF02
import Derived.Test.YteehcjjhkphdnaaGreatDW
namespace Go.Proofs.YteehcjjhkphdnaaGreat
open Go.RowKit

set_option maxRecDepth 100000 in
set_option maxHeartbeats 3200000 in
theorem drawAmbS_any (zs : List Int) (v : Value) (B : Nat) (w : World) (hr : RdB zs v B w) (hB : B ≤ w.heap.size) :
    Calls Tryz.prog 61 #[v] w (RetDf w) := by
  obtain ⟨A, m, c, rfl⟩ := hr.shape
  have hD0 := Lib.hid (drw_start2 (.cells #[.int .i64 0, .int .i64 0, .int .i64 0] 36) hr)
  have hB1 : B ≤ w.heap.size + 1 := by omega
  clear hr
  have hfin := Lib.hid (fun x y z w' (h : Drw zs (.slice A m c) B (w.heap.size + 1) 60 w w') => retDf_mk x y z h)
  go_enter Tryz.func61, Tryz.ntmps61
  go_wp2_with fail
  refine (classForm_d (by repeat (first | with_reducible assumption | (with_reducible apply Hid.out; assumption) | with_reducible apply Drw.drewN | with_reducible apply Drw.drew | with_reducible apply Drw.alloc | (with_reducible refine Drw.setp ?_ ?_ ?_ ?_; (first | omega | (simp <;> omega)); (first | omega | (simp <;> omega)); (first | omega | (simp <;> omega))))) hB1 (by omega)).mono ?_
  rintro e v1 ⟨f1, rfl, hx1, hD1', hG1⟩
  have hD1 := Lib.hid hD1'
  have lG1 := hD1'.lt
  have zG1 := hG1.size
  (try simp at zG1)
  have hA1 : Blk v1 (w.heap.size) 36 #[.int .i64 0, .int .i64 0, .int .i64 0] := Blk.grown (by (repeat (first | with_reducible assumption | (with_reducible apply Blk.new_at; (first | rfl | (simp; done))) | with_reducible apply Blk.store3 | with_reducible apply Blk.store4 | (with_reducible apply Blk.farp; (first | omega | (simp <;> omega))) | with_reducible apply Blk.allocp | with_reducible apply Blk.drew | with_reducible apply Blk.drewN))) hG1 (by simp <;> omega)
  have cA1 := hA1.cell; have fA1 := hA1.frozen; have lA1 := hA1.lt; have mA1 := Nat.ne_of_gt lA1; have nA1 := Nat.ne_of_lt lA1
  clear hD1' hG1
  have hCG := Lib.hid (fun w => scls_any f1.a f1.b f1.c w)
  cases hc : isCls f1.a f1.b f1.c with
  | false =>
    rw [hc] at hCG
    clear hc
    go_wp2_with (go_at_call 127; (with_reducible refine (hCG.out _).mono ?_); rintro e v2 ⟨rfl, hB2⟩; have hZ2 := hB2.size; (try simp at hZ2); (try have zl2 : w.heap.size < v2.heap.size := by omega); (try have ze2 : w.heap.size ≤ v2.heap.size := by omega); (try have zn2 : ¬ w.heap.size = v2.heap.size := by omega); (try have zm2 : ¬ v2.heap.size = w.heap.size := by omega); have hA2 : Blk v2 (w.heap.size) 36 #[.int .i64 0, .int .i64 0, .int .i64 0] := Blk.call (by (repeat (first | with_reducible assumption | (with_reducible apply Blk.new_at; (first | rfl | (simp; done))) | with_reducible apply Blk.store3 | with_reducible apply Blk.store4 | (with_reducible apply Blk.farp; (first | omega | (simp <;> omega))) | with_reducible apply Blk.allocp | with_reducible apply Blk.drew | with_reducible apply Blk.drewN))) hB2; have cA2 := hA2.cell; have fA2 := hA2.frozen; have lA2 := hA2.lt; have mA2 := Nat.ne_of_gt lA2; have nA2 := Nat.ne_of_lt lA2; have hP2 : Blk v2 (v1.heap.size) 36 #[.int .i64 f1.a, .int .i64 f1.b, .int .i64 f1.c] := Blk.call (by (repeat (first | with_reducible assumption | (with_reducible apply Blk.new_at; (first | rfl | (simp; done))) | with_reducible apply Blk.store3 | with_reducible apply Blk.store4 | (with_reducible apply Blk.farp; (first | omega | (simp <;> omega))) | with_reducible apply Blk.allocp | with_reducible apply Blk.drew | with_reducible apply Blk.drewN))) hB2; have cP2 := hP2.cell; have fP2 := hP2.frozen; have lP2 := hP2.lt; have mP2 := Nat.ne_of_gt lP2; have nP2 := Nat.ne_of_lt lP2)
    have hD2 : Drw zs _ B (w.heap.size + 1) _ _ v2 := Drw.call (w := _) (by repeat (first | with_reducible assumption | (with_reducible apply Hid.out; assumption) | with_reducible apply Drw.drewN | with_reducible apply Drw.drew | with_reducible apply Drw.alloc | (with_reducible refine Drw.setp ?_ ?_ ?_ ?_; (first | omega | (simp <;> omega)); (first | omega | (simp <;> omega)); (first | omega | (simp <;> omega))))) hB1 hB2
    exact bodyPost_ret (v := .agg #[.int .i64 f1.a, .int .i64 f1.b, .int .i64 f1.c]) (by simp [results, Tryz.results61, go_sem, *]) rfl (hfin.out _ _ _ _ (Drw.more (n := 0 + 34) (by repeat (first | with_reducible assumption | (with_reducible apply Hid.out; assumption) | with_reducible apply Drw.drewN | with_reducible apply Drw.drew | with_reducible apply Drw.alloc | (with_reducible refine Drw.setp ?_ ?_ ?_ ?_; (first | omega | (simp <;> omega)); (first | omega | (simp <;> omega)); (first | omega | (simp <;> omega))))) (by omega)))
  | true =>
    rw [hc] at hCG
    have cf : CF (disc f1) f1 (red f1) := CF.of_cls hc
    have hFD := Lib.hid (fun w => foDisc_cf _ f1 _ w cf)
    have hAL := Lib.hid (fun w => amAll_any (disc f1) w cf.D.lo (by have := cf.D.hi; omega))
    have hLn : (((clsL (disc f1)).filter ambB).map sp).length ≤ 1640 := by rw [List.length_map]; exact Nat.le_trans (List.length_filter_le _ _) (clsL_len _)
    have hFe := Lib.hid (fos_ex (disc f1))
    generalize disc f1 = d at *
    generalize ((clsL d).filter ambB).map sp = L at *
    clear cf hc
    go_wp2_with (go_at_call 127; (with_reducible refine (hCG.out _).mono ?_); rintro e v2 ⟨rfl, hB2⟩; have hZ2 := hB2.size; (try simp at hZ2); (try have zl2 : w.heap.size < v2.heap.size := by omega); (try have ze2 : w.heap.size ≤ v2.heap.size := by omega); (try have zn2 : ¬ w.heap.size = v2.heap.size := by omega); (try have zm2 : ¬ v2.heap.size = w.heap.size := by omega); have hA2 : Blk v2 (w.heap.size) 36 #[.int .i64 0, .int .i64 0, .int .i64 0] := Blk.call (by (repeat (first | with_reducible assumption | (with_reducible apply Blk.new_at; (first | rfl | (simp; done))) | with_reducible apply Blk.store3 | with_reducible apply Blk.store4 | (with_reducible apply Blk.farp; (first | omega | (simp <;> omega))) | with_reducible apply Blk.allocp | with_reducible apply Blk.drew | with_reducible apply Blk.drewN))) hB2; have cA2 := hA2.cell; have fA2 := hA2.frozen; have lA2 := hA2.lt; have mA2 := Nat.ne_of_gt lA2; have nA2 := Nat.ne_of_lt lA2; have hP2 : Blk v2 (v1.heap.size) 36 #[.int .i64 f1.a, .int .i64 f1.b, .int .i64 f1.c] := Blk.call (by (repeat (first | with_reducible assumption | (with_reducible apply Blk.new_at; (first | rfl | (simp; done))) | with_reducible apply Blk.store3 | with_reducible apply Blk.store4 | (with_reducible apply Blk.farp; (first | omega | (simp <;> omega))) | with_reducible apply Blk.allocp | with_reducible apply Blk.drew | with_reducible apply Blk.drewN))) hB2; have cP2 := hP2.cell; have fP2 := hP2.frozen; have lP2 := hP2.lt; have mP2 := Nat.ne_of_gt lP2; have nP2 := Nat.ne_of_lt lP2)
    have hD2 : Drw zs _ B (w.heap.size + 1) _ _ v2 := Drw.call (w := _) (by repeat (first | with_reducible assumption | (with_reducible apply Hid.out; assumption) | with_reducible apply Drw.drewN | with_reducible apply Drw.drew | with_reducible apply Drw.alloc | (with_reducible refine Drw.setp ?_ ?_ ?_ ?_; (first | omega | (simp <;> omega)); (first | omega | (simp <;> omega)); (first | omega | (simp <;> omega))))) hB1 hB2
    go_wp2_with fail
    refine (one_d (by repeat (first | with_reducible assumption | (with_reducible apply Hid.out; assumption) | with_reducible apply Drw.drewN | with_reducible apply Drw.drew | with_reducible apply Drw.alloc | (with_reducible refine Drw.setp ?_ ?_ ?_ ?_; (first | omega | (simp <;> omega)); (first | omega | (simp <;> omega)); (first | omega | (simp <;> omega))))) hB1 2 (by omega) (by omega)).mono ?_
    rintro e v3 ⟨x3, rfl, hx3, hD3', hG3⟩
    have hD3 := Lib.hid hD3'
    have lG3 := hD3'.lt
    have zG3 := hG3.size
    (try simp at zG3)
    have hA3 : Blk v3 (w.heap.size) 36 #[.int .i64 0, .int .i64 0, .int .i64 0] := Blk.grown (by (repeat (first | with_reducible assumption | (with_reducible apply Blk.new_at; (first | rfl | (simp; done))) | with_reducible apply Blk.store3 | with_reducible apply Blk.store4 | (with_reducible apply Blk.farp; (first | omega | (simp <;> omega))) | with_reducible apply Blk.allocp | with_reducible apply Blk.drew | with_reducible apply Blk.drewN))) hG3 (by simp <;> omega)
    have cA3 := hA3.cell; have fA3 := hA3.frozen; have lA3 := hA3.lt; have mA3 := Nat.ne_of_gt lA3; have nA3 := Nat.ne_of_lt lA3
    have hP3 : Blk v3 (v1.heap.size) 36 #[.int .i64 f1.a, .int .i64 f1.b, .int .i64 f1.c] := Blk.grown (by (repeat (first | with_reducible assumption | (with_reducible apply Blk.new_at; (first | rfl | (simp; done))) | with_reducible apply Blk.store3 | with_reducible apply Blk.store4 | (with_reducible apply Blk.farp; (first | omega | (simp <;> omega))) | with_reducible apply Blk.allocp | with_reducible apply Blk.drew | with_reducible apply Blk.drewN))) hG3 (by simp <;> omega)
    have cP3 := hP3.cell; have fP3 := hP3.frozen; have lP3 := hP3.lt; have mP3 := Nat.ne_of_gt lP3; have nP3 := Nat.ne_of_lt lP3
    clear hD3' hG3
    cases x3 with
    | false =>
      go_wp2
      exact bodyPost_ret (v := .agg #[.int .i64 f1.a, .int .i64 f1.b, .int .i64 f1.c]) (by simp [results, Tryz.results61, go_sem, *]) rfl (hfin.out _ _ _ _ (Drw.more (n := 0 + 34 + 2) (by repeat (first | with_reducible assumption | (with_reducible apply Hid.out; assumption) | with_reducible apply Drw.drewN | with_reducible apply Drw.drew | with_reducible apply Drw.alloc | (with_reducible refine Drw.setp ?_ ?_ ?_ ?_; (first | omega | (simp <;> omega)); (first | omega | (simp <;> omega)); (first | omega | (simp <;> omega))))) (by omega)))
    | true =>
      go_wp2_with (go_at_call 137; (with_reducible refine (hFD.out _).mono ?_); rintro e v4 ⟨rfl, hB4⟩; have hZ4 := hB4.size; (try simp at hZ4); (try have zl4 : w.heap.size < v4.heap.size := by omega); (try have ze4 : w.heap.size ≤ v4.heap.size := by omega); (try have zn4 : ¬ w.heap.size = v4.heap.size := by omega); (try have zm4 : ¬ v4.heap.size = w.heap.size := by omega); have hA4 : Blk v4 (w.heap.size) 36 #[.int .i64 0, .int .i64 0, .int .i64 0] := Blk.call (by (repeat (first | with_reducible assumption | (with_reducible apply Blk.new_at; (first | rfl | (simp; done))) | with_reducible apply Blk.store3 | with_reducible apply Blk.store4 | (with_reducible apply Blk.farp; (first | omega | (simp <;> omega))) | with_reducible apply Blk.allocp | with_reducible apply Blk.drew | with_reducible apply Blk.drewN))) hB4; have cA4 := hA4.cell; have fA4 := hA4.frozen; have lA4 := hA4.lt; have mA4 := Nat.ne_of_gt lA4; have nA4 := Nat.ne_of_lt lA4; have hP4 : Blk v4 (v1.heap.size) 36 #[.int .i64 f1.a, .int .i64 f1.b, .int .i64 f1.c] := Blk.call (by (repeat (first | with_reducible assumption | (with_reducible apply Blk.new_at; (first | rfl | (simp; done))) | with_reducible apply Blk.store3 | with_reducible apply Blk.store4 | (with_reducible apply Blk.farp; (first | omega | (simp <;> omega))) | with_reducible apply Blk.allocp | with_reducible apply Blk.drew | with_reducible apply Blk.drewN))) hB4; have cP4 := hP4.cell; have fP4 := hP4.frozen; have lP4 := hP4.lt; have mP4 := Nat.ne_of_gt lP4; have nP4 := Nat.ne_of_lt lP4)
      have hD4 : Drw zs _ B (w.heap.size + 1) _ _ v4 := Drw.call (w := _) (by repeat (first | with_reducible assumption | (with_reducible apply Hid.out; assumption) | with_reducible apply Drw.drewN | with_reducible apply Drw.drew | with_reducible apply Drw.alloc | (with_reducible refine Drw.setp ?_ ?_ ?_ ?_; (first | omega | (simp <;> omega)); (first | omega | (simp <;> omega)); (first | omega | (simp <;> omega))))) hB1 hB4
      refine (hAL.out _).mono ?_
      rintro e v5 ⟨vl, rfl, ho5, hB5⟩
      obtain ⟨base, cap, rfl⟩ := own_shape ho5
      have hz5 := hB5.size
      have hD5 : Drw zs _ B (w.heap.size + 1) _ _ v5 := Drw.call (w := _) (by repeat (first | with_reducible assumption | (with_reducible apply Hid.out; assumption) | with_reducible apply Drw.drewN | with_reducible apply Drw.drew | with_reducible apply Drw.alloc | (with_reducible refine Drw.setp ?_ ?_ ?_ ?_; (first | omega | (simp <;> omega)); (first | omega | (simp <;> omega)); (first | omega | (simp <;> omega))))) hB1 hB5
      have hA5 : Blk v5 w.heap.size 36 #[.int .i64 0, .int .i64 0, .int .i64 0] := Blk.call (by (repeat (first | with_reducible assumption | (with_reducible apply Blk.new_at; (first | rfl | (simp; done))) | with_reducible apply Blk.store3 | with_reducible apply Blk.store4 | (with_reducible apply Blk.farp; (first | omega | (simp <;> omega))) | with_reducible apply Blk.allocp | with_reducible apply Blk.drew | with_reducible apply Blk.drewN))) hB5
      have hP5 : Blk v5 v1.heap.size 36 #[.int .i64 f1.a, .int .i64 f1.b, .int .i64 f1.c] := Blk.call (by (repeat (first | with_reducible assumption | (with_reducible apply Blk.new_at; (first | rfl | (simp; done))) | with_reducible apply Blk.store3 | with_reducible apply Blk.store4 | (with_reducible apply Blk.farp; (first | omega | (simp <;> omega))) | with_reducible apply Blk.allocp | with_reducible apply Blk.drew | with_reducible apply Blk.drewN))) hB5
      have cA5 := hA5.cell; have fA5 := hA5.frozen; have lA5 := hA5.lt
      have cP5 := hP5.cell; have fP5 := hP5.frozen; have lP5 := hP5.lt
      obtain ⟨n, hn⟩ : ∃ n, L.length = n := ⟨_, rfl⟩
      have HL := Lib.hid hn
      rw [hn] at hLn ho5 ⊢
      have h64 : wrap64 (n : Int) = n := IntWalk.wrap64_in _ (by omega)
      by_cases h0 : n = 0
      · subst h0
        go_wp2
        exact bodyPost_ret (v := .agg #[.int .i64 f1.a, .int .i64 f1.b, .int .i64 f1.c]) (by simp [results, Tryz.results61, go_sem, *]) rfl (hfin.out _ _ _ _ (Drw.more (n := 0 + 34 + 2) (by repeat (first | with_reducible assumption | (with_reducible apply Hid.out; assumption) | with_reducible apply Drw.drewN | with_reducible apply Drw.drew | with_reducible apply Drw.alloc | (with_reducible refine Drw.setp ?_ ?_ ?_ ?_; (first | omega | (simp <;> omega)); (first | omega | (simp <;> omega)); (first | omega | (simp <;> omega))))) (by omega)))
      · have h1 : (0 : Int) < n := by omega
        clear hn
        go_wp2_with (go_at_call 137; (with_reducible refine (hFD.out _).mono ?_); rintro e v6 ⟨rfl, hB6⟩; have hZ6 := hB6.size; (try simp at hZ6); (try have zl6 : w.heap.size < v6.heap.size := by omega); (try have ze6 : w.heap.size ≤ v6.heap.size := by omega); (try have zn6 : ¬ w.heap.size = v6.heap.size := by omega); (try have zm6 : ¬ v6.heap.size = w.heap.size := by omega); have hA6 : Blk v6 (w.heap.size) 36 #[.int .i64 0, .int .i64 0, .int .i64 0] := Blk.call (by (repeat (first | with_reducible assumption | (with_reducible apply Blk.new_at; (first | rfl | (simp; done))) | with_reducible apply Blk.store3 | with_reducible apply Blk.store4 | (with_reducible apply Blk.farp; (first | omega | (simp <;> omega))) | with_reducible apply Blk.allocp | with_reducible apply Blk.drew | with_reducible apply Blk.drewN))) hB6; have cA6 := hA6.cell; have fA6 := hA6.frozen; have lA6 := hA6.lt; have mA6 := Nat.ne_of_gt lA6; have nA6 := Nat.ne_of_lt lA6; have hP6 : Blk v6 (v1.heap.size) 36 #[.int .i64 f1.a, .int .i64 f1.b, .int .i64 f1.c] := Blk.call (by (repeat (first | with_reducible assumption | (with_reducible apply Blk.new_at; (first | rfl | (simp; done))) | with_reducible apply Blk.store3 | with_reducible apply Blk.store4 | (with_reducible apply Blk.farp; (first | omega | (simp <;> omega))) | with_reducible apply Blk.allocp | with_reducible apply Blk.drew | with_reducible apply Blk.drewN))) hB6; have cP6 := hP6.cell; have fP6 := hP6.frozen; have lP6 := hP6.lt; have mP6 := Nat.ne_of_gt lP6; have nP6 := Nat.ne_of_lt lP6)
        have ho6 := own_call hB6 ho5
        have hD6 : Drw zs _ B (w.heap.size + 1) _ _ v6 := Drw.call (w := _) (by repeat (first | with_reducible assumption | (with_reducible apply Hid.out; assumption) | with_reducible apply Drw.drewN | with_reducible apply Drw.drew | with_reducible apply Drw.alloc | (with_reducible refine Drw.setp ?_ ?_ ?_ ?_; (first | omega | (simp <;> omega)); (first | omega | (simp <;> omega)); (first | omega | (simp <;> omega))))) hB1 hB6
        have hD6h := Lib.hid hD6
        clear hD6
        refine (pick_d (Hid.out hD6h) hB1 n (by omega) (by omega)).mono ?_
        rintro e v7 ⟨x7, rfl, hx7, hD7', hG7⟩
        have hD7 := Lib.hid hD7'
        have lG7 := hD7'.lt
        have hA7 : Blk v7 w.heap.size 36 #[.int .i64 0, .int .i64 0, .int .i64 0] := Blk.grown (by (repeat (first | with_reducible assumption | (with_reducible apply Blk.new_at; (first | rfl | (simp; done))) | with_reducible apply Blk.store3 | with_reducible apply Blk.store4 | (with_reducible apply Blk.farp; (first | omega | (simp <;> omega))) | with_reducible apply Blk.allocp | with_reducible apply Blk.drew | with_reducible apply Blk.drewN))) hG7 (by simp <;> omega)
        have hP7 : Blk v7 v1.heap.size 36 #[.int .i64 f1.a, .int .i64 f1.b, .int .i64 f1.c] := Blk.grown (by (repeat (first | with_reducible assumption | (with_reducible apply Blk.new_at; (first | rfl | (simp; done))) | with_reducible apply Blk.store3 | with_reducible apply Blk.store4 | (with_reducible apply Blk.farp; (first | omega | (simp <;> omega))) | with_reducible apply Blk.allocp | with_reducible apply Blk.drew | with_reducible apply Blk.drewN))) hG7 (by simp <;> omega)
        have cA7 := hA7.cell; have fA7 := hA7.frozen; have lA7 := hA7.lt
        have cP7 := hP7.cell; have fP7 := hP7.frozen; have lP7 := hP7.lt
        have ho7 := own_drw ho6 (by omega) hG7
        have hz7 := hG7.size
        obtain ⟨k, rfl⟩ : ∃ k : Nat, x7 = k := ⟨x7.toNat, by omega⟩
        have hk : k < L.length := by rw [HL.out]; omega
        have hkn : (k : Int) < n := by omega
        rw [← HL.out] at ho7
        obtain ⟨g, rfl, lg, d1, d2⟩ := own_elemS ho7 hk
        generalize L[k].1 = r at d1
        generalize L[k].2 = r2 at d2
        obtain ⟨⟨x, y, z⟩, b, hf⟩ := hFe.out r
        have hFS := Lib.hid (fun w => specFos_any d r x y z b w hf)
        clear hD7' hG7 ho7 ho6 ho5 hf hx7
        cases b with
        | false =>
          go_wp2_with (go_at_call 149; (with_reducible refine (hFS.out _).mono ?_); rintro e v8 ⟨rfl, hB8⟩; have hZ8 := hB8.size; (try simp at hZ8); (try have zl8 : w.heap.size < v8.heap.size := by omega); (try have ze8 : w.heap.size ≤ v8.heap.size := by omega); (try have zn8 : ¬ w.heap.size = v8.heap.size := by omega); (try have zm8 : ¬ v8.heap.size = w.heap.size := by omega); have hA8 : Blk v8 (w.heap.size) 36 #[.int .i64 0, .int .i64 0, .int .i64 0] := Blk.call (by (repeat (first | with_reducible assumption | (with_reducible apply Blk.new_at; (first | rfl | (simp; done))) | with_reducible apply Blk.store3 | with_reducible apply Blk.store4 | (with_reducible apply Blk.farp; (first | omega | (simp <;> omega))) | with_reducible apply Blk.allocp | with_reducible apply Blk.drew | with_reducible apply Blk.drewN))) hB8; have cA8 := hA8.cell; have fA8 := hA8.frozen; have lA8 := hA8.lt; have mA8 := Nat.ne_of_gt lA8; have nA8 := Nat.ne_of_lt lA8; have hP8 : Blk v8 (v1.heap.size) 36 #[.int .i64 f1.a, .int .i64 f1.b, .int .i64 f1.c] := Blk.call (by (repeat (first | with_reducible assumption | (with_reducible apply Blk.new_at; (first | rfl | (simp; done))) | with_reducible apply Blk.store3 | with_reducible apply Blk.store4 | (with_reducible apply Blk.farp; (first | omega | (simp <;> omega))) | with_reducible apply Blk.allocp | with_reducible apply Blk.drew | with_reducible apply Blk.drewN))) hB8; have cP8 := hP8.cell; have fP8 := hP8.frozen; have lP8 := hP8.lt; have mP8 := Nat.ne_of_gt lP8; have nP8 := Nat.ne_of_lt lP8)
          have hD8 : Drw zs _ B (w.heap.size + 1) _ _ v8 := Drw.call (w := _) (by repeat (first | with_reducible assumption | (with_reducible apply Hid.out; assumption) | with_reducible apply Drw.drewN | with_reducible apply Drw.drew | with_reducible apply Drw.alloc | (with_reducible refine Drw.setp ?_ ?_ ?_ ?_; (first | omega | (simp <;> omega)); (first | omega | (simp <;> omega)); (first | omega | (simp <;> omega))))) hB1 hB8
          exact bodyPost_ret (v := .agg #[.int .i64 f1.a, .int .i64 f1.b, .int .i64 f1.c]) (by simp [results, Tryz.results61, go_sem, *]) rfl (hfin.out _ _ _ _ (Drw.more (n := 0 + 34 + 2 + 2) (by repeat (first | with_reducible assumption | (with_reducible apply Hid.out; assumption) | with_reducible apply Drw.drewN | with_reducible apply Drw.drew | with_reducible apply Drw.alloc | (with_reducible refine Drw.setp ?_ ?_ ?_ ?_; (first | omega | (simp <;> omega)); (first | omega | (simp <;> omega)); (first | omega | (simp <;> omega))))) (by omega)))
        | true =>
          go_wp2_with (go_at_call 149; (with_reducible refine (hFS.out _).mono ?_); rintro e v8 ⟨rfl, hB8⟩; have hZ8 := hB8.size; (try simp at hZ8); (try have zl8 : w.heap.size < v8.heap.size := by omega); (try have ze8 : w.heap.size ≤ v8.heap.size := by omega); (try have zn8 : ¬ w.heap.size = v8.heap.size := by omega); (try have zm8 : ¬ v8.heap.size = w.heap.size := by omega); have hA8 : Blk v8 (w.heap.size) 36 #[.int .i64 0, .int .i64 0, .int .i64 0] := Blk.call (by (repeat (first | with_reducible assumption | (with_reducible apply Blk.new_at; (first | rfl | (simp; done))) | with_reducible apply Blk.store3 | with_reducible apply Blk.store4 | (with_reducible apply Blk.farp; (first | omega | (simp <;> omega))) | with_reducible apply Blk.allocp | with_reducible apply Blk.drew | with_reducible apply Blk.drewN))) hB8; have cA8 := hA8.cell; have fA8 := hA8.frozen; have lA8 := hA8.lt; have mA8 := Nat.ne_of_gt lA8; have nA8 := Nat.ne_of_lt lA8)
          have hD8 : Drw zs _ B (w.heap.size + 1) _ _ v8 := Drw.call (w := _) (by repeat (first | with_reducible assumption | (with_reducible apply Hid.out; assumption) | with_reducible apply Drw.drewN | with_reducible apply Drw.drew | with_reducible apply Drw.alloc | (with_reducible refine Drw.setp ?_ ?_ ?_ ?_; (first | omega | (simp <;> omega)); (first | omega | (simp <;> omega)); (first | omega | (simp <;> omega))))) hB1 hB8
          go_wp2_with fail
          refine (moved_d (by repeat (first | with_reducible assumption | (with_reducible apply Hid.out; assumption) | with_reducible apply Drw.drewN | with_reducible apply Drw.drew | with_reducible apply Drw.alloc | (with_reducible refine Drw.setp ?_ ?_ ?_ ?_; (first | omega | (simp <;> omega)); (first | omega | (simp <;> omega)); (first | omega | (simp <;> omega))))) hB1 (by omega) ⟨x, y, z⟩).mono ?_
          rintro e v9 ⟨f9, rfl, hx9, hD9', hG9⟩
          have hD9 := Lib.hid hD9'
          have lG9 := hD9'.lt
          have zG9 := hG9.size
          (try simp at zG9)
          have hA9 : Blk v9 (w.heap.size) 36 #[.int .i64 0, .int .i64 0, .int .i64 0] := Blk.grown (by (repeat (first | with_reducible assumption | (with_reducible apply Blk.new_at; (first | rfl | (simp; done))) | with_reducible apply Blk.store3 | with_reducible apply Blk.store4 | (with_reducible apply Blk.farp; (first | omega | (simp <;> omega))) | with_reducible apply Blk.allocp | with_reducible apply Blk.drew | with_reducible apply Blk.drewN))) hG9 (by simp <;> omega)
          have cA9 := hA9.cell; have fA9 := hA9.frozen; have lA9 := hA9.lt; have mA9 := Nat.ne_of_gt lA9; have nA9 := Nat.ne_of_lt lA9
          clear hD9' hG9
          go_wp2
          exact bodyPost_ret (v := .agg #[.int .i64 f9.a, .int .i64 f9.b, .int .i64 f9.c]) (by simp [results, Tryz.results61, go_sem, *]) rfl (hfin.out _ _ _ _ (Drw.more (n := 0 + 34 + 2 + 2 + 22) (by repeat (first | with_reducible assumption | (with_reducible apply Hid.out; assumption) | with_reducible apply Drw.drewN | with_reducible apply Drw.drew | with_reducible apply Drw.alloc | (with_reducible refine Drw.setp ?_ ?_ ?_ ?_; (first | omega | (simp <;> omega)); (first | omega | (simp <;> omega)); (first | omega | (simp <;> omega))))) (by omega)))

set_option maxRecDepth 100000 in
set_option maxHeartbeats 3200000 in
theorem drawDv_any (zs : List Int) (v : Value) (B : Nat) (w : World) (hr : RdB zs v B w) (hB : B ≤ w.heap.size) :
    Calls Tryz.prog 68 #[v] w fun e w' => ∃ x : Int, e = .returned (.int .i64 x) ∧ Below w.heap.size w w' := by
  obtain ⟨A, m, c, rfl⟩ := hr.shape
  have hD0 := Lib.hid (drw_start hr)
  clear hr
  have hfin := Lib.hid (fun (x : Int) n w' (h : Drw zs (.slice A m c) B w.heap.size n (w.alloc (.cells #[.slice A m c, .int .i64 0, .int .u64 0] 95)) w') => (⟨x, rfl, below_cur h.gr⟩ : ∃ y : Int, Ending.returned (.int .i64 x) = .returned (.int .i64 y) ∧ Below w.heap.size w w'))
  go_enter Tryz.func68, Tryz.ntmps68
  go_wp2_with fail
  refine (pick_d (by repeat (first | with_reducible assumption | (with_reducible apply Hid.out; assumption) | with_reducible apply Drw.drewN | with_reducible apply Drw.drew | with_reducible apply Drw.alloc | (with_reducible refine Drw.setp ?_ ?_ ?_ ?_; (first | omega | (simp <;> omega)); (first | omega | (simp <;> omega)); (first | omega | (simp <;> omega))))) hB 260 (by omega) (by omega)).mono ?_
  rintro e v1 ⟨x1, rfl, hx1, hD1', hG1⟩
  have hD1 := Lib.hid hD1'
  have hx1' : 0 ≤ x1 ∧ x1 < 260 := by omega
  clear hD1' hG1 hx1
  have w1 : wrap64 (2 * x1) = 2 * x1 := IntWalk.wrap64_in _ (by omega)
  have w1' : wrap64 (1 + 2 * x1) = 1 + 2 * x1 := IntWalk.wrap64_in _ (by omega)
  go_wp2_with fail
  refine (pick_d (Hid.out hD1) hB 260 (by omega) (by omega)).mono ?_
  rintro e v2 ⟨x2, rfl, hx2, hD2', hG2⟩
  have hD2 := Lib.hid hD2'
  have hx2' : 0 ≤ x2 ∧ x2 < 260 := by omega
  clear hD2' hG2 hx2
  have w2 : wrap64 (2 * x2) = 2 * x2 := IntWalk.wrap64_in _ (by omega)
  have w2' : wrap64 (1 + 2 * x2) = 1 + 2 * x2 := IntWalk.wrap64_in _ (by omega)
  go_wp2_with fail
  refine (among_d (w := v2) (Hid.out hD2) hB [3, 5, 15, 21, 35, 105, 315, 499, 501, 1, 2, 9, -3, 1 + 2 * x1, 1 + 2 * x2] (fun _ => True) (by simp) (by simp) (by simp) (by omega)).mono ?_
  rintro e v3 ⟨x3, rfl, hx3, hD3', hG3⟩
  go_wp2
  go_ret
  exact hfin.out _ _ _ hD3'
end Go.Proofs.YteehcjjhkphdnaaGreat
