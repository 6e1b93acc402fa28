/- FnClassRoots returns true: for every drawn class form, its genus is its coset of the squares, and its square roots, if there are any, are as many as ambiguous classes. Conditions: none. -/
import Derived.Test.YteehcjjhkphdnaaGreatDH
import Derived.Test.YteehcjjhkphdnaaGreatGS
import Derived.Test.YteehcjjhkphdnaaGreatDB
import Derived.Test.YteehcjjhkphdnaaGreatRX
import Derived.Test.YteehcjjhkphdnaaGreatQX
import Derived.Test.YteehcjjhkphdnaaGreatW2
namespace Go.Proofs.YteehcjjhkphdnaaGreat
open Go.RowKit Go.ChangeShapes Go.WideShapes Go.ChangeAt Go.Joins

set_option maxRecDepth 100000 in
set_option maxHeartbeats 6400000 in
theorem drawSC_any (zs : List Int) (v : Value) (B : Nat) (w : World) (hr : RdB zs v B w) (hB : B ≤ w.heap.size) :
    Calls Tryz.prog 49 #[v] w (RetDf w) := by
  obtain ⟨A, m, c, rfl⟩ := hr.shape
  have HR := Lib.hid hr
  clear hr
  go_enter Tryz.func49, Tryz.ntmps49
  go_wp2_with fail
  refine (drawIsSq_any zs _ B _ (HR.out.grown (grown_alloc _ _ none) (fun k hk => by cases hk)) (by simp; omega)).mono ?_
  rintro e w1 ⟨f, rfl, hb1⟩
  have hz := hb1.size
  (try simp at hz)
  have hA : Blk w1 w.heap.size 36 #[.int .i64 0, .int .i64 0, .int .i64 0] := Blk.call (by (repeat (first | with_reducible assumption | (with_reducible apply Blk.new_at; (first | rfl | (simp; done))) | with_reducible apply Blk.store3 | with_reducible apply Blk.store4 | (with_reducible apply Blk.farp; (first | omega | (simp <;> omega))) | with_reducible apply Blk.allocp | with_reducible apply Blk.drew | with_reducible apply Blk.drewN))) hb1
  have cA := hA.cell; have fA := hA.frozen
  go_wp2
  exact bodyPost_ret (v := .agg #[.int .i64 f.a, .int .i64 f.b, .int .i64 f.c]) (by simp [results, Tryz.results49, go_sem, *]) rfl ⟨f, rfl, (by repeat (first | with_reducible exact Below.refl _ _ | with_reducible assumption | with_reducible apply Below.drew | with_reducible apply below_drewN | (with_reducible apply below_setp; (first | omega | (simp <;> omega))) | (with_reducible apply below_allocp; (first | omega | (simp <;> omega))) | (with_reducible refine below_viap (by assumption) ?_ ?_; (first | omega | (simp <;> omega)))))⟩

/-- The loop over the roots. -/
def RcSt (m : Nat) (w9 : World) (vi : Value) (wr : World) : Prop := ∃ k : Nat, vi = .int .i64 k ∧ k ≤ m ∧ Below w9.heap.size w9 wr

set_option maxRecDepth 100000 in
set_option maxHeartbeats 12800000 in
theorem walk_FnClassRoots (zs es : List Int) (v u : Value) (w : World) (hz : ReB zs v w) (he : ReB es u w) :
    Calls Tryz.prog 7 #[v, u] w fun e w' => e = .returned (.bool true) ∧ Below w.heap.size w w' := by
  have HZ := Lib.hid hz
  obtain ⟨A, c1, rfl⟩ := hz.shape
  obtain ⟨A2, c2, rfl⟩ := he.shape
  clear hz he
  by_cases hbig : zs.length ≤ 1048576 ∧ es.length ≤ 1048576 - zs.length
  · have Hb := Lib.hid (fun w => big_no A A2 zs.length es.length c1 c2 w hbig.1 hbig.2)
    have HR := Lib.hid (HZ.out.rd hbig.1)
    clear HZ hbig
    go_enter Tryz.func7, Tryz.ntmps7
    go_wp2_with (go_at_call 10; (with_reducible refine (Hb.out _).mono ?_); rintro e v ⟨rfl, rfl⟩)
    refine (drawSC_any zs _ _ _ HR.out (Nat.le_refl _)).mono ?_
    rintro e v1 ⟨⟨a, b, c⟩, rfl, hb1⟩
    have hz1 := hb1.size
    dsimp only
    cases hc : isCls a b c with
    | false =>
      have HS := Lib.hid (fun w => specSC_any a b c [] false w (.inl ⟨hc, rfl, rfl⟩))
      have HI := Lib.hid (fun w => implSC_any a b c [] false w (.inl ⟨hc, rfl, rfl⟩))
      clear hc
      go_wp2_with fail
      refine (HI.out _).mono ?_
      rintro e v2 ⟨vi, rfl, hl2, hc2⟩
      have hz2 := hc2.size
      (try simp at hz2)
      have hF2 : Blk v2 (v1.heap.size) 36 #[.int .i64 a, .int .i64 b, .int .i64 c] := Blk.call (by (repeat (first | with_reducible assumption | (with_reducible apply Blk.new_at; (first | rfl | (simp; done))) | with_reducible apply Blk.store3 | with_reducible apply Blk.store4 | (with_reducible apply Blk.farp; (first | omega | (simp <;> omega))) | with_reducible apply Blk.allocp | with_reducible apply Blk.drew | with_reducible apply Blk.drewN))) hc2
      have cF2 := hF2.cell; have fF2 := hF2.frozen; have lF2 := hF2.lt; have mF2 := Nat.ne_of_gt lF2; have nF2 := Nat.ne_of_lt lF2
      have hb2 : Below w.heap.size w v2 := (by repeat (first | with_reducible exact Below.refl _ _ | with_reducible assumption | with_reducible apply Below.drew | with_reducible apply below_drewN | (with_reducible apply below_setp; (first | omega | (simp <;> omega))) | (with_reducible apply below_allocp; (first | omega | (simp <;> omega))) | (with_reducible refine below_viap (by assumption) ?_ ?_; (first | omega | (simp <;> omega)))))
      go_wp2_with fail
      refine (HS.out _).mono ?_
      rintro e v3 ⟨vs, rfl, hs3, hc3⟩
      have hz3 := hc3.size
      (try simp at hz3)
      have hF3 : Blk v3 (v1.heap.size) 36 #[.int .i64 a, .int .i64 b, .int .i64 c] := Blk.call (by (repeat (first | with_reducible assumption | (with_reducible apply Blk.new_at; (first | rfl | (simp; done))) | with_reducible apply Blk.store3 | with_reducible apply Blk.store4 | (with_reducible apply Blk.farp; (first | omega | (simp <;> omega))) | with_reducible apply Blk.allocp | with_reducible apply Blk.drew | with_reducible apply Blk.drewN))) hc3
      have cF3 := hF3.cell; have fF3 := hF3.frozen; have lF3 := hF3.lt; have mF3 := Nat.ne_of_gt lF3; have nF3 := Nat.ne_of_lt lF3
      have hl3 := own_call hc3 hl2
      have hb3 : Below w.heap.size w v3 := (by repeat (first | with_reducible exact Below.refl _ _ | with_reducible assumption | with_reducible apply Below.drew | with_reducible apply below_drewN | (with_reducible apply below_setp; (first | omega | (simp <;> omega))) | (with_reducible apply below_allocp; (first | omega | (simp <;> omega))) | (with_reducible refine below_viap (by assumption) ?_ ?_; (first | omega | (simp <;> omega)))))
      clear hF2 cF2 fF2 lF2 mF2 nF2 hl2
      go_wp2_with (go_at_call 14; refine (pSameForms_same vi vs _ _ [] _ (by simp) hl3 hs3).mono ?_; rintro e v4 ⟨rfl, hc4⟩)
      go_ret
      exact ⟨rfl, (by repeat (first | with_reducible exact Below.refl _ _ | with_reducible assumption | with_reducible apply Below.drew | with_reducible apply below_drewN | (with_reducible apply below_setp; (first | omega | (simp <;> omega))) | (with_reducible apply below_allocp; (first | omega | (simp <;> omega))) | (with_reducible refine below_viap (by assumption) ?_ ?_; (first | omega | (simp <;> omega)))))⟩
    | true =>
      obtain ⟨L, R, A, y, hrow⟩ := rt_row hc
      have HS := Lib.hid (fun w => specSC_any a b c L true w hrow.sc)
      have HI := Lib.hid (fun w => implSC_any a b c L true w hrow.sc)
      have HG := Lib.hid (fun w => implGO_any a b c L true w hrow.go)
      have HQ := Lib.hid (fun w => implIsSqB_any a b c y true w hrow.sq)
      have HT := Lib.hid (fun w => implRoots_any a b c 2 R true w hrow.rt)
      have HD := Lib.hid (fun w => implDisc_c a b c w hc)
      have HA := Lib.hid (fun w => implAC_any (disc ⟨a, b, c⟩) A true w hrow.am)
      have HF := Lib.hid (fun w => implReduce_d a b c w (cls_fm hc).2 (cls_def6 hc))
      have HC := Lib.hid (fun x (hx : x ∈ R) w => (hrow.cls x hx).2 ▸ implComp_c x x w (hrow.cls x hx).1)
      obtain ⟨bL, bR, bA⟩ := hrow.bd
      have hyes := hrow.yes
      have hlen := hrow.len
      generalize redM ⟨a, b, c⟩ M4.one = m at HF
      generalize red ⟨a, b, c⟩ = r at HF HC
      generalize disc ⟨a, b, c⟩ = d at HD HA
      clear hc hrow
      go_wp2_with fail
      refine (HI.out _).mono ?_
      rintro e v2 ⟨vi, rfl, hl2, hc2⟩
      have hz2 := hc2.size
      (try simp at hz2)
      have hF2 : Blk v2 (v1.heap.size) 36 #[.int .i64 a, .int .i64 b, .int .i64 c] := Blk.call (by (repeat (first | with_reducible assumption | (with_reducible apply Blk.new_at; (first | rfl | (simp; done))) | with_reducible apply Blk.store3 | with_reducible apply Blk.store4 | (with_reducible apply Blk.farp; (first | omega | (simp <;> omega))) | with_reducible apply Blk.allocp | with_reducible apply Blk.drew | with_reducible apply Blk.drewN))) hc2
      have cF2 := hF2.cell; have fF2 := hF2.frozen; have lF2 := hF2.lt; have mF2 := Nat.ne_of_gt lF2; have nF2 := Nat.ne_of_lt lF2
      have hb2 : Below w.heap.size w v2 := (by repeat (first | with_reducible exact Below.refl _ _ | with_reducible assumption | with_reducible apply Below.drew | with_reducible apply below_drewN | (with_reducible apply below_setp; (first | omega | (simp <;> omega))) | (with_reducible apply below_allocp; (first | omega | (simp <;> omega))) | (with_reducible refine below_viap (by assumption) ?_ ?_; (first | omega | (simp <;> omega)))))
      go_wp2_with fail
      refine (HS.out _).mono ?_
      rintro e v3 ⟨vs, rfl, hs3, hc3⟩
      have hz3 := hc3.size
      (try simp at hz3)
      have hF3 : Blk v3 (v1.heap.size) 36 #[.int .i64 a, .int .i64 b, .int .i64 c] := Blk.call (by (repeat (first | with_reducible assumption | (with_reducible apply Blk.new_at; (first | rfl | (simp; done))) | with_reducible apply Blk.store3 | with_reducible apply Blk.store4 | (with_reducible apply Blk.farp; (first | omega | (simp <;> omega))) | with_reducible apply Blk.allocp | with_reducible apply Blk.drew | with_reducible apply Blk.drewN))) hc3
      have cF3 := hF3.cell; have fF3 := hF3.frozen; have lF3 := hF3.lt; have mF3 := Nat.ne_of_gt lF3; have nF3 := Nat.ne_of_lt lF3
      have hl3 := own_call hc3 hl2
      have hb3 : Below w.heap.size w v3 := (by repeat (first | with_reducible exact Below.refl _ _ | with_reducible assumption | with_reducible apply Below.drew | with_reducible apply below_drewN | (with_reducible apply below_setp; (first | omega | (simp <;> omega))) | (with_reducible apply below_allocp; (first | omega | (simp <;> omega))) | (with_reducible refine below_viap (by assumption) ?_ ?_; (first | omega | (simp <;> omega)))))
      clear hF2 cF2 fF2 lF2 mF2 nF2 hl2
      go_wp2_with fail
      refine (pSameForms_same vi vs _ _ L _ (by omega) hl3 hs3).mono ?_
      rintro e v4 ⟨rfl, hc4⟩
      have hz4 := hc4.size
      (try simp at hz4)
      have hF4 : Blk v4 (v1.heap.size) 36 #[.int .i64 a, .int .i64 b, .int .i64 c] := Blk.call (by (repeat (first | with_reducible assumption | (with_reducible apply Blk.new_at; (first | rfl | (simp; done))) | with_reducible apply Blk.store3 | with_reducible apply Blk.store4 | (with_reducible apply Blk.farp; (first | omega | (simp <;> omega))) | with_reducible apply Blk.allocp | with_reducible apply Blk.drew | with_reducible apply Blk.drewN))) hc4
      have cF4 := hF4.cell; have fF4 := hF4.frozen; have lF4 := hF4.lt; have mF4 := Nat.ne_of_gt lF4; have nF4 := Nat.ne_of_lt lF4
      have hl4 := own_call hc4 hl3
      have hs4 := own_call hc4 hs3
      have hb4 : Below w.heap.size w v4 := (by repeat (first | with_reducible exact Below.refl _ _ | with_reducible assumption | with_reducible apply Below.drew | with_reducible apply below_drewN | (with_reducible apply below_setp; (first | omega | (simp <;> omega))) | (with_reducible apply below_allocp; (first | omega | (simp <;> omega))) | (with_reducible refine below_viap (by assumption) ?_ ?_; (first | omega | (simp <;> omega)))))
      clear hF3 cF3 fF3 lF3 mF3 nF3 hl3 hs3
      go_wp2_with fail
      refine (HG.out _).mono ?_
      rintro e v5 ⟨vg, rfl, hg5, hc5⟩
      have hz5 := hc5.size
      (try simp at hz5)
      have hF5 : Blk v5 (v1.heap.size) 36 #[.int .i64 a, .int .i64 b, .int .i64 c] := Blk.call (by (repeat (first | with_reducible assumption | (with_reducible apply Blk.new_at; (first | rfl | (simp; done))) | with_reducible apply Blk.store3 | with_reducible apply Blk.store4 | (with_reducible apply Blk.farp; (first | omega | (simp <;> omega))) | with_reducible apply Blk.allocp | with_reducible apply Blk.drew | with_reducible apply Blk.drewN))) hc5
      have cF5 := hF5.cell; have fF5 := hF5.frozen; have lF5 := hF5.lt; have mF5 := Nat.ne_of_gt lF5; have nF5 := Nat.ne_of_lt lF5
      have hl5 := own_call hc5 hl4
      have hb5 : Below w.heap.size w v5 := (by repeat (first | with_reducible exact Below.refl _ _ | with_reducible assumption | with_reducible apply Below.drew | with_reducible apply below_drewN | (with_reducible apply below_setp; (first | omega | (simp <;> omega))) | (with_reducible apply below_allocp; (first | omega | (simp <;> omega))) | (with_reducible refine below_viap (by assumption) ?_ ?_; (first | omega | (simp <;> omega)))))
      clear hF4 cF4 fF4 lF4 mF4 nF4 hl4
      go_wp2_with fail
      refine (HQ.out _).mono ?_
      rintro e v6 ⟨rfl, hc6⟩
      have hz6 := hc6.size
      (try simp at hz6)
      have hF6 : Blk v6 (v1.heap.size) 36 #[.int .i64 a, .int .i64 b, .int .i64 c] := Blk.call (by (repeat (first | with_reducible assumption | (with_reducible apply Blk.new_at; (first | rfl | (simp; done))) | with_reducible apply Blk.store3 | with_reducible apply Blk.store4 | (with_reducible apply Blk.farp; (first | omega | (simp <;> omega))) | with_reducible apply Blk.allocp | with_reducible apply Blk.drew | with_reducible apply Blk.drewN))) hc6
      have cF6 := hF6.cell; have fF6 := hF6.frozen; have lF6 := hF6.lt; have mF6 := Nat.ne_of_gt lF6; have nF6 := Nat.ne_of_lt lF6
      have hl6 := own_call hc6 hl5
      have hg6 := own_call hc6 hg5
      have hb6 : Below w.heap.size w v6 := (by repeat (first | with_reducible exact Below.refl _ _ | with_reducible assumption | with_reducible apply Below.drew | with_reducible apply below_drewN | (with_reducible apply below_setp; (first | omega | (simp <;> omega))) | (with_reducible apply below_allocp; (first | omega | (simp <;> omega))) | (with_reducible refine below_viap (by assumption) ?_ ?_; (first | omega | (simp <;> omega)))))
      clear hF5 cF5 fF5 lF5 mF5 nF5 hl5 hg5
      go_wp2_with fail
      refine (HT.out _).mono ?_
      rintro e v7 ⟨vr, rfl, hr7, hc7⟩
      have hz7 := hc7.size
      (try simp at hz7)
      have hF7 : Blk v7 (v1.heap.size) 36 #[.int .i64 a, .int .i64 b, .int .i64 c] := Blk.call (by (repeat (first | with_reducible assumption | (with_reducible apply Blk.new_at; (first | rfl | (simp; done))) | with_reducible apply Blk.store3 | with_reducible apply Blk.store4 | (with_reducible apply Blk.farp; (first | omega | (simp <;> omega))) | with_reducible apply Blk.allocp | with_reducible apply Blk.drew | with_reducible apply Blk.drewN))) hc7
      have cF7 := hF7.cell; have fF7 := hF7.frozen; have lF7 := hF7.lt; have mF7 := Nat.ne_of_gt lF7; have nF7 := Nat.ne_of_lt lF7
      have hl7 := own_call hc7 hl6
      have hg7 := own_call hc7 hg6
      have hb7 : Below w.heap.size w v7 := (by repeat (first | with_reducible exact Below.refl _ _ | with_reducible assumption | with_reducible apply Below.drew | with_reducible apply below_drewN | (with_reducible apply below_setp; (first | omega | (simp <;> omega))) | (with_reducible apply below_allocp; (first | omega | (simp <;> omega))) | (with_reducible refine below_viap (by assumption) ?_ ?_; (first | omega | (simp <;> omega)))))
      clear hF6 cF6 fF6 lF6 mF6 nF6 hl6 hg6
      obtain ⟨br, cr, rfl⟩ := own_shape hr7
      go_wp2_with fail
      refine (HD.out _).mono ?_
      rintro e v8 ⟨rfl, hc8⟩
      have hz8 := hc8.size
      (try simp at hz8)
      have hF8 : Blk v8 (v1.heap.size) 36 #[.int .i64 a, .int .i64 b, .int .i64 c] := Blk.call (by (repeat (first | with_reducible assumption | (with_reducible apply Blk.new_at; (first | rfl | (simp; done))) | with_reducible apply Blk.store3 | with_reducible apply Blk.store4 | (with_reducible apply Blk.farp; (first | omega | (simp <;> omega))) | with_reducible apply Blk.allocp | with_reducible apply Blk.drew | with_reducible apply Blk.drewN))) hc8
      have cF8 := hF8.cell; have fF8 := hF8.frozen; have lF8 := hF8.lt; have mF8 := Nat.ne_of_gt lF8; have nF8 := Nat.ne_of_lt lF8
      have hl8 := own_call hc8 hl7
      have hg8 := own_call hc8 hg7
      have hr8 := own_call hc8 hr7
      have hb8 : Below w.heap.size w v8 := (by repeat (first | with_reducible exact Below.refl _ _ | with_reducible assumption | with_reducible apply Below.drew | with_reducible apply below_drewN | (with_reducible apply below_setp; (first | omega | (simp <;> omega))) | (with_reducible apply below_allocp; (first | omega | (simp <;> omega))) | (with_reducible refine below_viap (by assumption) ?_ ?_; (first | omega | (simp <;> omega)))))
      clear hF7 cF7 fF7 lF7 mF7 nF7 hl7 hg7 hr7
      go_wp2_with fail
      refine (HA.out _).mono ?_
      rintro e v9 ⟨va, rfl, ha9, hc9⟩
      have hz9 := hc9.size
      (try simp at hz9)
      have hF9 : Blk v9 (v1.heap.size) 36 #[.int .i64 a, .int .i64 b, .int .i64 c] := Blk.call (by (repeat (first | with_reducible assumption | (with_reducible apply Blk.new_at; (first | rfl | (simp; done))) | with_reducible apply Blk.store3 | with_reducible apply Blk.store4 | (with_reducible apply Blk.farp; (first | omega | (simp <;> omega))) | with_reducible apply Blk.allocp | with_reducible apply Blk.drew | with_reducible apply Blk.drewN))) hc9
      have cF9 := hF9.cell; have fF9 := hF9.frozen; have lF9 := hF9.lt; have mF9 := Nat.ne_of_gt lF9; have nF9 := Nat.ne_of_lt lF9
      have hl9 := own_call hc9 hl8
      have hg9 := own_call hc9 hg8
      have hr9 := own_call hc9 hr8
      have hb9 : Below w.heap.size w v9 := (by repeat (first | with_reducible exact Below.refl _ _ | with_reducible assumption | with_reducible apply Below.drew | with_reducible apply below_drewN | (with_reducible apply below_setp; (first | omega | (simp <;> omega))) | (with_reducible apply below_allocp; (first | omega | (simp <;> omega))) | (with_reducible refine below_viap (by assumption) ?_ ?_; (first | omega | (simp <;> omega)))))
      clear hF8 cF8 fF8 lF8 mF8 nF8 hl8 hg8 hr8
      obtain ⟨ba, ca, rfl⟩ := own_shape ha9
      go_wp2_with fail
      refine (HF.out _).mono ?_
      rintro e v10 ⟨rfl, hc10⟩
      have hz10 := hc10.size
      (try simp at hz10)
      have hF10 : Blk v10 (v1.heap.size) 36 #[.int .i64 a, .int .i64 b, .int .i64 c] := Blk.call (by (repeat (first | with_reducible assumption | (with_reducible apply Blk.new_at; (first | rfl | (simp; done))) | with_reducible apply Blk.store3 | with_reducible apply Blk.store4 | (with_reducible apply Blk.farp; (first | omega | (simp <;> omega))) | with_reducible apply Blk.allocp | with_reducible apply Blk.drew | with_reducible apply Blk.drewN))) hc10
      have cF10 := hF10.cell; have fF10 := hF10.frozen; have lF10 := hF10.lt; have mF10 := Nat.ne_of_gt lF10; have nF10 := Nat.ne_of_lt lF10
      have hl10 := own_call hc10 hl9
      have hg10 := own_call hc10 hg9
      have hr10 := own_call hc10 hr9
      have ha10 := own_call hc10 ha9
      have hb10 : Below w.heap.size w v10 := (by repeat (first | with_reducible exact Below.refl _ _ | with_reducible assumption | with_reducible apply Below.drew | with_reducible apply below_drewN | (with_reducible apply below_setp; (first | omega | (simp <;> omega))) | (with_reducible apply below_allocp; (first | omega | (simp <;> omega))) | (with_reducible refine below_viap (by assumption) ?_ ?_; (first | omega | (simp <;> omega)))))
      clear hF9 cF9 fF9 lF9 mF9 nF9 hl9 hg9 hr9 ha9
      obtain ⟨n, hn⟩ : ∃ n, R.length = n := ⟨_, rfl⟩
      rw [hn] at hr10 hyes hlen bR ⊢
      have HRn := Lib.hid hn
      clear hn ha10 hF10 cF10 fF10 lF10 mF10 nF10 HA HD HF HT HQ HG HI HS
      cases y with
      | true =>
        have hA : A.length = n := (hlen rfl).symm
        rw [hA]
        have hp : 0 < n := of_decide_eq_true hyes.symm
        have hp2 : (0 : Int) < n := by omega
        clear hA hlen hyes bA
        go_wp2_with fail
        refine (pSameForms_same vg vi _ _ L _ (by omega) (by repeat (first | with_reducible assumption | with_reducible apply own_alloc | with_reducible apply own_drew | with_reducible apply own_drewN | (with_reducible refine own_setp (by assumption) ?_ ?_; (first | omega | (simp <;> omega))) | (with_reducible refine own_call (by assumption) ?_))) (by repeat (first | with_reducible assumption | with_reducible apply own_alloc | with_reducible apply own_drew | with_reducible apply own_drewN | (with_reducible refine own_setp (by assumption) ?_ ?_; (first | omega | (simp <;> omega))) | (with_reducible refine own_call (by assumption) ?_)))).mono ?_
        rintro e v11 ⟨rfl, hc11⟩
        have hz11 := hc11.size
        (try simp at hz11)
        have hS11 : Blk v11 (v10.heap.size) 36 #[.int .i64 r.a, .int .i64 r.b, .int .i64 r.c] := Blk.call (by (repeat (first | with_reducible assumption | (with_reducible apply Blk.new_at; (first | rfl | (simp; done))) | with_reducible apply Blk.store3 | with_reducible apply Blk.store4 | (with_reducible apply Blk.farp; (first | omega | (simp <;> omega))) | with_reducible apply Blk.allocp | with_reducible apply Blk.drew | with_reducible apply Blk.drewN))) hc11
        have cS11 := hS11.cell; have fS11 := hS11.frozen; have lS11 := hS11.lt; have mS11 := Nat.ne_of_gt lS11; have nS11 := Nat.ne_of_lt lS11
        have hl11 := own_call hc11 (by have := hl10; exact (by repeat (first | with_reducible assumption | with_reducible apply own_alloc | with_reducible apply own_drew | with_reducible apply own_drewN | (with_reducible refine own_setp (by assumption) ?_ ?_; (first | omega | (simp <;> omega))) | (with_reducible refine own_call (by assumption) ?_))))
        have hg11 := own_call hc11 (by have := hg10; exact (by repeat (first | with_reducible assumption | with_reducible apply own_alloc | with_reducible apply own_drew | with_reducible apply own_drewN | (with_reducible refine own_setp (by assumption) ?_ ?_; (first | omega | (simp <;> omega))) | (with_reducible refine own_call (by assumption) ?_))))
        have hr11 := own_call hc11 (by have := hr10; exact (by repeat (first | with_reducible assumption | with_reducible apply own_alloc | with_reducible apply own_drew | with_reducible apply own_drewN | (with_reducible refine own_setp (by assumption) ?_ ?_; (first | omega | (simp <;> omega))) | (with_reducible refine own_call (by assumption) ?_))))
        have hb11 : Below w.heap.size w v11 := (by repeat (first | with_reducible exact Below.refl _ _ | with_reducible assumption | with_reducible apply Below.drew | with_reducible apply below_drewN | (with_reducible apply below_setp; (first | omega | (simp <;> omega))) | (with_reducible apply below_allocp; (first | omega | (simp <;> omega))) | (with_reducible refine below_viap (by assumption) ?_ ?_; (first | omega | (simp <;> omega)))))
        clear hl10 hg10 hr10
        go_wp2
        go_loopw [131] (fun vi wr => RcSt n v11 vi wr) (fun vi _ => n - (intOf vi).toNat)
        case atStart => exact ⟨0, rfl, Nat.zero_le _, (by repeat (first | with_reducible exact Below.refl _ _ | with_reducible assumption | with_reducible apply Below.drew | with_reducible apply below_drewN | (with_reducible apply below_setp; (first | omega | (simp <;> omega))) | (with_reducible apply below_allocp; (first | omega | (simp <;> omega))) | (with_reducible refine below_viap (by assumption) ?_ ?_; (first | omega | (simp <;> omega)))))⟩
        case round =>
          obtain ⟨k, rfl, hk, hbel⟩ := hrel
          have hzr := hbel.size
          by_cases hlt : k < n
          · have hkR : k < R.length := by rw [HRn.out]; exact hlt
            have hr12 : wr.ownsRow v6.heap.size 36 3 (.slice br n cr) R.length (cellsF R) := by rw [HRn.out]; exact own_call hbel hr11
            obtain ⟨g, rfl, lg, d1, d2, d3⟩ := own_elem hr12 hkR
            have HCx := Lib.hid (HC.out R[k] (List.getElem_mem hkR))
            generalize R[k] = x at d1 d2 d3 HCx
            have hSr : Blk wr v10.heap.size 36 #[.int .i64 r.a, .int .i64 r.b, .int .i64 r.c] := hS11.call hbel
            have cSr := hSr.cell; have fSr := hSr.frozen; have lSr := hSr.lt; have mSr := Nat.ne_of_gt lSr; have nSr := Nat.ne_of_lt lSr
            clear hr12 hS11 cS11 fS11 lS11 mS11 nS11
            go_wp2_with fail
            refine (HCx.out _).mono ?_
            rintro e v12 ⟨rfl, hc12⟩
            have hz12 := hc12.size
            (try simp at hz12)
            have hS12 : Blk v12 v10.heap.size 36 #[.int .i64 r.a, .int .i64 r.b, .int .i64 r.c] := Blk.call (by (repeat (first | with_reducible assumption | (with_reducible apply Blk.new_at; (first | rfl | (simp; done))) | with_reducible apply Blk.store3 | with_reducible apply Blk.store4 | (with_reducible apply Blk.farp; (first | omega | (simp <;> omega))) | with_reducible apply Blk.allocp | with_reducible apply Blk.drew | with_reducible apply Blk.drewN))) hc12
            have cS12 := hS12.cell; have fS12 := hS12.frozen; have lS12 := hS12.lt; have mS12 := Nat.ne_of_gt lS12; have nS12 := Nat.ne_of_lt lS12
            have hb12 : Below v11.heap.size v11 v12 := (by repeat (first | with_reducible exact Below.refl _ _ | with_reducible assumption | with_reducible apply Below.drew | with_reducible apply below_drewN | (with_reducible apply below_setp; (first | omega | (simp <;> omega))) | (with_reducible apply below_allocp; (first | omega | (simp <;> omega))) | (with_reducible refine below_viap (by assumption) ?_ ?_; (first | omega | (simp <;> omega)))))
            clear hSr cSr fSr lSr mSr nSr d1 d2 d3
            go_wp2
            go_roundw
            case rel => exact ⟨k + 1, by simp, by omega, (by repeat (first | with_reducible exact Below.refl _ _ | with_reducible assumption | with_reducible apply Below.drew | with_reducible apply below_drewN | (with_reducible apply below_setp; (first | omega | (simp <;> omega))) | (with_reducible apply below_allocp; (first | omega | (simp <;> omega))) | (with_reducible refine below_viap (by assumption) ?_ ?_; (first | omega | (simp <;> omega)))))⟩
            case measure => simp [intOf]; omega
          · go_wp2
            go_ret
            exact ⟨rfl, (by repeat (first | with_reducible exact Below.refl _ _ | with_reducible assumption | with_reducible apply Below.drew | with_reducible apply below_drewN | (with_reducible apply below_setp; (first | omega | (simp <;> omega))) | (with_reducible apply below_allocp; (first | omega | (simp <;> omega))) | (with_reducible refine below_viap (by assumption) ?_ ?_; (first | omega | (simp <;> omega)))))⟩
      | false =>
        have hp : n = 0 := by have := of_decide_eq_false hyes.symm; omega
        clear hlen hyes
        subst hp
        go_wp2_with fail
        refine (pSameForms_same vg vi _ _ L _ (by omega) (by repeat (first | with_reducible assumption | with_reducible apply own_alloc | with_reducible apply own_drew | with_reducible apply own_drewN | (with_reducible refine own_setp (by assumption) ?_ ?_; (first | omega | (simp <;> omega))) | (with_reducible refine own_call (by assumption) ?_))) (by repeat (first | with_reducible assumption | with_reducible apply own_alloc | with_reducible apply own_drew | with_reducible apply own_drewN | (with_reducible refine own_setp (by assumption) ?_ ?_; (first | omega | (simp <;> omega))) | (with_reducible refine own_call (by assumption) ?_)))).mono ?_
        rintro e v11 ⟨rfl, hc11⟩
        have hz11 := hc11.size
        (try simp at hz11)
        have hS11 : Blk v11 (v10.heap.size) 36 #[.int .i64 r.a, .int .i64 r.b, .int .i64 r.c] := Blk.call (by (repeat (first | with_reducible assumption | (with_reducible apply Blk.new_at; (first | rfl | (simp; done))) | with_reducible apply Blk.store3 | with_reducible apply Blk.store4 | (with_reducible apply Blk.farp; (first | omega | (simp <;> omega))) | with_reducible apply Blk.allocp | with_reducible apply Blk.drew | with_reducible apply Blk.drewN))) hc11
        have cS11 := hS11.cell; have fS11 := hS11.frozen; have lS11 := hS11.lt; have mS11 := Nat.ne_of_gt lS11; have nS11 := Nat.ne_of_lt lS11
        have hl11 := own_call hc11 (by have := hl10; exact (by repeat (first | with_reducible assumption | with_reducible apply own_alloc | with_reducible apply own_drew | with_reducible apply own_drewN | (with_reducible refine own_setp (by assumption) ?_ ?_; (first | omega | (simp <;> omega))) | (with_reducible refine own_call (by assumption) ?_))))
        have hg11 := own_call hc11 (by have := hg10; exact (by repeat (first | with_reducible assumption | with_reducible apply own_alloc | with_reducible apply own_drew | with_reducible apply own_drewN | (with_reducible refine own_setp (by assumption) ?_ ?_; (first | omega | (simp <;> omega))) | (with_reducible refine own_call (by assumption) ?_))))
        have hr11 := own_call hc11 (by have := hr10; exact (by repeat (first | with_reducible assumption | with_reducible apply own_alloc | with_reducible apply own_drew | with_reducible apply own_drewN | (with_reducible refine own_setp (by assumption) ?_ ?_; (first | omega | (simp <;> omega))) | (with_reducible refine own_call (by assumption) ?_))))
        have hb11 : Below w.heap.size w v11 := (by repeat (first | with_reducible exact Below.refl _ _ | with_reducible assumption | with_reducible apply Below.drew | with_reducible apply below_drewN | (with_reducible apply below_setp; (first | omega | (simp <;> omega))) | (with_reducible apply below_allocp; (first | omega | (simp <;> omega))) | (with_reducible refine below_viap (by assumption) ?_ ?_; (first | omega | (simp <;> omega)))))
        clear hl10 hg10 hr10
        go_wp2
        go_loopw [131] (fun vi wr => RcSt 0 v11 vi wr) (fun vi _ => 0 - (intOf vi).toNat)
        case atStart => exact ⟨0, rfl, Nat.zero_le _, (by repeat (first | with_reducible exact Below.refl _ _ | with_reducible assumption | with_reducible apply Below.drew | with_reducible apply below_drewN | (with_reducible apply below_setp; (first | omega | (simp <;> omega))) | (with_reducible apply below_allocp; (first | omega | (simp <;> omega))) | (with_reducible refine below_viap (by assumption) ?_ ?_; (first | omega | (simp <;> omega)))))⟩
        case round =>
          obtain ⟨k, rfl, hk, hbel⟩ := hrel
          have hzr := hbel.size
          obtain rfl : k = 0 := by omega
          go_wp2
          go_ret
          exact ⟨rfl, (by repeat (first | with_reducible exact Below.refl _ _ | with_reducible assumption | with_reducible apply Below.drew | with_reducible apply below_drewN | (with_reducible apply below_setp; (first | omega | (simp <;> omega))) | (with_reducible apply below_allocp; (first | omega | (simp <;> omega))) | (with_reducible refine below_viap (by assumption) ?_ ?_; (first | omega | (simp <;> omega)))))⟩
  · have Hb := Lib.hid (fun w => big_yes A A2 zs.length es.length c1 c2 w hbig)
    clear HZ hbig
    go_enter Tryz.func7, Tryz.ntmps7
    go_wp2_with (go_at_call 10; (with_reducible refine (Hb.out _).mono ?_); rintro e v ⟨rfl, rfl⟩)
    go_ret
    exact ⟨rfl, (by repeat (first | with_reducible exact Below.refl _ _ | with_reducible assumption | with_reducible apply Below.drew | with_reducible apply below_drewN | (with_reducible apply below_setp; (first | omega | (simp <;> omega))) | (with_reducible apply below_allocp; (first | omega | (simp <;> omega))) | (with_reducible refine below_viap (by assumption) ?_ ?_; (first | omega | (simp <;> omega)))))⟩
theorem own_FnClassRoots : ownKnob Tryz.prog.godebug = none := by kernel_rfl

set_option maxRecDepth 100000 in
theorem lifted_FnClassRoots (os : Os) (started : os.Started) (H : Type) (enc : TypeId × Value → H) :
    ReturnsInHanded {} Tryz.checked os 7 .any (Rows.fnClassRootsSpec.pre6 enc Tryz.prog Tryz.f7 Rows.fnClassRootsRow.domain false) (Rows.fnClassRootsSpec.post enc Tryz.prog Tryz.f7 false true false false) := by
  refine returnsInHanded_of_change (C := Tryz.checked) own_FnClassRoots started (by kernel_rfl) Tryz.func7
    (ChangeSpec.witness6 (enc := enc) (C := Tryz.checked) false ⟨#[], #[.slice none 0 0, .slice none 0 0], []⟩ 8 (by kernel_rfl) (by kernel_rfl) (by kernel_rfl) (by kernel_rfl)) ?_
  intro W base args ds gs before hval0 hW hcnd _
  have hval : ∀ (j : Nat) t v, Tryz.f7.params[j]? = some t → args[j]? = some v → Value.okWide Tryz.prog W .any base t v := hval0
  have hW' := hW
  obtain ⟨p, q, hA0, hV, rfl, hfz, hnd⟩ := hW
  have hA : DataW.TrodAll enc Tryz.prog W 0 (fun _ => true) true Tryz.f7.params.toList args.toList ds p := hA0
  rw [Tryz.params7] at hA hval
  obtain ⟨v1, vs1, d1, ds1, p1, q1, hargs, rfl, rfl, h1, r1⟩ := trodAll_cons hA
  obtain ⟨v2, vs2, d2, ds2, p2, q2, rfl, rfl, rfl, h2, r2⟩ := trodAll_cons r1
  obtain ⟨rfl, rfl, rfl⟩ := trodAll_nil r2
  obtain rfl : args = #[v1, v2] := by cases args; simp_all
  obtain ⟨rfl, rfl⟩ := trodVars_none hV
  obtain ⟨zs, hrd⟩ := open_reB (hval 0 22 v1 rfl rfl) h1
  obtain ⟨es, hre⟩ := open_reB (hval 1 22 v2 rfl rfl) h2
  have hlt1 : ∀ x ∈ p1, x.block < W.heap.size := fun x hx => hW'.lt x (by simp [hx])
  have hlt2 : ∀ x ∈ p2, x.block < W.heap.size := fun x hx => hW'.lt x (by simp [hx])
  clear hA0 hval0
  refine (walk_FnClassRoots zs es v1 v2 W hrd hre).mono fun e W' ⟨he, hg⟩ => ?_
  subst he
  exact ⟨_, rfl, post_of_below (pa := p1 ++ (p2 ++ [])) (pv := []) hW' (fun _ _ _ => (trodAll_cons_mk (shut_bool Tryz.underlying4 _) trodAll_mk0)) (fun sp hsp => (trodAll_cons_mk (WideElems.Trod_stays laid_D3 (by kernel_rfl) (of_decide_eq_true (by kernel_rfl)) h1 (fun x hx => hg.same (hlt1 x hx)) (fun x hx => hsp x (by simp [hx]))) (trodAll_cons_mk (WideElems.Trod_stays laid_D3 (by kernel_rfl) (of_decide_eq_true (by kernel_rfl)) h2 (fun x hx => hg.same (hlt2 x hx)) (fun x hx => hsp x (by simp [hx]))) trodAll_mk0))) (fun _ _ => rfl) rfl
    hg (ok_one (by kernel_rfl) rfl (okWide_bool_mk Tryz.underlying4 _))⟩

/-- The statement. -/
theorem holds_FnClassRoots : Rows.FnClassRootsSaid :=
  OpenClaim.holds_of_wide 7 Tryz.f7 rfl rfl rfl rfl rfl rfl rfl ⟨rfl, rfl, rfl, rfl, rfl⟩ rfl rfl rfl rfl rfl (by kernel_rfl) Tryz.func7 (by kernel_rfl)
    (of_decide_eq_true (by kernel_rfl)) (by unfold Func.isWrapper; first | (rw [if_pos (by decide +kernel)]; kernel_rfl) | (rw [if_neg (by decide +kernel)]; exact ⟨rfl, rfl⟩))
    (fun os started H enc _ => lifted_FnClassRoots os started H enc)
#print axioms holds_FnClassRoots
end Go.Proofs.YteehcjjhkphdnaaGreat
