/- FnAmbiguousSplits returns true: for all drawn forms, ambiguous classes split their discriminant, there are as many splits as ambiguous classes, and an odd number with two prime factors is divided. Conditions: none. -/
import Derived.Test.YteehcjjhkphdnaaGreatAT
import Derived.Test.YteehcjjhkphdnaaGreatAV
import Derived.Test.YteehcjjhkphdnaaGreatAW
import Derived.Test.YteehcjjhkphdnaaGreatRY
import Derived.Test.YteehcjjhkphdnaaGreatDA
import Derived.Test.YteehcjjhkphdnaaGreatDB
import Derived.Test.YteehcjjhkphdnaaGreatW2
import Derived.BigQuiet
namespace Go.Proofs.YteehcjjhkphdnaaGreat
open Go.RowKit Go.ChangeShapes Go.WideShapes Go.ChangeAt Go.Joins

/-- The loop over the divisors. -/
def AvSt (R : List Int) (q : Int) (w9 : World) (vf vi : Value) (wr : World) : Prop := ∃ (pr : Bool) (k : Nat), vf = .bool pr ∧ vi = .int .i64 k ∧ k ≤ R.length ∧ Hid ((∃ y ∈ R.take k, 1 < y ∧ y < q) → pr = true) ∧ Below w9.heap.size w9 wr
theorem av_next {R : List Int} {q : Int} {pr : Bool} {k : Nat} (hk : k < R.length) (h : (∃ y ∈ R.take k, 1 < y ∧ y < q) → pr = true) (p2 : Bool) (h1 : pr = true → p2 = true) (h2 : 1 < R[k] ∧ R[k] < q → p2 = true) : Hid ((∃ y ∈ R.take (k + 1), 1 < y ∧ y < q) → p2 = true) := by
  refine Lib.hid ?_
  rintro ⟨y, hy, hb⟩
  rw [List.take_succ_eq_append_getElem hk, List.mem_append, List.mem_singleton] at hy
  rcases hy with hy | rfl
  · exact h1 (h ⟨y, hy, hb⟩)
  · exact h2 hb
/-- The loop over the splits. -/
def AsSt (L : List (Int × Int)) (p : Int × Int) (w9 : World) (vf vi : Value) (wr : World) : Prop := ∃ (fo : Bool) (k : Nat), vf = .bool fo ∧ vi = .int .i64 k ∧ k ≤ L.length ∧ Hid (p ∈ L.take k → fo = true) ∧ Below w9.heap.size w9 wr
theorem as_next {L : List (Int × Int)} {p : Int × Int} {fo : Bool} {k : Nat} (hk : k < L.length) (h : p ∈ L.take k → fo = true) (f2 : Bool) (h1 : fo = true → f2 = true) (h2 : L[k].1 = p.1 ∧ L[k].2 = p.2 → f2 = true) : Hid (p ∈ L.take (k + 1) → f2 = true) := by
  refine Lib.hid ?_
  intro hy
  rw [List.take_succ_eq_append_getElem hk, List.mem_append, List.mem_singleton] at hy
  rcases hy with hy | hy
  · exact h1 (h hy)
  · exact h2 ⟨by rw [← hy], by rw [← hy]⟩

theorem as_cases (fo : Bool) (p o r s : Int) : fo = true ∨ (fo = false ∧ p = r ∧ o = s) ∨ (fo = false ∧ (p == r) = false) ∨ (fo = false ∧ (p == r) = true ∧ (o == s) = false) := by
  cases fo with
  | true => exact .inl rfl
  | false =>
    by_cases h1 : p = r
    · by_cases h2 : o = s
      · exact .inr (.inl ⟨rfl, h1, h2⟩)
      · exact .inr (.inr (.inr ⟨rfl, beq_iff_eq.2 h1, beq_eq_false_iff_ne.2 h2⟩))
    · exact .inr (.inr (.inl ⟨rfl, beq_eq_false_iff_ne.2 h1⟩))
set_option maxRecDepth 100000 in
set_option maxHeartbeats 25600000 in
theorem walk_FnAmbiguousSplits (zs es : List Int) (v u : Value) (w : World) (hz : ReB zs v w) (he : ReB es u w) :
    Calls Tryz.prog 9 #[v, u] w fun e w' => e = .returned (.bool true) ∧ Below w.heap.size w w' := by
  have HZ := Lib.hid hz
  have HY := Lib.hid he
  obtain ⟨A, c1, rfl⟩ := hz.shape
  obtain ⟨A2, c2, rfl⟩ := he.shape
  clear hz he
  by_cases hbig : zs.length ≤ 1048576 ∧ es.length ≤ 1048576 - zs.length
  · have Hb := Lib.hid (fun w => big_no A A2 zs.length es.length c1 c2 w hbig.1 hbig.2)
    have HR := Lib.hid (HZ.out.rd hbig.1)
    have HE := Lib.hid (fun w' (hb : Below w.heap.size w w') => (HY.out.rd (by omega)).below hb (Nat.le_refl _))
    clear HZ HY hbig
    go_enter Tryz.func9, Tryz.ntmps9
    go_wp2_with (go_at_call 10; (with_reducible refine (Hb.out _).mono ?_); rintro e v ⟨rfl, rfl⟩)
    refine (drawAmbS_any zs _ _ _ HR.out (Nat.le_refl _)).mono ?_
    rintro e v1 ⟨⟨a, b, c⟩, rfl, hb1⟩
    have hz1 := hb1.size
    dsimp only
    obtain ⟨r, s, ok, hf⟩ := ambS_ex a b c
    have HI := Lib.hid (fun w => implAmbS_any a b c r s ok w hf)
    have HS := Lib.hid (fun w => specAmbS_any a b c r s ok w hf)
    rcases hf with ⟨hc, rfl, rfl, rfl⟩ | ⟨hc, x, y, z, hr, ha, rfl, rfl, rfl⟩ | ⟨hc, x, y, z, hr, ha, e1, e2, rfl⟩
    · have hm : AmC a b c false false := .inl ⟨hc, rfl, rfl⟩
      have HA := Lib.hid (fun w => implAmC_any a b c false false w hm)
      have HB := Lib.hid (fun w => specAmC_any a b c false false w hm)
      clear hc hm
      go_wp2_with fail
      refine (HI.out _).mono ?_
      rintro e v2 ⟨rfl, hc2⟩
      have hz2 := hc2.size
      (try simp at hz2)
      have hF2 : Blk v2 (v1.heap.size) 36 #[.int .i64 a, .int .i64 b, .int .i64 c] := Blk.call (by (repeat (first | with_reducible assumption | (with_reducible apply Blk.new_at; (first | rfl | (simp; done))) | with_reducible apply Blk.store3 | with_reducible apply Blk.store4 | (with_reducible apply Blk.farp; (first | omega | (simp <;> omega))) | with_reducible apply Blk.allocp | with_reducible apply Blk.drew | with_reducible apply Blk.drewN))) hc2
      have cF2 := hF2.cell; have fF2 := hF2.frozen; have lF2 := hF2.lt; have mF2 := Nat.ne_of_gt lF2; have nF2 := Nat.ne_of_lt lF2
      have hb2 : Below w.heap.size w v2 := (by repeat (first | with_reducible exact Below.refl _ _ | with_reducible assumption | with_reducible apply Below.drew | with_reducible apply below_drewN | (with_reducible apply below_setp; (first | omega | (simp <;> omega))) | (with_reducible apply below_allocp; (first | omega | (simp <;> omega))) | (with_reducible refine below_viap (by assumption) ?_ ?_; (first | omega | (simp <;> omega)))))
      go_wp2_with fail
      refine (HS.out _).mono ?_
      rintro e v3 ⟨rfl, hc3⟩
      have hz3 := hc3.size
      (try simp at hz3)
      have hF3 : Blk v3 (v1.heap.size) 36 #[.int .i64 a, .int .i64 b, .int .i64 c] := Blk.call (by (repeat (first | with_reducible assumption | (with_reducible apply Blk.new_at; (first | rfl | (simp; done))) | with_reducible apply Blk.store3 | with_reducible apply Blk.store4 | (with_reducible apply Blk.farp; (first | omega | (simp <;> omega))) | with_reducible apply Blk.allocp | with_reducible apply Blk.drew | with_reducible apply Blk.drewN))) hc3
      have cF3 := hF3.cell; have fF3 := hF3.frozen; have lF3 := hF3.lt; have mF3 := Nat.ne_of_gt lF3; have nF3 := Nat.ne_of_lt lF3
      have hS3 : Blk v3 (v2.heap.size) 78 #[.int .i64 0, .int .i64 0] := Blk.call (by (repeat (first | with_reducible assumption | (with_reducible apply Blk.new_at; (first | rfl | (simp; done))) | with_reducible apply Blk.store3 | with_reducible apply Blk.store4 | (with_reducible apply Blk.farp; (first | omega | (simp <;> omega))) | with_reducible apply Blk.allocp | with_reducible apply Blk.drew | with_reducible apply Blk.drewN))) hc3
      have cS3 := hS3.cell; have fS3 := hS3.frozen; have lS3 := hS3.lt; have mS3 := Nat.ne_of_gt lS3; have nS3 := Nat.ne_of_lt lS3
      have hb3 : Below w.heap.size w v3 := (by repeat (first | with_reducible exact Below.refl _ _ | with_reducible assumption | with_reducible apply Below.drew | with_reducible apply below_drewN | (with_reducible apply below_setp; (first | omega | (simp <;> omega))) | (with_reducible apply below_allocp; (first | omega | (simp <;> omega))) | (with_reducible refine below_viap (by assumption) ?_ ?_; (first | omega | (simp <;> omega)))))
      clear hF2 cF2 fF2 lF2 mF2 nF2
      go_wp2_with fail
      refine (HA.out _).mono ?_
      rintro e v4 ⟨rfl, hc4⟩
      have hz4 := hc4.size
      (try simp at hz4)
      have hF4 : Blk v4 (v1.heap.size) 36 #[.int .i64 a, .int .i64 b, .int .i64 c] := Blk.call (by (repeat (first | with_reducible assumption | (with_reducible apply Blk.new_at; (first | rfl | (simp; done))) | with_reducible apply Blk.store3 | with_reducible apply Blk.store4 | (with_reducible apply Blk.farp; (first | omega | (simp <;> omega))) | with_reducible apply Blk.allocp | with_reducible apply Blk.drew | with_reducible apply Blk.drewN))) hc4
      have cF4 := hF4.cell; have fF4 := hF4.frozen; have lF4 := hF4.lt; have mF4 := Nat.ne_of_gt lF4; have nF4 := Nat.ne_of_lt lF4
      have hS4 : Blk v4 (v2.heap.size) 78 #[.int .i64 0, .int .i64 0] := Blk.call (by (repeat (first | with_reducible assumption | (with_reducible apply Blk.new_at; (first | rfl | (simp; done))) | with_reducible apply Blk.store3 | with_reducible apply Blk.store4 | (with_reducible apply Blk.farp; (first | omega | (simp <;> omega))) | with_reducible apply Blk.allocp | with_reducible apply Blk.drew | with_reducible apply Blk.drewN))) hc4
      have cS4 := hS4.cell; have fS4 := hS4.frozen; have lS4 := hS4.lt; have mS4 := Nat.ne_of_gt lS4; have nS4 := Nat.ne_of_lt lS4
      have hQ4 : Blk v4 (v3.heap.size) 78 #[.int .i64 0, .int .i64 0] := Blk.call (by (repeat (first | with_reducible assumption | (with_reducible apply Blk.new_at; (first | rfl | (simp; done))) | with_reducible apply Blk.store3 | with_reducible apply Blk.store4 | (with_reducible apply Blk.farp; (first | omega | (simp <;> omega))) | with_reducible apply Blk.allocp | with_reducible apply Blk.drew | with_reducible apply Blk.drewN))) hc4
      have cQ4 := hQ4.cell; have fQ4 := hQ4.frozen; have lQ4 := hQ4.lt; have mQ4 := Nat.ne_of_gt lQ4; have nQ4 := Nat.ne_of_lt lQ4
      have hb4 : Below w.heap.size w v4 := (by repeat (first | with_reducible exact Below.refl _ _ | with_reducible assumption | with_reducible apply Below.drew | with_reducible apply below_drewN | (with_reducible apply below_setp; (first | omega | (simp <;> omega))) | (with_reducible apply below_allocp; (first | omega | (simp <;> omega))) | (with_reducible refine below_viap (by assumption) ?_ ?_; (first | omega | (simp <;> omega)))))
      clear hF3 cF3 fF3 lF3 mF3 nF3 hS3 cS3 fS3 lS3 mS3 nS3
      go_wp2_with fail
      refine (HB.out _).mono ?_
      rintro e v5 ⟨rfl, hc5⟩
      have hz5 := hc5.size
      (try simp at hz5)
      have hF5 : Blk v5 (v1.heap.size) 36 #[.int .i64 a, .int .i64 b, .int .i64 c] := Blk.call (by (repeat (first | with_reducible assumption | (with_reducible apply Blk.new_at; (first | rfl | (simp; done))) | with_reducible apply Blk.store3 | with_reducible apply Blk.store4 | (with_reducible apply Blk.farp; (first | omega | (simp <;> omega))) | with_reducible apply Blk.allocp | with_reducible apply Blk.drew | with_reducible apply Blk.drewN))) hc5
      have cF5 := hF5.cell; have fF5 := hF5.frozen; have lF5 := hF5.lt; have mF5 := Nat.ne_of_gt lF5; have nF5 := Nat.ne_of_lt lF5
      have hS5 : Blk v5 (v2.heap.size) 78 #[.int .i64 0, .int .i64 0] := Blk.call (by (repeat (first | with_reducible assumption | (with_reducible apply Blk.new_at; (first | rfl | (simp; done))) | with_reducible apply Blk.store3 | with_reducible apply Blk.store4 | (with_reducible apply Blk.farp; (first | omega | (simp <;> omega))) | with_reducible apply Blk.allocp | with_reducible apply Blk.drew | with_reducible apply Blk.drewN))) hc5
      have cS5 := hS5.cell; have fS5 := hS5.frozen; have lS5 := hS5.lt; have mS5 := Nat.ne_of_gt lS5; have nS5 := Nat.ne_of_lt lS5
      have hQ5 : Blk v5 (v3.heap.size) 78 #[.int .i64 0, .int .i64 0] := Blk.call (by (repeat (first | with_reducible assumption | (with_reducible apply Blk.new_at; (first | rfl | (simp; done))) | with_reducible apply Blk.store3 | with_reducible apply Blk.store4 | (with_reducible apply Blk.farp; (first | omega | (simp <;> omega))) | with_reducible apply Blk.allocp | with_reducible apply Blk.drew | with_reducible apply Blk.drewN))) hc5
      have cQ5 := hQ5.cell; have fQ5 := hQ5.frozen; have lQ5 := hQ5.lt; have mQ5 := Nat.ne_of_gt lQ5; have nQ5 := Nat.ne_of_lt lQ5
      have hb5 : Below w.heap.size w v5 := (by repeat (first | with_reducible exact Below.refl _ _ | with_reducible assumption | with_reducible apply Below.drew | with_reducible apply below_drewN | (with_reducible apply below_setp; (first | omega | (simp <;> omega))) | (with_reducible apply below_allocp; (first | omega | (simp <;> omega))) | (with_reducible refine below_viap (by assumption) ?_ ?_; (first | omega | (simp <;> omega)))))
      clear hF4 cF4 fF4 lF4 mF4 nF4 hS4 cS4 fS4 lS4 mS4 nS4 hQ4 cQ4 fQ4 lQ4 mQ4 nQ4
      go_wp2_with fail
      refine (drawDv_any es _ w.heap.size _ (HE.out _ (by repeat (first | with_reducible exact Below.refl _ _ | with_reducible assumption | with_reducible apply Below.drew | with_reducible apply below_drewN | (with_reducible apply below_setp; (first | omega | (simp <;> omega))) | (with_reducible apply below_allocp; (first | omega | (simp <;> omega))) | (with_reducible refine below_viap (by assumption) ?_ ?_; (first | omega | (simp <;> omega)))))) (by first | omega | (simp <;> omega))).mono ?_
      rintro e v6 ⟨q, rfl, hc6⟩
      have hz6 := hc6.size
      (try simp at hz6)
      have hb6 : Below w.heap.size w v6 := (by repeat (first | with_reducible exact Below.refl _ _ | with_reducible assumption | with_reducible apply Below.drew | with_reducible apply below_drewN | (with_reducible apply below_setp; (first | omega | (simp <;> omega))) | (with_reducible apply below_allocp; (first | omega | (simp <;> omega))) | (with_reducible refine below_viap (by assumption) ?_ ?_; (first | omega | (simp <;> omega)))))
      obtain ⟨R, ok3, hdv, hRl⟩ := dvL_ex q
      have HV := Lib.hid (fun w => implDv_any q R ok3 w hdv)
      have HX := Lib.hid (fun w => specDv_any q R ok3 w hdv)
      rcases hdv with ⟨ho, hR, rfl⟩ | ⟨ho, hR, rfl⟩
      · subst hR
        clear ho
        go_wp2_with fail
        refine (HV.out _).mono ?_
        rintro e v7 ⟨vl, rfl, hl7, hc7⟩
        have hz7 := hc7.size
        (try simp at hz7)
        have hb7 : Below w.heap.size w v7 := (by repeat (first | with_reducible exact Below.refl _ _ | with_reducible assumption | with_reducible apply Below.drew | with_reducible apply below_drewN | (with_reducible apply below_setp; (first | omega | (simp <;> omega))) | (with_reducible apply below_allocp; (first | omega | (simp <;> omega))) | (with_reducible refine below_viap (by assumption) ?_ ?_; (first | omega | (simp <;> omega)))))
        obtain ⟨bl, cl, rfl⟩ := own_shape hl7
        go_wp2_with fail
        refine (HX.out _).mono ?_
        rintro e v8 ⟨vm, rfl, hm8, hc8⟩
        have hz8 := hc8.size
        (try simp at hz8)
        have hl8 := own_call hc8 hl7
        have hb8 : Below w.heap.size w v8 := (by repeat (first | with_reducible exact Below.refl _ _ | with_reducible assumption | with_reducible apply Below.drew | with_reducible apply below_drewN | (with_reducible apply below_setp; (first | omega | (simp <;> omega))) | (with_reducible apply below_allocp; (first | omega | (simp <;> omega))) | (with_reducible refine below_viap (by assumption) ?_ ?_; (first | omega | (simp <;> omega)))))
        clear hl7
        go_wp2_with fail
        refine (sameInts_same _ vm _ _ [] _ (by first | omega | (simp <;> omega)) hl8 hm8).mono ?_
        rintro e v9 ⟨rfl, hc9⟩
        have hz9 := hc9.size
        (try simp at hz9)
        have hl9 := own_call hc9 hl8
        have hm9 := own_call hc9 hm8
        have hb9 : Below w.heap.size w v9 := (by repeat (first | with_reducible exact Below.refl _ _ | with_reducible assumption | with_reducible apply Below.drew | with_reducible apply below_drewN | (with_reducible apply below_setp; (first | omega | (simp <;> omega))) | (with_reducible apply below_allocp; (first | omega | (simp <;> omega))) | (with_reducible refine below_viap (by assumption) ?_ ?_; (first | omega | (simp <;> omega)))))
        clear hl8 hm8
        go_wp2
        go_ret
        exact ⟨rfl, (by repeat (first | with_reducible exact Below.refl _ _ | with_reducible assumption | with_reducible apply Below.drew | with_reducible apply below_drewN | (with_reducible apply below_setp; (first | omega | (simp <;> omega))) | (with_reducible apply below_allocp; (first | omega | (simp <;> omega))) | (with_reducible refine below_viap (by assumption) ?_ ?_; (first | omega | (simp <;> omega)))))⟩
      · obtain ⟨q1, q2, q3⟩ := oddB_bd ho
        have HP := Lib.hid (fun w => implPF_any q w (by omega) (by omega))
        obtain ⟨T, hT, t0, hend⟩ := dv_end ho
        have hTl := facL_len q (by omega)
        rw [hT] at HP hTl
        have HDv := Lib.hid (fun y (hy : y ∈ R) => dv_div ho (hR ▸ hy))
        rw [← hR] at hend
        have Hend := Lib.hid hend
        clear hT hend hR ho
        go_wp2_with fail
        refine (HV.out _).mono ?_
        rintro e v7 ⟨vl, rfl, hl7, hc7⟩
        have hz7 := hc7.size
        (try simp at hz7)
        have hb7 : Below w.heap.size w v7 := (by repeat (first | with_reducible exact Below.refl _ _ | with_reducible assumption | with_reducible apply Below.drew | with_reducible apply below_drewN | (with_reducible apply below_setp; (first | omega | (simp <;> omega))) | (with_reducible apply below_allocp; (first | omega | (simp <;> omega))) | (with_reducible refine below_viap (by assumption) ?_ ?_; (first | omega | (simp <;> omega)))))
        obtain ⟨bl, cl, rfl⟩ := own_shape hl7
        go_wp2_with fail
        refine (HX.out _).mono ?_
        rintro e v8 ⟨vm, rfl, hm8, hc8⟩
        have hz8 := hc8.size
        (try simp at hz8)
        have hl8 := own_call hc8 hl7
        have hb8 : Below w.heap.size w v8 := (by repeat (first | with_reducible exact Below.refl _ _ | with_reducible assumption | with_reducible apply Below.drew | with_reducible apply below_drewN | (with_reducible apply below_setp; (first | omega | (simp <;> omega))) | (with_reducible apply below_allocp; (first | omega | (simp <;> omega))) | (with_reducible refine below_viap (by assumption) ?_ ?_; (first | omega | (simp <;> omega)))))
        clear hl7
        go_wp2_with fail
        refine (sameInts_same _ vm _ _ R _ (by first | omega | (simp <;> omega)) hl8 hm8).mono ?_
        rintro e v9 ⟨rfl, hc9⟩
        have hz9 := hc9.size
        (try simp at hz9)
        have hl9 := own_call hc9 hl8
        have hm9 := own_call hc9 hm8
        have hb9 : Below w.heap.size w v9 := (by repeat (first | with_reducible exact Below.refl _ _ | with_reducible assumption | with_reducible apply Below.drew | with_reducible apply below_drewN | (with_reducible apply below_setp; (first | omega | (simp <;> omega))) | (with_reducible apply below_allocp; (first | omega | (simp <;> omega))) | (with_reducible refine below_viap (by assumption) ?_ ?_; (first | omega | (simp <;> omega)))))
        clear hl8 hm8
        go_wp2_with fail
        refine (HP.out _).mono ?_
        rintro e v10 ⟨vp, rfl, hp10, hc10⟩
        have hz10 := hc10.size
        (try simp at hz10)
        have hl10 := own_call hc10 hl9
        have hb10 : Below w.heap.size w v10 := (by repeat (first | with_reducible exact Below.refl _ _ | with_reducible assumption | with_reducible apply Below.drew | with_reducible apply below_drewN | (with_reducible apply below_setp; (first | omega | (simp <;> omega))) | (with_reducible apply below_allocp; (first | omega | (simp <;> omega))) | (with_reducible refine below_viap (by assumption) ?_ ?_; (first | omega | (simp <;> omega)))))
        clear hl9
        obtain ⟨bp, cp, rfl⟩ := own_shape hp10
        have Hl := Lib.hid hl10
        have Hp := Lib.hid hp10
        obtain ⟨N, hN⟩ : ∃ N, R.length = N := ⟨_, rfl⟩
        have HN := Lib.hid hN
        rw [hN] at hRl ⊢
        clear hl10 hp10 hN
        go_wp2
        go_loopw [34, 212] (fun vf vi wr => AvSt R q v10 vf vi wr) (fun _ vi _ => N - (intOf vi).toNat)
        case atStart => exact ⟨false, 0, rfl, rfl, Nat.zero_le _, Lib.hid (by simp), (by repeat (first | with_reducible exact Below.refl _ _ | with_reducible assumption | with_reducible apply Below.drew | with_reducible apply below_drewN | (with_reducible apply below_setp; (first | omega | (simp <;> omega))) | (with_reducible apply below_allocp; (first | omega | (simp <;> omega))) | (with_reducible refine below_viap (by assumption) ?_ ?_; (first | omega | (simp <;> omega)))))⟩
        case round =>
          obtain ⟨pr, k, rfl, rfl, hk, hpr, hbel⟩ := hrel
          have hzr := hbel.size
          rw [HN.out] at hk
          by_cases hlt : k < N
          · have hkR : k < R.length := by rw [HN.out]; exact hlt
            obtain ⟨g, rfl, lg, d1⟩ := own_elemI (own_call hbel Hl.out) hkR
            obtain ⟨y1, y2, y3⟩ := HDv.out _ (List.getElem_mem hkR)
            have hnx := Lib.hid (av_next (q := q) hkR hpr.out)
            generalize R[k] = y at d1 y1 y2 y3 hnx
            have y0 : ¬ y = 0 := by omega
            have ym : q.tmod y = 0 := by rw [Int.tmod_eq_emod_of_nonneg (by omega)]; exact y3
            clear y3 hpr
            cases pr with
            | true =>
              go_wp2
              go_roundw
              case rel => exact ⟨true, k + 1, rfl, by simp, hkR, hnx.out true (fun _ => rfl) (fun _ => rfl), (by repeat (first | with_reducible exact Below.refl _ _ | with_reducible assumption | with_reducible apply Below.drew | with_reducible apply below_drewN | (with_reducible apply below_setp; (first | omega | (simp <;> omega))) | (with_reducible apply below_allocp; (first | omega | (simp <;> omega))) | (with_reducible refine below_viap (by assumption) ?_ ?_; (first | omega | (simp <;> omega)))))⟩
              case measure => simp [intOf]; omega
            | false =>
              by_cases e1 : 1 < y
              · by_cases e2 : y < q
                · go_wp2
                  go_roundw
                  case rel => exact ⟨true, k + 1, rfl, by simp, hkR, hnx.out true (fun _ => rfl) (fun _ => rfl), (by repeat (first | with_reducible exact Below.refl _ _ | with_reducible assumption | with_reducible apply Below.drew | with_reducible apply below_drewN | (with_reducible apply below_setp; (first | omega | (simp <;> omega))) | (with_reducible apply below_allocp; (first | omega | (simp <;> omega))) | (with_reducible refine below_viap (by assumption) ?_ ?_; (first | omega | (simp <;> omega)))))⟩
                  case measure => simp [intOf]; omega
                · go_wp2
                  go_roundw
                  case rel => exact ⟨false, k + 1, rfl, by simp, hkR, hnx.out false (fun h => h) (fun h => absurd h.2 e2), (by repeat (first | with_reducible exact Below.refl _ _ | with_reducible assumption | with_reducible apply Below.drew | with_reducible apply below_drewN | (with_reducible apply below_setp; (first | omega | (simp <;> omega))) | (with_reducible apply below_allocp; (first | omega | (simp <;> omega))) | (with_reducible refine below_viap (by assumption) ?_ ?_; (first | omega | (simp <;> omega)))))⟩
                  case measure => simp [intOf]; omega
              · go_wp2
                go_roundw
                case rel => exact ⟨false, k + 1, rfl, by simp, hkR, hnx.out false (fun h => h) (fun h => absurd h.1 e1), (by repeat (first | with_reducible exact Below.refl _ _ | with_reducible assumption | with_reducible apply Below.drew | with_reducible apply below_drewN | (with_reducible apply below_setp; (first | omega | (simp <;> omega))) | (with_reducible apply below_allocp; (first | omega | (simp <;> omega))) | (with_reducible refine below_viap (by assumption) ?_ ?_; (first | omega | (simp <;> omega)))))⟩
                case measure => simp [intOf]; omega
          · obtain rfl : k = N := by omega
            cases pr with
            | true =>
              go_wp2
              go_quiet (fail)
              go_wp2
              go_ret
              exact ⟨rfl, (by repeat (first | with_reducible exact Below.refl _ _ | with_reducible assumption | with_reducible apply Below.drew | with_reducible apply below_drewN | (with_reducible apply below_setp; (first | omega | (simp <;> omega))) | (with_reducible apply below_allocp; (first | omega | (simp <;> omega))) | (with_reducible refine below_viap (by assumption) ?_ ?_; (first | omega | (simp <;> omega)))))⟩
            | false =>
              have hend := Hend.out.resolve_right (fun hx => absurd (hpr.out (by rw [← HN.out, List.take_length]; exact hx)) (by simp))
              have ep := own_call hbel Hp.out
              obtain ⟨g, rfl, lg, d0⟩ := own_elemI ep t0
              obtain ⟨g', hg', _, d1⟩ := own_elemI (k := T.length - 1) ep (by omega)
              injection hg' with hg'
              injection hg' with hg' _ _
              subst hg'
              rw [← hend] at d1
              generalize T[0] = x at d0 d1
              obtain ⟨M, hM⟩ : ∃ M, T.length = M := ⟨_, rfl⟩
              rw [hM] at d1 t0 hTl ep ⊢
              have t1 : (0 : Int) < M := by omega
              have t2 : (M : Int) - 1 = ((M - 1 : Nat) : Int) := by omega
              have t3 : M - 1 < M := by omega
              have t4 : wrap64 (M - 1 : Int) = ((M - 1 : Nat) : Int) := by rw [← t2]; exact IntWalk.wrap64_in _ (by omega)
              clear hM ep hend
              go_wp2
              go_quiet (fail)
              go_wp2
              go_ret
              exact ⟨rfl, (by repeat (first | with_reducible exact Below.refl _ _ | with_reducible assumption | with_reducible apply Below.drew | with_reducible apply below_drewN | (with_reducible apply below_setp; (first | omega | (simp <;> omega))) | (with_reducible apply below_allocp; (first | omega | (simp <;> omega))) | (with_reducible refine below_viap (by assumption) ?_ ?_; (first | omega | (simp <;> omega)))))⟩
    · have hm : AmC a b c false true := .inr ⟨hc, by rw [hr]; exact ha.symm, rfl⟩
      have HA := Lib.hid (fun w => implAmC_any a b c false true w hm)
      have HB := Lib.hid (fun w => specAmC_any a b c false true w hm)
      clear hc hm hr ha
      go_wp2_with fail
      refine (HI.out _).mono ?_
      rintro e v2 ⟨rfl, hc2⟩
      have hz2 := hc2.size
      (try simp at hz2)
      have hF2 : Blk v2 (v1.heap.size) 36 #[.int .i64 a, .int .i64 b, .int .i64 c] := Blk.call (by (repeat (first | with_reducible assumption | (with_reducible apply Blk.new_at; (first | rfl | (simp; done))) | with_reducible apply Blk.store3 | with_reducible apply Blk.store4 | (with_reducible apply Blk.farp; (first | omega | (simp <;> omega))) | with_reducible apply Blk.allocp | with_reducible apply Blk.drew | with_reducible apply Blk.drewN))) hc2
      have cF2 := hF2.cell; have fF2 := hF2.frozen; have lF2 := hF2.lt; have mF2 := Nat.ne_of_gt lF2; have nF2 := Nat.ne_of_lt lF2
      have hb2 : Below w.heap.size w v2 := (by repeat (first | with_reducible exact Below.refl _ _ | with_reducible assumption | with_reducible apply Below.drew | with_reducible apply below_drewN | (with_reducible apply below_setp; (first | omega | (simp <;> omega))) | (with_reducible apply below_allocp; (first | omega | (simp <;> omega))) | (with_reducible refine below_viap (by assumption) ?_ ?_; (first | omega | (simp <;> omega)))))
      go_wp2_with fail
      refine (HS.out _).mono ?_
      rintro e v3 ⟨rfl, hc3⟩
      have hz3 := hc3.size
      (try simp at hz3)
      have hF3 : Blk v3 (v1.heap.size) 36 #[.int .i64 a, .int .i64 b, .int .i64 c] := Blk.call (by (repeat (first | with_reducible assumption | (with_reducible apply Blk.new_at; (first | rfl | (simp; done))) | with_reducible apply Blk.store3 | with_reducible apply Blk.store4 | (with_reducible apply Blk.farp; (first | omega | (simp <;> omega))) | with_reducible apply Blk.allocp | with_reducible apply Blk.drew | with_reducible apply Blk.drewN))) hc3
      have cF3 := hF3.cell; have fF3 := hF3.frozen; have lF3 := hF3.lt; have mF3 := Nat.ne_of_gt lF3; have nF3 := Nat.ne_of_lt lF3
      have hS3 : Blk v3 (v2.heap.size) 78 #[.int .i64 0, .int .i64 0] := Blk.call (by (repeat (first | with_reducible assumption | (with_reducible apply Blk.new_at; (first | rfl | (simp; done))) | with_reducible apply Blk.store3 | with_reducible apply Blk.store4 | (with_reducible apply Blk.farp; (first | omega | (simp <;> omega))) | with_reducible apply Blk.allocp | with_reducible apply Blk.drew | with_reducible apply Blk.drewN))) hc3
      have cS3 := hS3.cell; have fS3 := hS3.frozen; have lS3 := hS3.lt; have mS3 := Nat.ne_of_gt lS3; have nS3 := Nat.ne_of_lt lS3
      have hb3 : Below w.heap.size w v3 := (by repeat (first | with_reducible exact Below.refl _ _ | with_reducible assumption | with_reducible apply Below.drew | with_reducible apply below_drewN | (with_reducible apply below_setp; (first | omega | (simp <;> omega))) | (with_reducible apply below_allocp; (first | omega | (simp <;> omega))) | (with_reducible refine below_viap (by assumption) ?_ ?_; (first | omega | (simp <;> omega)))))
      clear hF2 cF2 fF2 lF2 mF2 nF2
      go_wp2_with fail
      refine (HA.out _).mono ?_
      rintro e v4 ⟨rfl, hc4⟩
      have hz4 := hc4.size
      (try simp at hz4)
      have hF4 : Blk v4 (v1.heap.size) 36 #[.int .i64 a, .int .i64 b, .int .i64 c] := Blk.call (by (repeat (first | with_reducible assumption | (with_reducible apply Blk.new_at; (first | rfl | (simp; done))) | with_reducible apply Blk.store3 | with_reducible apply Blk.store4 | (with_reducible apply Blk.farp; (first | omega | (simp <;> omega))) | with_reducible apply Blk.allocp | with_reducible apply Blk.drew | with_reducible apply Blk.drewN))) hc4
      have cF4 := hF4.cell; have fF4 := hF4.frozen; have lF4 := hF4.lt; have mF4 := Nat.ne_of_gt lF4; have nF4 := Nat.ne_of_lt lF4
      have hS4 : Blk v4 (v2.heap.size) 78 #[.int .i64 0, .int .i64 0] := Blk.call (by (repeat (first | with_reducible assumption | (with_reducible apply Blk.new_at; (first | rfl | (simp; done))) | with_reducible apply Blk.store3 | with_reducible apply Blk.store4 | (with_reducible apply Blk.farp; (first | omega | (simp <;> omega))) | with_reducible apply Blk.allocp | with_reducible apply Blk.drew | with_reducible apply Blk.drewN))) hc4
      have cS4 := hS4.cell; have fS4 := hS4.frozen; have lS4 := hS4.lt; have mS4 := Nat.ne_of_gt lS4; have nS4 := Nat.ne_of_lt lS4
      have hQ4 : Blk v4 (v3.heap.size) 78 #[.int .i64 0, .int .i64 0] := Blk.call (by (repeat (first | with_reducible assumption | (with_reducible apply Blk.new_at; (first | rfl | (simp; done))) | with_reducible apply Blk.store3 | with_reducible apply Blk.store4 | (with_reducible apply Blk.farp; (first | omega | (simp <;> omega))) | with_reducible apply Blk.allocp | with_reducible apply Blk.drew | with_reducible apply Blk.drewN))) hc4
      have cQ4 := hQ4.cell; have fQ4 := hQ4.frozen; have lQ4 := hQ4.lt; have mQ4 := Nat.ne_of_gt lQ4; have nQ4 := Nat.ne_of_lt lQ4
      have hb4 : Below w.heap.size w v4 := (by repeat (first | with_reducible exact Below.refl _ _ | with_reducible assumption | with_reducible apply Below.drew | with_reducible apply below_drewN | (with_reducible apply below_setp; (first | omega | (simp <;> omega))) | (with_reducible apply below_allocp; (first | omega | (simp <;> omega))) | (with_reducible refine below_viap (by assumption) ?_ ?_; (first | omega | (simp <;> omega)))))
      clear hF3 cF3 fF3 lF3 mF3 nF3 hS3 cS3 fS3 lS3 mS3 nS3
      go_wp2_with fail
      refine (HB.out _).mono ?_
      rintro e v5 ⟨rfl, hc5⟩
      have hz5 := hc5.size
      (try simp at hz5)
      have hF5 : Blk v5 (v1.heap.size) 36 #[.int .i64 a, .int .i64 b, .int .i64 c] := Blk.call (by (repeat (first | with_reducible assumption | (with_reducible apply Blk.new_at; (first | rfl | (simp; done))) | with_reducible apply Blk.store3 | with_reducible apply Blk.store4 | (with_reducible apply Blk.farp; (first | omega | (simp <;> omega))) | with_reducible apply Blk.allocp | with_reducible apply Blk.drew | with_reducible apply Blk.drewN))) hc5
      have cF5 := hF5.cell; have fF5 := hF5.frozen; have lF5 := hF5.lt; have mF5 := Nat.ne_of_gt lF5; have nF5 := Nat.ne_of_lt lF5
      have hS5 : Blk v5 (v2.heap.size) 78 #[.int .i64 0, .int .i64 0] := Blk.call (by (repeat (first | with_reducible assumption | (with_reducible apply Blk.new_at; (first | rfl | (simp; done))) | with_reducible apply Blk.store3 | with_reducible apply Blk.store4 | (with_reducible apply Blk.farp; (first | omega | (simp <;> omega))) | with_reducible apply Blk.allocp | with_reducible apply Blk.drew | with_reducible apply Blk.drewN))) hc5
      have cS5 := hS5.cell; have fS5 := hS5.frozen; have lS5 := hS5.lt; have mS5 := Nat.ne_of_gt lS5; have nS5 := Nat.ne_of_lt lS5
      have hQ5 : Blk v5 (v3.heap.size) 78 #[.int .i64 0, .int .i64 0] := Blk.call (by (repeat (first | with_reducible assumption | (with_reducible apply Blk.new_at; (first | rfl | (simp; done))) | with_reducible apply Blk.store3 | with_reducible apply Blk.store4 | (with_reducible apply Blk.farp; (first | omega | (simp <;> omega))) | with_reducible apply Blk.allocp | with_reducible apply Blk.drew | with_reducible apply Blk.drewN))) hc5
      have cQ5 := hQ5.cell; have fQ5 := hQ5.frozen; have lQ5 := hQ5.lt; have mQ5 := Nat.ne_of_gt lQ5; have nQ5 := Nat.ne_of_lt lQ5
      have hb5 : Below w.heap.size w v5 := (by repeat (first | with_reducible exact Below.refl _ _ | with_reducible assumption | with_reducible apply Below.drew | with_reducible apply below_drewN | (with_reducible apply below_setp; (first | omega | (simp <;> omega))) | (with_reducible apply below_allocp; (first | omega | (simp <;> omega))) | (with_reducible refine below_viap (by assumption) ?_ ?_; (first | omega | (simp <;> omega)))))
      clear hF4 cF4 fF4 lF4 mF4 nF4 hS4 cS4 fS4 lS4 mS4 nS4 hQ4 cQ4 fQ4 lQ4 mQ4 nQ4
      go_wp2_with fail
      refine (drawDv_any es _ w.heap.size _ (HE.out _ (by repeat (first | with_reducible exact Below.refl _ _ | with_reducible assumption | with_reducible apply Below.drew | with_reducible apply below_drewN | (with_reducible apply below_setp; (first | omega | (simp <;> omega))) | (with_reducible apply below_allocp; (first | omega | (simp <;> omega))) | (with_reducible refine below_viap (by assumption) ?_ ?_; (first | omega | (simp <;> omega)))))) (by first | omega | (simp <;> omega))).mono ?_
      rintro e v6 ⟨q, rfl, hc6⟩
      have hz6 := hc6.size
      (try simp at hz6)
      have hb6 : Below w.heap.size w v6 := (by repeat (first | with_reducible exact Below.refl _ _ | with_reducible assumption | with_reducible apply Below.drew | with_reducible apply below_drewN | (with_reducible apply below_setp; (first | omega | (simp <;> omega))) | (with_reducible apply below_allocp; (first | omega | (simp <;> omega))) | (with_reducible refine below_viap (by assumption) ?_ ?_; (first | omega | (simp <;> omega)))))
      obtain ⟨R, ok3, hdv, hRl⟩ := dvL_ex q
      have HV := Lib.hid (fun w => implDv_any q R ok3 w hdv)
      have HX := Lib.hid (fun w => specDv_any q R ok3 w hdv)
      rcases hdv with ⟨ho, hR, rfl⟩ | ⟨ho, hR, rfl⟩
      · subst hR
        clear ho
        go_wp2_with fail
        refine (HV.out _).mono ?_
        rintro e v7 ⟨vl, rfl, hl7, hc7⟩
        have hz7 := hc7.size
        (try simp at hz7)
        have hb7 : Below w.heap.size w v7 := (by repeat (first | with_reducible exact Below.refl _ _ | with_reducible assumption | with_reducible apply Below.drew | with_reducible apply below_drewN | (with_reducible apply below_setp; (first | omega | (simp <;> omega))) | (with_reducible apply below_allocp; (first | omega | (simp <;> omega))) | (with_reducible refine below_viap (by assumption) ?_ ?_; (first | omega | (simp <;> omega)))))
        obtain ⟨bl, cl, rfl⟩ := own_shape hl7
        go_wp2_with fail
        refine (HX.out _).mono ?_
        rintro e v8 ⟨vm, rfl, hm8, hc8⟩
        have hz8 := hc8.size
        (try simp at hz8)
        have hl8 := own_call hc8 hl7
        have hb8 : Below w.heap.size w v8 := (by repeat (first | with_reducible exact Below.refl _ _ | with_reducible assumption | with_reducible apply Below.drew | with_reducible apply below_drewN | (with_reducible apply below_setp; (first | omega | (simp <;> omega))) | (with_reducible apply below_allocp; (first | omega | (simp <;> omega))) | (with_reducible refine below_viap (by assumption) ?_ ?_; (first | omega | (simp <;> omega)))))
        clear hl7
        go_wp2_with fail
        refine (sameInts_same _ vm _ _ [] _ (by first | omega | (simp <;> omega)) hl8 hm8).mono ?_
        rintro e v9 ⟨rfl, hc9⟩
        have hz9 := hc9.size
        (try simp at hz9)
        have hl9 := own_call hc9 hl8
        have hm9 := own_call hc9 hm8
        have hb9 : Below w.heap.size w v9 := (by repeat (first | with_reducible exact Below.refl _ _ | with_reducible assumption | with_reducible apply Below.drew | with_reducible apply below_drewN | (with_reducible apply below_setp; (first | omega | (simp <;> omega))) | (with_reducible apply below_allocp; (first | omega | (simp <;> omega))) | (with_reducible refine below_viap (by assumption) ?_ ?_; (first | omega | (simp <;> omega)))))
        clear hl8 hm8
        go_wp2
        go_ret
        exact ⟨rfl, (by repeat (first | with_reducible exact Below.refl _ _ | with_reducible assumption | with_reducible apply Below.drew | with_reducible apply below_drewN | (with_reducible apply below_setp; (first | omega | (simp <;> omega))) | (with_reducible apply below_allocp; (first | omega | (simp <;> omega))) | (with_reducible refine below_viap (by assumption) ?_ ?_; (first | omega | (simp <;> omega)))))⟩
      · obtain ⟨q1, q2, q3⟩ := oddB_bd ho
        have HP := Lib.hid (fun w => implPF_any q w (by omega) (by omega))
        obtain ⟨T, hT, t0, hend⟩ := dv_end ho
        have hTl := facL_len q (by omega)
        rw [hT] at HP hTl
        have HDv := Lib.hid (fun y (hy : y ∈ R) => dv_div ho (hR ▸ hy))
        rw [← hR] at hend
        have Hend := Lib.hid hend
        clear hT hend hR ho
        go_wp2_with fail
        refine (HV.out _).mono ?_
        rintro e v7 ⟨vl, rfl, hl7, hc7⟩
        have hz7 := hc7.size
        (try simp at hz7)
        have hb7 : Below w.heap.size w v7 := (by repeat (first | with_reducible exact Below.refl _ _ | with_reducible assumption | with_reducible apply Below.drew | with_reducible apply below_drewN | (with_reducible apply below_setp; (first | omega | (simp <;> omega))) | (with_reducible apply below_allocp; (first | omega | (simp <;> omega))) | (with_reducible refine below_viap (by assumption) ?_ ?_; (first | omega | (simp <;> omega)))))
        obtain ⟨bl, cl, rfl⟩ := own_shape hl7
        go_wp2_with fail
        refine (HX.out _).mono ?_
        rintro e v8 ⟨vm, rfl, hm8, hc8⟩
        have hz8 := hc8.size
        (try simp at hz8)
        have hl8 := own_call hc8 hl7
        have hb8 : Below w.heap.size w v8 := (by repeat (first | with_reducible exact Below.refl _ _ | with_reducible assumption | with_reducible apply Below.drew | with_reducible apply below_drewN | (with_reducible apply below_setp; (first | omega | (simp <;> omega))) | (with_reducible apply below_allocp; (first | omega | (simp <;> omega))) | (with_reducible refine below_viap (by assumption) ?_ ?_; (first | omega | (simp <;> omega)))))
        clear hl7
        go_wp2_with fail
        refine (sameInts_same _ vm _ _ R _ (by first | omega | (simp <;> omega)) hl8 hm8).mono ?_
        rintro e v9 ⟨rfl, hc9⟩
        have hz9 := hc9.size
        (try simp at hz9)
        have hl9 := own_call hc9 hl8
        have hm9 := own_call hc9 hm8
        have hb9 : Below w.heap.size w v9 := (by repeat (first | with_reducible exact Below.refl _ _ | with_reducible assumption | with_reducible apply Below.drew | with_reducible apply below_drewN | (with_reducible apply below_setp; (first | omega | (simp <;> omega))) | (with_reducible apply below_allocp; (first | omega | (simp <;> omega))) | (with_reducible refine below_viap (by assumption) ?_ ?_; (first | omega | (simp <;> omega)))))
        clear hl8 hm8
        go_wp2_with fail
        refine (HP.out _).mono ?_
        rintro e v10 ⟨vp, rfl, hp10, hc10⟩
        have hz10 := hc10.size
        (try simp at hz10)
        have hl10 := own_call hc10 hl9
        have hb10 : Below w.heap.size w v10 := (by repeat (first | with_reducible exact Below.refl _ _ | with_reducible assumption | with_reducible apply Below.drew | with_reducible apply below_drewN | (with_reducible apply below_setp; (first | omega | (simp <;> omega))) | (with_reducible apply below_allocp; (first | omega | (simp <;> omega))) | (with_reducible refine below_viap (by assumption) ?_ ?_; (first | omega | (simp <;> omega)))))
        clear hl9
        obtain ⟨bp, cp, rfl⟩ := own_shape hp10
        have Hl := Lib.hid hl10
        have Hp := Lib.hid hp10
        obtain ⟨N, hN⟩ : ∃ N, R.length = N := ⟨_, rfl⟩
        have HN := Lib.hid hN
        rw [hN] at hRl ⊢
        clear hl10 hp10 hN
        go_wp2
        go_loopw [34, 212] (fun vf vi wr => AvSt R q v10 vf vi wr) (fun _ vi _ => N - (intOf vi).toNat)
        case atStart => exact ⟨false, 0, rfl, rfl, Nat.zero_le _, Lib.hid (by simp), (by repeat (first | with_reducible exact Below.refl _ _ | with_reducible assumption | with_reducible apply Below.drew | with_reducible apply below_drewN | (with_reducible apply below_setp; (first | omega | (simp <;> omega))) | (with_reducible apply below_allocp; (first | omega | (simp <;> omega))) | (with_reducible refine below_viap (by assumption) ?_ ?_; (first | omega | (simp <;> omega)))))⟩
        case round =>
          obtain ⟨pr, k, rfl, rfl, hk, hpr, hbel⟩ := hrel
          have hzr := hbel.size
          rw [HN.out] at hk
          by_cases hlt : k < N
          · have hkR : k < R.length := by rw [HN.out]; exact hlt
            obtain ⟨g, rfl, lg, d1⟩ := own_elemI (own_call hbel Hl.out) hkR
            obtain ⟨y1, y2, y3⟩ := HDv.out _ (List.getElem_mem hkR)
            have hnx := Lib.hid (av_next (q := q) hkR hpr.out)
            generalize R[k] = y at d1 y1 y2 y3 hnx
            have y0 : ¬ y = 0 := by omega
            have ym : q.tmod y = 0 := by rw [Int.tmod_eq_emod_of_nonneg (by omega)]; exact y3
            clear y3 hpr
            cases pr with
            | true =>
              go_wp2
              go_roundw
              case rel => exact ⟨true, k + 1, rfl, by simp, hkR, hnx.out true (fun _ => rfl) (fun _ => rfl), (by repeat (first | with_reducible exact Below.refl _ _ | with_reducible assumption | with_reducible apply Below.drew | with_reducible apply below_drewN | (with_reducible apply below_setp; (first | omega | (simp <;> omega))) | (with_reducible apply below_allocp; (first | omega | (simp <;> omega))) | (with_reducible refine below_viap (by assumption) ?_ ?_; (first | omega | (simp <;> omega)))))⟩
              case measure => simp [intOf]; omega
            | false =>
              by_cases e1 : 1 < y
              · by_cases e2 : y < q
                · go_wp2
                  go_roundw
                  case rel => exact ⟨true, k + 1, rfl, by simp, hkR, hnx.out true (fun _ => rfl) (fun _ => rfl), (by repeat (first | with_reducible exact Below.refl _ _ | with_reducible assumption | with_reducible apply Below.drew | with_reducible apply below_drewN | (with_reducible apply below_setp; (first | omega | (simp <;> omega))) | (with_reducible apply below_allocp; (first | omega | (simp <;> omega))) | (with_reducible refine below_viap (by assumption) ?_ ?_; (first | omega | (simp <;> omega)))))⟩
                  case measure => simp [intOf]; omega
                · go_wp2
                  go_roundw
                  case rel => exact ⟨false, k + 1, rfl, by simp, hkR, hnx.out false (fun h => h) (fun h => absurd h.2 e2), (by repeat (first | with_reducible exact Below.refl _ _ | with_reducible assumption | with_reducible apply Below.drew | with_reducible apply below_drewN | (with_reducible apply below_setp; (first | omega | (simp <;> omega))) | (with_reducible apply below_allocp; (first | omega | (simp <;> omega))) | (with_reducible refine below_viap (by assumption) ?_ ?_; (first | omega | (simp <;> omega)))))⟩
                  case measure => simp [intOf]; omega
              · go_wp2
                go_roundw
                case rel => exact ⟨false, k + 1, rfl, by simp, hkR, hnx.out false (fun h => h) (fun h => absurd h.1 e1), (by repeat (first | with_reducible exact Below.refl _ _ | with_reducible assumption | with_reducible apply Below.drew | with_reducible apply below_drewN | (with_reducible apply below_setp; (first | omega | (simp <;> omega))) | (with_reducible apply below_allocp; (first | omega | (simp <;> omega))) | (with_reducible refine below_viap (by assumption) ?_ ?_; (first | omega | (simp <;> omega)))))⟩
                case measure => simp [intOf]; omega
          · obtain rfl : k = N := by omega
            cases pr with
            | true =>
              go_wp2
              go_quiet (fail)
              go_wp2
              go_ret
              exact ⟨rfl, (by repeat (first | with_reducible exact Below.refl _ _ | with_reducible assumption | with_reducible apply Below.drew | with_reducible apply below_drewN | (with_reducible apply below_setp; (first | omega | (simp <;> omega))) | (with_reducible apply below_allocp; (first | omega | (simp <;> omega))) | (with_reducible refine below_viap (by assumption) ?_ ?_; (first | omega | (simp <;> omega)))))⟩
            | false =>
              have hend := Hend.out.resolve_right (fun hx => absurd (hpr.out (by rw [← HN.out, List.take_length]; exact hx)) (by simp))
              have ep := own_call hbel Hp.out
              obtain ⟨g, rfl, lg, d0⟩ := own_elemI ep t0
              obtain ⟨g', hg', _, d1⟩ := own_elemI (k := T.length - 1) ep (by omega)
              injection hg' with hg'
              injection hg' with hg' _ _
              subst hg'
              rw [← hend] at d1
              generalize T[0] = x at d0 d1
              obtain ⟨M, hM⟩ : ∃ M, T.length = M := ⟨_, rfl⟩
              rw [hM] at d1 t0 hTl ep ⊢
              have t1 : (0 : Int) < M := by omega
              have t2 : (M : Int) - 1 = ((M - 1 : Nat) : Int) := by omega
              have t3 : M - 1 < M := by omega
              have t4 : wrap64 (M - 1 : Int) = ((M - 1 : Nat) : Int) := by rw [← t2]; exact IntWalk.wrap64_in _ (by omega)
              clear hM ep hend
              go_wp2
              go_quiet (fail)
              go_wp2
              go_ret
              exact ⟨rfl, (by repeat (first | with_reducible exact Below.refl _ _ | with_reducible assumption | with_reducible apply Below.drew | with_reducible apply below_drewN | (with_reducible apply below_setp; (first | omega | (simp <;> omega))) | (with_reducible apply below_allocp; (first | omega | (simp <;> omega))) | (with_reducible refine below_viap (by assumption) ?_ ?_; (first | omega | (simp <;> omega)))))⟩
    · have hm : AmC a b c true true := .inr ⟨hc, by rw [hr]; exact ha.symm, rfl⟩
      have HA := Lib.hid (fun w => implAmC_any a b c true true w hm)
      have HB := Lib.hid (fun w => specAmC_any a b c true true w hm)
      have hrow : SplRow (disc ⟨a, b, c⟩) r s := spl_row hc (by rw [hr]; exact e1.symm) (by rw [hr]; exact e2.symm) (by rw [hr]; exact ha)
      have HD := Lib.hid (fun w => implDisc_c a b c w hc)
      have hdb := isDisc_bd hrow.disc
      clear hm hr ha e1 e2 hc
      generalize disc ⟨a, b, c⟩ = d at *
      have HL := Lib.hid (fun w => implSplitsOf_any d w)
      have HC := Lib.hid (fun w => implAC_any d ((clsL d).filter ambB) true w (.inr ⟨hrow.disc, rfl, rfl⟩))
      obtain ⟨hd, hmul, hmem, hall, hlen, hback⟩ := hrow
      rw [hd] at HL
      have hLn := splitsL_len d
      have hmw : wrap64 (r * s) = -d := by rw [hmul]; exact IntWalk.wrap64_in _ (by omega)
      have hdw : wrap64 (-d) = -d := IntWalk.wrap64_in _ (by omega)
      have Hmem := Lib.hid hmem
      have Hall := Lib.hid hall
      obtain ⟨x', y', z', hfo, hac⟩ := hback
      have HF := Lib.hid (fun w => implFos_any d r x' y' z' true w hfo)
      have HG := Lib.hid (fun w => implAmC_any x' y' z' true true w hac)
      generalize splitsL d = L at *
      generalize (clsL d).filter ambB = A3 at *
      clear hmem hall hfo hac hmul hd
      go_wp2_with fail
      refine (HI.out _).mono ?_
      rintro e v2 ⟨rfl, hc2⟩
      have hz2 := hc2.size
      (try simp at hz2)
      have hF2 : Blk v2 (v1.heap.size) 36 #[.int .i64 a, .int .i64 b, .int .i64 c] := Blk.call (by (repeat (first | with_reducible assumption | (with_reducible apply Blk.new_at; (first | rfl | (simp; done))) | with_reducible apply Blk.store3 | with_reducible apply Blk.store4 | (with_reducible apply Blk.farp; (first | omega | (simp <;> omega))) | with_reducible apply Blk.allocp | with_reducible apply Blk.drew | with_reducible apply Blk.drewN))) hc2
      have cF2 := hF2.cell; have fF2 := hF2.frozen; have lF2 := hF2.lt; have mF2 := Nat.ne_of_gt lF2; have nF2 := Nat.ne_of_lt lF2
      have hb2 : Below w.heap.size w v2 := (by repeat (first | with_reducible exact Below.refl _ _ | with_reducible assumption | with_reducible apply Below.drew | with_reducible apply below_drewN | (with_reducible apply below_setp; (first | omega | (simp <;> omega))) | (with_reducible apply below_allocp; (first | omega | (simp <;> omega))) | (with_reducible refine below_viap (by assumption) ?_ ?_; (first | omega | (simp <;> omega)))))
      go_wp2_with fail
      refine (HS.out _).mono ?_
      rintro e v3 ⟨rfl, hc3⟩
      have hz3 := hc3.size
      (try simp at hz3)
      have hF3 : Blk v3 (v1.heap.size) 36 #[.int .i64 a, .int .i64 b, .int .i64 c] := Blk.call (by (repeat (first | with_reducible assumption | (with_reducible apply Blk.new_at; (first | rfl | (simp; done))) | with_reducible apply Blk.store3 | with_reducible apply Blk.store4 | (with_reducible apply Blk.farp; (first | omega | (simp <;> omega))) | with_reducible apply Blk.allocp | with_reducible apply Blk.drew | with_reducible apply Blk.drewN))) hc3
      have cF3 := hF3.cell; have fF3 := hF3.frozen; have lF3 := hF3.lt; have mF3 := Nat.ne_of_gt lF3; have nF3 := Nat.ne_of_lt lF3
      have hS3 : Blk v3 (v2.heap.size) 78 #[.int .i64 r, .int .i64 s] := Blk.call (by (repeat (first | with_reducible assumption | (with_reducible apply Blk.new_at; (first | rfl | (simp; done))) | with_reducible apply Blk.store3 | with_reducible apply Blk.store4 | (with_reducible apply Blk.farp; (first | omega | (simp <;> omega))) | with_reducible apply Blk.allocp | with_reducible apply Blk.drew | with_reducible apply Blk.drewN))) hc3
      have cS3 := hS3.cell; have fS3 := hS3.frozen; have lS3 := hS3.lt; have mS3 := Nat.ne_of_gt lS3; have nS3 := Nat.ne_of_lt lS3
      have hb3 : Below w.heap.size w v3 := (by repeat (first | with_reducible exact Below.refl _ _ | with_reducible assumption | with_reducible apply Below.drew | with_reducible apply below_drewN | (with_reducible apply below_setp; (first | omega | (simp <;> omega))) | (with_reducible apply below_allocp; (first | omega | (simp <;> omega))) | (with_reducible refine below_viap (by assumption) ?_ ?_; (first | omega | (simp <;> omega)))))
      clear hF2 cF2 fF2 lF2 mF2 nF2
      go_wp2_with fail
      refine (HA.out _).mono ?_
      rintro e v4 ⟨rfl, hc4⟩
      have hz4 := hc4.size
      (try simp at hz4)
      have hF4 : Blk v4 (v1.heap.size) 36 #[.int .i64 a, .int .i64 b, .int .i64 c] := Blk.call (by (repeat (first | with_reducible assumption | (with_reducible apply Blk.new_at; (first | rfl | (simp; done))) | with_reducible apply Blk.store3 | with_reducible apply Blk.store4 | (with_reducible apply Blk.farp; (first | omega | (simp <;> omega))) | with_reducible apply Blk.allocp | with_reducible apply Blk.drew | with_reducible apply Blk.drewN))) hc4
      have cF4 := hF4.cell; have fF4 := hF4.frozen; have lF4 := hF4.lt; have mF4 := Nat.ne_of_gt lF4; have nF4 := Nat.ne_of_lt lF4
      have hS4 : Blk v4 (v2.heap.size) 78 #[.int .i64 r, .int .i64 s] := Blk.call (by (repeat (first | with_reducible assumption | (with_reducible apply Blk.new_at; (first | rfl | (simp; done))) | with_reducible apply Blk.store3 | with_reducible apply Blk.store4 | (with_reducible apply Blk.farp; (first | omega | (simp <;> omega))) | with_reducible apply Blk.allocp | with_reducible apply Blk.drew | with_reducible apply Blk.drewN))) hc4
      have cS4 := hS4.cell; have fS4 := hS4.frozen; have lS4 := hS4.lt; have mS4 := Nat.ne_of_gt lS4; have nS4 := Nat.ne_of_lt lS4
      have hQ4 : Blk v4 (v3.heap.size) 78 #[.int .i64 r, .int .i64 s] := Blk.call (by (repeat (first | with_reducible assumption | (with_reducible apply Blk.new_at; (first | rfl | (simp; done))) | with_reducible apply Blk.store3 | with_reducible apply Blk.store4 | (with_reducible apply Blk.farp; (first | omega | (simp <;> omega))) | with_reducible apply Blk.allocp | with_reducible apply Blk.drew | with_reducible apply Blk.drewN))) hc4
      have cQ4 := hQ4.cell; have fQ4 := hQ4.frozen; have lQ4 := hQ4.lt; have mQ4 := Nat.ne_of_gt lQ4; have nQ4 := Nat.ne_of_lt lQ4
      have hb4 : Below w.heap.size w v4 := (by repeat (first | with_reducible exact Below.refl _ _ | with_reducible assumption | with_reducible apply Below.drew | with_reducible apply below_drewN | (with_reducible apply below_setp; (first | omega | (simp <;> omega))) | (with_reducible apply below_allocp; (first | omega | (simp <;> omega))) | (with_reducible refine below_viap (by assumption) ?_ ?_; (first | omega | (simp <;> omega)))))
      clear hF3 cF3 fF3 lF3 mF3 nF3 hS3 cS3 fS3 lS3 mS3 nS3
      go_wp2_with fail
      refine (HB.out _).mono ?_
      rintro e v5 ⟨rfl, hc5⟩
      have hz5 := hc5.size
      (try simp at hz5)
      have hF5 : Blk v5 (v1.heap.size) 36 #[.int .i64 a, .int .i64 b, .int .i64 c] := Blk.call (by (repeat (first | with_reducible assumption | (with_reducible apply Blk.new_at; (first | rfl | (simp; done))) | with_reducible apply Blk.store3 | with_reducible apply Blk.store4 | (with_reducible apply Blk.farp; (first | omega | (simp <;> omega))) | with_reducible apply Blk.allocp | with_reducible apply Blk.drew | with_reducible apply Blk.drewN))) hc5
      have cF5 := hF5.cell; have fF5 := hF5.frozen; have lF5 := hF5.lt; have mF5 := Nat.ne_of_gt lF5; have nF5 := Nat.ne_of_lt lF5
      have hS5 : Blk v5 (v2.heap.size) 78 #[.int .i64 r, .int .i64 s] := Blk.call (by (repeat (first | with_reducible assumption | (with_reducible apply Blk.new_at; (first | rfl | (simp; done))) | with_reducible apply Blk.store3 | with_reducible apply Blk.store4 | (with_reducible apply Blk.farp; (first | omega | (simp <;> omega))) | with_reducible apply Blk.allocp | with_reducible apply Blk.drew | with_reducible apply Blk.drewN))) hc5
      have cS5 := hS5.cell; have fS5 := hS5.frozen; have lS5 := hS5.lt; have mS5 := Nat.ne_of_gt lS5; have nS5 := Nat.ne_of_lt lS5
      have hQ5 : Blk v5 (v3.heap.size) 78 #[.int .i64 r, .int .i64 s] := Blk.call (by (repeat (first | with_reducible assumption | (with_reducible apply Blk.new_at; (first | rfl | (simp; done))) | with_reducible apply Blk.store3 | with_reducible apply Blk.store4 | (with_reducible apply Blk.farp; (first | omega | (simp <;> omega))) | with_reducible apply Blk.allocp | with_reducible apply Blk.drew | with_reducible apply Blk.drewN))) hc5
      have cQ5 := hQ5.cell; have fQ5 := hQ5.frozen; have lQ5 := hQ5.lt; have mQ5 := Nat.ne_of_gt lQ5; have nQ5 := Nat.ne_of_lt lQ5
      have hb5 : Below w.heap.size w v5 := (by repeat (first | with_reducible exact Below.refl _ _ | with_reducible assumption | with_reducible apply Below.drew | with_reducible apply below_drewN | (with_reducible apply below_setp; (first | omega | (simp <;> omega))) | (with_reducible apply below_allocp; (first | omega | (simp <;> omega))) | (with_reducible refine below_viap (by assumption) ?_ ?_; (first | omega | (simp <;> omega)))))
      clear hF4 cF4 fF4 lF4 mF4 nF4 hS4 cS4 fS4 lS4 mS4 nS4 hQ4 cQ4 fQ4 lQ4 mQ4 nQ4
      go_wp2_with fail
      refine (HD.out _).mono ?_
      rintro e v6 ⟨rfl, hc6⟩
      have hz6 := hc6.size
      (try simp at hz6)
      have hF6 : Blk v6 (v1.heap.size) 36 #[.int .i64 a, .int .i64 b, .int .i64 c] := Blk.call (by (repeat (first | with_reducible assumption | (with_reducible apply Blk.new_at; (first | rfl | (simp; done))) | with_reducible apply Blk.store3 | with_reducible apply Blk.store4 | (with_reducible apply Blk.farp; (first | omega | (simp <;> omega))) | with_reducible apply Blk.allocp | with_reducible apply Blk.drew | with_reducible apply Blk.drewN))) hc6
      have cF6 := hF6.cell; have fF6 := hF6.frozen; have lF6 := hF6.lt; have mF6 := Nat.ne_of_gt lF6; have nF6 := Nat.ne_of_lt lF6
      have hS6 : Blk v6 (v2.heap.size) 78 #[.int .i64 r, .int .i64 s] := Blk.call (by (repeat (first | with_reducible assumption | (with_reducible apply Blk.new_at; (first | rfl | (simp; done))) | with_reducible apply Blk.store3 | with_reducible apply Blk.store4 | (with_reducible apply Blk.farp; (first | omega | (simp <;> omega))) | with_reducible apply Blk.allocp | with_reducible apply Blk.drew | with_reducible apply Blk.drewN))) hc6
      have cS6 := hS6.cell; have fS6 := hS6.frozen; have lS6 := hS6.lt; have mS6 := Nat.ne_of_gt lS6; have nS6 := Nat.ne_of_lt lS6
      have hQ6 : Blk v6 (v3.heap.size) 78 #[.int .i64 r, .int .i64 s] := Blk.call (by (repeat (first | with_reducible assumption | (with_reducible apply Blk.new_at; (first | rfl | (simp; done))) | with_reducible apply Blk.store3 | with_reducible apply Blk.store4 | (with_reducible apply Blk.farp; (first | omega | (simp <;> omega))) | with_reducible apply Blk.allocp | with_reducible apply Blk.drew | with_reducible apply Blk.drewN))) hc6
      have cQ6 := hQ6.cell; have fQ6 := hQ6.frozen; have lQ6 := hQ6.lt; have mQ6 := Nat.ne_of_gt lQ6; have nQ6 := Nat.ne_of_lt lQ6
      have hb6 : Below w.heap.size w v6 := (by repeat (first | with_reducible exact Below.refl _ _ | with_reducible assumption | with_reducible apply Below.drew | with_reducible apply below_drewN | (with_reducible apply below_setp; (first | omega | (simp <;> omega))) | (with_reducible apply below_allocp; (first | omega | (simp <;> omega))) | (with_reducible refine below_viap (by assumption) ?_ ?_; (first | omega | (simp <;> omega)))))
      clear hF5 cF5 fF5 lF5 mF5 nF5 hS5 cS5 fS5 lS5 mS5 nS5 hQ5 cQ5 fQ5 lQ5 mQ5 nQ5
      go_wp2_with fail
      refine (HL.out _).mono ?_
      rintro e v7 ⟨vl, rfl, hl7, hc7⟩
      have hz7 := hc7.size
      (try simp at hz7)
      have hF7 : Blk v7 (v1.heap.size) 36 #[.int .i64 a, .int .i64 b, .int .i64 c] := Blk.call (by (repeat (first | with_reducible assumption | (with_reducible apply Blk.new_at; (first | rfl | (simp; done))) | with_reducible apply Blk.store3 | with_reducible apply Blk.store4 | (with_reducible apply Blk.farp; (first | omega | (simp <;> omega))) | with_reducible apply Blk.allocp | with_reducible apply Blk.drew | with_reducible apply Blk.drewN))) hc7
      have cF7 := hF7.cell; have fF7 := hF7.frozen; have lF7 := hF7.lt; have mF7 := Nat.ne_of_gt lF7; have nF7 := Nat.ne_of_lt lF7
      have hS7 : Blk v7 (v2.heap.size) 78 #[.int .i64 r, .int .i64 s] := Blk.call (by (repeat (first | with_reducible assumption | (with_reducible apply Blk.new_at; (first | rfl | (simp; done))) | with_reducible apply Blk.store3 | with_reducible apply Blk.store4 | (with_reducible apply Blk.farp; (first | omega | (simp <;> omega))) | with_reducible apply Blk.allocp | with_reducible apply Blk.drew | with_reducible apply Blk.drewN))) hc7
      have cS7 := hS7.cell; have fS7 := hS7.frozen; have lS7 := hS7.lt; have mS7 := Nat.ne_of_gt lS7; have nS7 := Nat.ne_of_lt lS7
      have hb7 : Below w.heap.size w v7 := (by repeat (first | with_reducible exact Below.refl _ _ | with_reducible assumption | with_reducible apply Below.drew | with_reducible apply below_drewN | (with_reducible apply below_setp; (first | omega | (simp <;> omega))) | (with_reducible apply below_allocp; (first | omega | (simp <;> omega))) | (with_reducible refine below_viap (by assumption) ?_ ?_; (first | omega | (simp <;> omega)))))
      clear hF6 cF6 fF6 lF6 mF6 nF6 hS6 cS6 fS6 lS6 mS6 nS6
      obtain ⟨bl, cl, rfl⟩ := own_shape hl7
      go_wp2_with fail
      refine (HC.out _).mono ?_
      rintro e v8 ⟨va, rfl, ha8, hc8⟩
      have hz8 := hc8.size
      (try simp at hz8)
      have hF8 : Blk v8 (v1.heap.size) 36 #[.int .i64 a, .int .i64 b, .int .i64 c] := Blk.call (by (repeat (first | with_reducible assumption | (with_reducible apply Blk.new_at; (first | rfl | (simp; done))) | with_reducible apply Blk.store3 | with_reducible apply Blk.store4 | (with_reducible apply Blk.farp; (first | omega | (simp <;> omega))) | with_reducible apply Blk.allocp | with_reducible apply Blk.drew | with_reducible apply Blk.drewN))) hc8
      have cF8 := hF8.cell; have fF8 := hF8.frozen; have lF8 := hF8.lt; have mF8 := Nat.ne_of_gt lF8; have nF8 := Nat.ne_of_lt lF8
      have hS8 : Blk v8 (v2.heap.size) 78 #[.int .i64 r, .int .i64 s] := Blk.call (by (repeat (first | with_reducible assumption | (with_reducible apply Blk.new_at; (first | rfl | (simp; done))) | with_reducible apply Blk.store3 | with_reducible apply Blk.store4 | (with_reducible apply Blk.farp; (first | omega | (simp <;> omega))) | with_reducible apply Blk.allocp | with_reducible apply Blk.drew | with_reducible apply Blk.drewN))) hc8
      have cS8 := hS8.cell; have fS8 := hS8.frozen; have lS8 := hS8.lt; have mS8 := Nat.ne_of_gt lS8; have nS8 := Nat.ne_of_lt lS8
      have hl8 := own_call hc8 hl7
      have hb8 : Below w.heap.size w v8 := (by repeat (first | with_reducible exact Below.refl _ _ | with_reducible assumption | with_reducible apply Below.drew | with_reducible apply below_drewN | (with_reducible apply below_setp; (first | omega | (simp <;> omega))) | (with_reducible apply below_allocp; (first | omega | (simp <;> omega))) | (with_reducible refine below_viap (by assumption) ?_ ?_; (first | omega | (simp <;> omega)))))
      clear hF7 cF7 fF7 lF7 mF7 nF7 hS7 cS7 fS7 lS7 mS7 nS7 hl7
      obtain ⟨ba, ca, rfl⟩ := own_shape ha8
      obtain ⟨n, hn⟩ : ∃ n, L.length = n := ⟨_, rfl⟩
      have HN := Lib.hid hn
      have Hl := Lib.hid hl8
      rw [← hlen, hn]
      rw [hn] at hLn
      clear hl8 ha8 hlen hn HA HB HI HS HD HL HC
      go_wp2
      go_loopw [20, 131] (fun vf vi wr => AsSt L (r, s) v8 vf vi wr) (fun _ vi _ => n - (intOf vi).toNat)
      case atStart => exact ⟨false, 0, rfl, rfl, Nat.zero_le _, Lib.hid (by simp), (by repeat (first | with_reducible exact Below.refl _ _ | with_reducible assumption | with_reducible apply Below.drew | with_reducible apply below_drewN | (with_reducible apply below_setp; (first | omega | (simp <;> omega))) | (with_reducible apply below_allocp; (first | omega | (simp <;> omega))) | (with_reducible refine below_viap (by assumption) ?_ ?_; (first | omega | (simp <;> omega)))))⟩
      case round =>
        obtain ⟨fo, k, rfl, rfl, hk, hfo, hbel⟩ := hrel
        have hzr := hbel.size
        rw [HN.out] at hk
        have hSr : Blk wr v2.heap.size 78 #[.int .i64 r, .int .i64 s] := hS8.call hbel
        have cSr := hSr.cell; have fSr := hSr.frozen; have lSr := hSr.lt; have mSr := Nat.ne_of_gt lSr; have nSr := Nat.ne_of_lt lSr
        clear hS8 cS8 fS8 lS8 mS8 nS8 hF8 cF8 fF8 lF8 mF8 nF8
        by_cases hlt : k < n
        · have hkL : k < L.length := by rw [HN.out]; exact hlt
          obtain ⟨g, rfl, lg, d1, d2⟩ := own_elemS (own_call hbel Hl.out) hkL
          obtain ⟨x1, x2⟩ := Hall.out _ (List.getElem_mem hkL)
          have hnx := Lib.hid (as_next (p := (r, s)) hkL hfo.out)
          generalize L[k].1 = p at d1 x1 x2 hnx
          generalize L[k].2 = o at d2 x1 hnx
          have hpw : wrap64 (p * o) = -d := by rw [x1]; exact IntWalk.wrap64_in _ (by omega)
          have x3 : ¬ p < 1 := by omega
          clear x1 hfo
          rcases as_cases fo p o r s with rfl | ⟨rfl, rfl, rfl⟩ | ⟨rfl, e1⟩ | ⟨rfl, e1, e2⟩
          · go_wp2
            go_roundw
            case rel => exact ⟨true, k + 1, rfl, by simp, hkL, hnx.out true (fun _ => rfl) (fun _ => rfl), (by repeat (first | with_reducible exact Below.refl _ _ | with_reducible assumption | with_reducible apply Below.drew | with_reducible apply below_drewN | (with_reducible apply below_setp; (first | omega | (simp <;> omega))) | (with_reducible apply below_allocp; (first | omega | (simp <;> omega))) | (with_reducible refine below_viap (by assumption) ?_ ?_; (first | omega | (simp <;> omega)))))⟩
            case measure => simp [intOf]; omega
          · go_wp2
            go_roundw
            case rel => exact ⟨true, k + 1, rfl, by simp, hkL, hnx.out true (fun _ => rfl) (fun _ => rfl), (by repeat (first | with_reducible exact Below.refl _ _ | with_reducible assumption | with_reducible apply Below.drew | with_reducible apply below_drewN | (with_reducible apply below_setp; (first | omega | (simp <;> omega))) | (with_reducible apply below_allocp; (first | omega | (simp <;> omega))) | (with_reducible refine below_viap (by assumption) ?_ ?_; (first | omega | (simp <;> omega)))))⟩
            case measure => simp [intOf]; omega
          · go_wp2
            go_roundw
            case rel => exact ⟨false, k + 1, rfl, by simp, hkL, hnx.out false (fun h => h) (fun h => absurd h.1 (by simpa using e1)), (by repeat (first | with_reducible exact Below.refl _ _ | with_reducible assumption | with_reducible apply Below.drew | with_reducible apply below_drewN | (with_reducible apply below_setp; (first | omega | (simp <;> omega))) | (with_reducible apply below_allocp; (first | omega | (simp <;> omega))) | (with_reducible refine below_viap (by assumption) ?_ ?_; (first | omega | (simp <;> omega)))))⟩
            case measure => simp [intOf]; omega
          · go_wp2
            go_roundw
            case rel => exact ⟨false, k + 1, rfl, by simp, hkL, hnx.out false (fun h => h) (fun h => absurd h.2 (by simpa using e2)), (by repeat (first | with_reducible exact Below.refl _ _ | with_reducible assumption | with_reducible apply Below.drew | with_reducible apply below_drewN | (with_reducible apply below_setp; (first | omega | (simp <;> omega))) | (with_reducible apply below_allocp; (first | omega | (simp <;> omega))) | (with_reducible refine below_viap (by assumption) ?_ ?_; (first | omega | (simp <;> omega)))))⟩
            case measure => simp [intOf]; omega
        · obtain rfl : k = n := by omega
          obtain rfl : fo = true := hfo.out (by rw [← HN.out, List.take_length]; exact Hmem.out)
          clear hfo Hl Hall Hmem
          obtain ⟨v9, hv9⟩ : ∃ v9, wr = v9 := ⟨_, rfl⟩
          subst hv9
          have hb9 : Below w.heap.size w wr := (by repeat (first | with_reducible exact Below.refl _ _ | with_reducible assumption | with_reducible apply Below.drew | with_reducible apply below_drewN | (with_reducible apply below_setp; (first | omega | (simp <;> omega))) | (with_reducible apply below_allocp; (first | omega | (simp <;> omega))) | (with_reducible refine below_viap (by assumption) ?_ ?_; (first | omega | (simp <;> omega)))))
          go_wp2_with fail
          refine (HF.out _).mono ?_
          rintro e v10 ⟨rfl, hc10⟩
          have hz10 := hc10.size
          (try simp at hz10)
          have hb10 : Below w.heap.size w v10 := (by repeat (first | with_reducible exact Below.refl _ _ | with_reducible assumption | with_reducible apply Below.drew | with_reducible apply below_drewN | (with_reducible apply below_setp; (first | omega | (simp <;> omega))) | (with_reducible apply below_allocp; (first | omega | (simp <;> omega))) | (with_reducible refine below_viap (by assumption) ?_ ?_; (first | omega | (simp <;> omega)))))
          go_wp2_with fail
          refine (HG.out _).mono ?_
          rintro e v11 ⟨rfl, hc11⟩
          have hz11 := hc11.size
          (try simp at hz11)
          have hG11 : Blk v11 (v10.heap.size) 36 #[.int .i64 x', .int .i64 y', .int .i64 z'] := Blk.call (by (repeat (first | with_reducible assumption | (with_reducible apply Blk.new_at; (first | rfl | (simp; done))) | with_reducible apply Blk.store3 | with_reducible apply Blk.store4 | (with_reducible apply Blk.farp; (first | omega | (simp <;> omega))) | with_reducible apply Blk.allocp | with_reducible apply Blk.drew | with_reducible apply Blk.drewN))) hc11
          have cG11 := hG11.cell; have fG11 := hG11.frozen; have lG11 := hG11.lt; have mG11 := Nat.ne_of_gt lG11; have nG11 := Nat.ne_of_lt lG11
          have hb11 : Below w.heap.size w v11 := (by repeat (first | with_reducible exact Below.refl _ _ | with_reducible assumption | with_reducible apply Below.drew | with_reducible apply below_drewN | (with_reducible apply below_setp; (first | omega | (simp <;> omega))) | (with_reducible apply below_allocp; (first | omega | (simp <;> omega))) | (with_reducible refine below_viap (by assumption) ?_ ?_; (first | omega | (simp <;> omega)))))
          go_wp2_with fail
          refine (drawDv_any es _ w.heap.size _ (HE.out _ (by repeat (first | with_reducible exact Below.refl _ _ | with_reducible assumption | with_reducible apply Below.drew | with_reducible apply below_drewN | (with_reducible apply below_setp; (first | omega | (simp <;> omega))) | (with_reducible apply below_allocp; (first | omega | (simp <;> omega))) | (with_reducible refine below_viap (by assumption) ?_ ?_; (first | omega | (simp <;> omega)))))) (by first | omega | (simp <;> omega))).mono ?_
          rintro e v12 ⟨q, rfl, hc12⟩
          have hz12 := hc12.size
          (try simp at hz12)
          have hb12 : Below w.heap.size w v12 := (by repeat (first | with_reducible exact Below.refl _ _ | with_reducible assumption | with_reducible apply Below.drew | with_reducible apply below_drewN | (with_reducible apply below_setp; (first | omega | (simp <;> omega))) | (with_reducible apply below_allocp; (first | omega | (simp <;> omega))) | (with_reducible refine below_viap (by assumption) ?_ ?_; (first | omega | (simp <;> omega)))))
          obtain ⟨R, ok3, hdv, hRl⟩ := dvL_ex q
          have HV := Lib.hid (fun w => implDv_any q R ok3 w hdv)
          have HX := Lib.hid (fun w => specDv_any q R ok3 w hdv)
          rcases hdv with ⟨ho, hR, rfl⟩ | ⟨ho, hR, rfl⟩
          · subst hR
            clear ho
            go_wp2_with fail
            refine (HV.out _).mono ?_
            rintro e v13 ⟨vl, rfl, hl13, hc13⟩
            have hz13 := hc13.size
            (try simp at hz13)
            have hb13 : Below w.heap.size w v13 := (by repeat (first | with_reducible exact Below.refl _ _ | with_reducible assumption | with_reducible apply Below.drew | with_reducible apply below_drewN | (with_reducible apply below_setp; (first | omega | (simp <;> omega))) | (with_reducible apply below_allocp; (first | omega | (simp <;> omega))) | (with_reducible refine below_viap (by assumption) ?_ ?_; (first | omega | (simp <;> omega)))))
            obtain ⟨bl, cl, rfl⟩ := own_shape hl13
            go_wp2_with fail
            refine (HX.out _).mono ?_
            rintro e v14 ⟨vm, rfl, hm14, hc14⟩
            have hz14 := hc14.size
            (try simp at hz14)
            have hl14 := own_call hc14 hl13
            have hb14 : Below w.heap.size w v14 := (by repeat (first | with_reducible exact Below.refl _ _ | with_reducible assumption | with_reducible apply Below.drew | with_reducible apply below_drewN | (with_reducible apply below_setp; (first | omega | (simp <;> omega))) | (with_reducible apply below_allocp; (first | omega | (simp <;> omega))) | (with_reducible refine below_viap (by assumption) ?_ ?_; (first | omega | (simp <;> omega)))))
            clear hl13
            go_wp2_with fail
            refine (sameInts_same _ vm _ _ [] _ (by first | omega | (simp <;> omega)) hl14 hm14).mono ?_
            rintro e v15 ⟨rfl, hc15⟩
            have hz15 := hc15.size
            (try simp at hz15)
            have hl15 := own_call hc15 hl14
            have hm15 := own_call hc15 hm14
            have hb15 : Below w.heap.size w v15 := (by repeat (first | with_reducible exact Below.refl _ _ | with_reducible assumption | with_reducible apply Below.drew | with_reducible apply below_drewN | (with_reducible apply below_setp; (first | omega | (simp <;> omega))) | (with_reducible apply below_allocp; (first | omega | (simp <;> omega))) | (with_reducible refine below_viap (by assumption) ?_ ?_; (first | omega | (simp <;> omega)))))
            clear hl14 hm14
            go_wp2
            go_ret
            exact ⟨rfl, (by repeat (first | with_reducible exact Below.refl _ _ | with_reducible assumption | with_reducible apply Below.drew | with_reducible apply below_drewN | (with_reducible apply below_setp; (first | omega | (simp <;> omega))) | (with_reducible apply below_allocp; (first | omega | (simp <;> omega))) | (with_reducible refine below_viap (by assumption) ?_ ?_; (first | omega | (simp <;> omega)))))⟩
          · obtain ⟨q1, q2, q3⟩ := oddB_bd ho
            have HP := Lib.hid (fun w => implPF_any q w (by omega) (by omega))
            obtain ⟨T, hT, t0, hend⟩ := dv_end ho
            have hTl := facL_len q (by omega)
            rw [hT] at HP hTl
            have HDv := Lib.hid (fun y (hy : y ∈ R) => dv_div ho (hR ▸ hy))
            rw [← hR] at hend
            have Hend := Lib.hid hend
            clear hT hend hR ho
            go_wp2_with fail
            refine (HV.out _).mono ?_
            rintro e v13 ⟨vl, rfl, hl13, hc13⟩
            have hz13 := hc13.size
            (try simp at hz13)
            have hb13 : Below w.heap.size w v13 := (by repeat (first | with_reducible exact Below.refl _ _ | with_reducible assumption | with_reducible apply Below.drew | with_reducible apply below_drewN | (with_reducible apply below_setp; (first | omega | (simp <;> omega))) | (with_reducible apply below_allocp; (first | omega | (simp <;> omega))) | (with_reducible refine below_viap (by assumption) ?_ ?_; (first | omega | (simp <;> omega)))))
            obtain ⟨bl, cl, rfl⟩ := own_shape hl13
            go_wp2_with fail
            refine (HX.out _).mono ?_
            rintro e v14 ⟨vm, rfl, hm14, hc14⟩
            have hz14 := hc14.size
            (try simp at hz14)
            have hl14 := own_call hc14 hl13
            have hb14 : Below w.heap.size w v14 := (by repeat (first | with_reducible exact Below.refl _ _ | with_reducible assumption | with_reducible apply Below.drew | with_reducible apply below_drewN | (with_reducible apply below_setp; (first | omega | (simp <;> omega))) | (with_reducible apply below_allocp; (first | omega | (simp <;> omega))) | (with_reducible refine below_viap (by assumption) ?_ ?_; (first | omega | (simp <;> omega)))))
            clear hl13
            go_wp2_with fail
            refine (sameInts_same _ vm _ _ R _ (by first | omega | (simp <;> omega)) hl14 hm14).mono ?_
            rintro e v15 ⟨rfl, hc15⟩
            have hz15 := hc15.size
            (try simp at hz15)
            have hl15 := own_call hc15 hl14
            have hm15 := own_call hc15 hm14
            have hb15 : Below w.heap.size w v15 := (by repeat (first | with_reducible exact Below.refl _ _ | with_reducible assumption | with_reducible apply Below.drew | with_reducible apply below_drewN | (with_reducible apply below_setp; (first | omega | (simp <;> omega))) | (with_reducible apply below_allocp; (first | omega | (simp <;> omega))) | (with_reducible refine below_viap (by assumption) ?_ ?_; (first | omega | (simp <;> omega)))))
            clear hl14 hm14
            go_wp2_with fail
            refine (HP.out _).mono ?_
            rintro e v16 ⟨vp, rfl, hp16, hc16⟩
            have hz16 := hc16.size
            (try simp at hz16)
            have hl16 := own_call hc16 hl15
            have hb16 : Below w.heap.size w v16 := (by repeat (first | with_reducible exact Below.refl _ _ | with_reducible assumption | with_reducible apply Below.drew | with_reducible apply below_drewN | (with_reducible apply below_setp; (first | omega | (simp <;> omega))) | (with_reducible apply below_allocp; (first | omega | (simp <;> omega))) | (with_reducible refine below_viap (by assumption) ?_ ?_; (first | omega | (simp <;> omega)))))
            clear hl15
            obtain ⟨bp, cp, rfl⟩ := own_shape hp16
            have Hl := Lib.hid hl16
            have Hp := Lib.hid hp16
            obtain ⟨N, hN⟩ : ∃ N, R.length = N := ⟨_, rfl⟩
            have HN := Lib.hid hN
            rw [hN] at hRl ⊢
            clear hl16 hp16 hN
            go_wp2
            go_loopw [34, 212] (fun vf vi wr => AvSt R q v16 vf vi wr) (fun _ vi _ => N - (intOf vi).toNat)
            case atStart => exact ⟨false, 0, rfl, rfl, Nat.zero_le _, Lib.hid (by simp), (by repeat (first | with_reducible exact Below.refl _ _ | with_reducible assumption | with_reducible apply Below.drew | with_reducible apply below_drewN | (with_reducible apply below_setp; (first | omega | (simp <;> omega))) | (with_reducible apply below_allocp; (first | omega | (simp <;> omega))) | (with_reducible refine below_viap (by assumption) ?_ ?_; (first | omega | (simp <;> omega)))))⟩
            case round =>
              obtain ⟨pr, k, rfl, rfl, hk, hpr, hbel⟩ := hrel
              have hzr := hbel.size
              rw [HN.out] at hk
              by_cases hlt : k < N
              · have hkR : k < R.length := by rw [HN.out]; exact hlt
                obtain ⟨g, rfl, lg, d1⟩ := own_elemI (own_call hbel Hl.out) hkR
                obtain ⟨y1, y2, y3⟩ := HDv.out _ (List.getElem_mem hkR)
                have hnx := Lib.hid (av_next (q := q) hkR hpr.out)
                generalize R[k] = y at d1 y1 y2 y3 hnx
                have y0 : ¬ y = 0 := by omega
                have ym : q.tmod y = 0 := by rw [Int.tmod_eq_emod_of_nonneg (by omega)]; exact y3
                clear y3 hpr
                cases pr with
                | true =>
                  go_wp2
                  go_roundw
                  case rel => exact ⟨true, k + 1, rfl, by simp, hkR, hnx.out true (fun _ => rfl) (fun _ => rfl), (by repeat (first | with_reducible exact Below.refl _ _ | with_reducible assumption | with_reducible apply Below.drew | with_reducible apply below_drewN | (with_reducible apply below_setp; (first | omega | (simp <;> omega))) | (with_reducible apply below_allocp; (first | omega | (simp <;> omega))) | (with_reducible refine below_viap (by assumption) ?_ ?_; (first | omega | (simp <;> omega)))))⟩
                  case measure => simp [intOf]; omega
                | false =>
                  by_cases e1 : 1 < y
                  · by_cases e2 : y < q
                    · go_wp2
                      go_roundw
                      case rel => exact ⟨true, k + 1, rfl, by simp, hkR, hnx.out true (fun _ => rfl) (fun _ => rfl), (by repeat (first | with_reducible exact Below.refl _ _ | with_reducible assumption | with_reducible apply Below.drew | with_reducible apply below_drewN | (with_reducible apply below_setp; (first | omega | (simp <;> omega))) | (with_reducible apply below_allocp; (first | omega | (simp <;> omega))) | (with_reducible refine below_viap (by assumption) ?_ ?_; (first | omega | (simp <;> omega)))))⟩
                      case measure => simp [intOf]; omega
                    · go_wp2
                      go_roundw
                      case rel => exact ⟨false, k + 1, rfl, by simp, hkR, hnx.out false (fun h => h) (fun h => absurd h.2 e2), (by repeat (first | with_reducible exact Below.refl _ _ | with_reducible assumption | with_reducible apply Below.drew | with_reducible apply below_drewN | (with_reducible apply below_setp; (first | omega | (simp <;> omega))) | (with_reducible apply below_allocp; (first | omega | (simp <;> omega))) | (with_reducible refine below_viap (by assumption) ?_ ?_; (first | omega | (simp <;> omega)))))⟩
                      case measure => simp [intOf]; omega
                  · go_wp2
                    go_roundw
                    case rel => exact ⟨false, k + 1, rfl, by simp, hkR, hnx.out false (fun h => h) (fun h => absurd h.1 e1), (by repeat (first | with_reducible exact Below.refl _ _ | with_reducible assumption | with_reducible apply Below.drew | with_reducible apply below_drewN | (with_reducible apply below_setp; (first | omega | (simp <;> omega))) | (with_reducible apply below_allocp; (first | omega | (simp <;> omega))) | (with_reducible refine below_viap (by assumption) ?_ ?_; (first | omega | (simp <;> omega)))))⟩
                    case measure => simp [intOf]; omega
              · obtain rfl : k = N := by omega
                cases pr with
                | true =>
                  go_wp2
                  go_quiet (fail)
                  go_wp2
                  go_ret
                  exact ⟨rfl, (by repeat (first | with_reducible exact Below.refl _ _ | with_reducible assumption | with_reducible apply Below.drew | with_reducible apply below_drewN | (with_reducible apply below_setp; (first | omega | (simp <;> omega))) | (with_reducible apply below_allocp; (first | omega | (simp <;> omega))) | (with_reducible refine below_viap (by assumption) ?_ ?_; (first | omega | (simp <;> omega)))))⟩
                | false =>
                  have hend := Hend.out.resolve_right (fun hx => absurd (hpr.out (by rw [← HN.out, List.take_length]; exact hx)) (by simp))
                  have ep := own_call hbel Hp.out
                  obtain ⟨g, rfl, lg, d0⟩ := own_elemI ep t0
                  obtain ⟨g', hg', _, d1⟩ := own_elemI (k := T.length - 1) ep (by omega)
                  injection hg' with hg'
                  injection hg' with hg' _ _
                  subst hg'
                  rw [← hend] at d1
                  generalize T[0] = x at d0 d1
                  obtain ⟨M, hM⟩ : ∃ M, T.length = M := ⟨_, rfl⟩
                  rw [hM] at d1 t0 hTl ep ⊢
                  have t1 : (0 : Int) < M := by omega
                  have t2 : (M : Int) - 1 = ((M - 1 : Nat) : Int) := by omega
                  have t3 : M - 1 < M := by omega
                  have t4 : wrap64 (M - 1 : Int) = ((M - 1 : Nat) : Int) := by rw [← t2]; exact IntWalk.wrap64_in _ (by omega)
                  clear hM ep hend
                  go_wp2
                  go_quiet (fail)
                  go_wp2
                  go_ret
                  exact ⟨rfl, (by repeat (first | with_reducible exact Below.refl _ _ | with_reducible assumption | with_reducible apply Below.drew | with_reducible apply below_drewN | (with_reducible apply below_setp; (first | omega | (simp <;> omega))) | (with_reducible apply below_allocp; (first | omega | (simp <;> omega))) | (with_reducible refine below_viap (by assumption) ?_ ?_; (first | omega | (simp <;> omega)))))⟩
  · have Hb := Lib.hid (fun w => big_yes A A2 zs.length es.length c1 c2 w hbig)
    clear HZ HY hbig
    go_enter Tryz.func9, Tryz.ntmps9
    go_wp2_with (go_at_call 10; (with_reducible refine (Hb.out _).mono ?_); rintro e v ⟨rfl, rfl⟩)
    go_ret
    exact ⟨rfl, (by repeat (first | with_reducible exact Below.refl _ _ | with_reducible assumption | with_reducible apply Below.drew | with_reducible apply below_drewN | (with_reducible apply below_setp; (first | omega | (simp <;> omega))) | (with_reducible apply below_allocp; (first | omega | (simp <;> omega))) | (with_reducible refine below_viap (by assumption) ?_ ?_; (first | omega | (simp <;> omega)))))⟩
theorem own_FnAmbiguousSplits : ownKnob Tryz.prog.godebug = none := by kernel_rfl

set_option maxRecDepth 100000 in
theorem lifted_FnAmbiguousSplits (os : Os) (started : os.Started) (H : Type) (enc : TypeId × Value → H) :
    ReturnsInHanded {} Tryz.checked os 9 .any (Rows.fnAmbiguousSplitsSpec.pre6 enc Tryz.prog Tryz.f9 Rows.fnAmbiguousSplitsRow.domain false) (Rows.fnAmbiguousSplitsSpec.post enc Tryz.prog Tryz.f9 false true false false) := by
  refine returnsInHanded_of_change (C := Tryz.checked) own_FnAmbiguousSplits started (by kernel_rfl) Tryz.func9
    (ChangeSpec.witness6 (enc := enc) (C := Tryz.checked) false ⟨#[], #[.slice none 0 0, .slice none 0 0], []⟩ 8 (by kernel_rfl) (by kernel_rfl) (by kernel_rfl) (by kernel_rfl)) ?_
  intro W base args ds gs before hval0 hW hcnd _
  have hval : ∀ (j : Nat) t v, Tryz.f9.params[j]? = some t → args[j]? = some v → Value.okWide Tryz.prog W .any base t v := hval0
  have hW' := hW
  obtain ⟨p, q, hA0, hV, rfl, hfz, hnd⟩ := hW
  have hA : DataW.TrodAll enc Tryz.prog W 0 (fun _ => true) true Tryz.f9.params.toList args.toList ds p := hA0
  rw [Tryz.params9] at hA hval
  obtain ⟨v1, vs1, d1, ds1, p1, q1, hargs, rfl, rfl, h1, r1⟩ := trodAll_cons hA
  obtain ⟨v2, vs2, d2, ds2, p2, q2, rfl, rfl, rfl, h2, r2⟩ := trodAll_cons r1
  obtain ⟨rfl, rfl, rfl⟩ := trodAll_nil r2
  obtain rfl : args = #[v1, v2] := by cases args; simp_all
  obtain ⟨rfl, rfl⟩ := trodVars_none hV
  obtain ⟨zs, hrd⟩ := open_reB (hval 0 22 v1 rfl rfl) h1
  obtain ⟨es, hre⟩ := open_reB (hval 1 22 v2 rfl rfl) h2
  have hlt1 : ∀ x ∈ p1, x.block < W.heap.size := fun x hx => hW'.lt x (by simp [hx])
  have hlt2 : ∀ x ∈ p2, x.block < W.heap.size := fun x hx => hW'.lt x (by simp [hx])
  clear hA0 hval0
  refine (walk_FnAmbiguousSplits zs es v1 v2 W hrd hre).mono fun e W' ⟨he, hg⟩ => ?_
  subst he
  exact ⟨_, rfl, post_of_below (pa := p1 ++ (p2 ++ [])) (pv := []) hW' (fun _ _ _ => (trodAll_cons_mk (shut_bool Tryz.underlying4 _) trodAll_mk0)) (fun sp hsp => (trodAll_cons_mk (WideElems.Trod_stays laid_D3 (by kernel_rfl) (of_decide_eq_true (by kernel_rfl)) h1 (fun x hx => hg.same (hlt1 x hx)) (fun x hx => hsp x (by simp [hx]))) (trodAll_cons_mk (WideElems.Trod_stays laid_D3 (by kernel_rfl) (of_decide_eq_true (by kernel_rfl)) h2 (fun x hx => hg.same (hlt2 x hx)) (fun x hx => hsp x (by simp [hx]))) trodAll_mk0))) (fun _ _ => rfl) rfl
    hg (ok_one (by kernel_rfl) rfl (okWide_bool_mk Tryz.underlying4 _))⟩

/-- The statement. -/
theorem holds_FnAmbiguousSplits : Rows.FnAmbiguousSplitsSaid :=
  OpenClaim.holds_of_wide 9 Tryz.f9 rfl rfl rfl rfl rfl rfl rfl ⟨rfl, rfl, rfl, rfl, rfl⟩ rfl rfl rfl rfl rfl (by kernel_rfl) Tryz.func9 (by kernel_rfl)
    (of_decide_eq_true (by kernel_rfl)) (by unfold Func.isWrapper; first | (rw [if_pos (by decide +kernel)]; kernel_rfl) | (rw [if_neg (by decide +kernel)]; exact ⟨rfl, rfl⟩))
    (fun os started H enc _ => lifted_FnAmbiguousSplits os started H enc)
#print axioms holds_FnAmbiguousSplits
end Go.Proofs.YteehcjjhkphdnaaGreat
