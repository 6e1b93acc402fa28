/- FnIdealClasses returns true: for all drawn ideals, the class of a product is the composite of the classes, generators generate, and the ideals with a norm are as many as the sum of the characters of its divisors. Conditions: none. -/
import Derived.Test.YtohgccgbbipjjaaGreatXI
import Derived.Test.YtohgccgbbipjjaaGreatXH
import Derived.Test.YtohgccgbbipjjaaGreatXG
import Derived.Test.YtohgccgbbipjjaaGreatXF
import Derived.Test.YtohgccgbbipjjaaGreatW2
import Derived.Deep.DeepCutAuto
namespace Go.Proofs.YtohgccgbbipjjaaGreat
open Go.RowKit Go.ChangeShapes Go.WideShapes Go.ChangeAt Go.Joins

theorem chr_bd5 (d : Int) : ∀ L : List Int, -(L.length : Int) ≤ (L.map fun x => kroN d x).sum ∧ (L.map fun x => kroN d x).sum ≤ (L.length : Int)
  | [] => by simp
  | x :: L => by
    have := chr_bd5 d L
    rw [List.map_cons, List.sum_cons, List.length_cons]
    rcases kro_bd 40 d x with h | h | h <;> (have e : kroN d x = kro 40 d x := rfl) <;> rw [e, h] <;> omega
theorem chr_take5 {d : Int} {L : List Int} {k : Nat} (h : k < L.length) : ((L.take (k + 1)).map fun x => kroN d x).sum = ((L.take k).map fun x => kroN d x).sum + kroN d L[k] := by
  rw [List.take_succ_eq_append_getElem h, List.map_append, List.sum_append]
  simp
set_option maxRecDepth 100000 in
set_option maxHeartbeats 25600000 in
theorem walk_FnIdealClasses (zs es : List Int) (v u : Value) (w : World) (hz : ReB zs v w) (he : ReB es u w) :
    Calls Tryz.prog 3 #[v, u] w fun e w' => e = .returned (.bool true) ∧ Below w.heap.size w w' := by
  have HZ := Lib.hid hz
  have HY := Lib.hid he
  obtain ⟨A, c1', rfl⟩ := hz.shape
  obtain ⟨A2, c2', rfl⟩ := he.shape
  clear hz he
  by_cases hbig : zs.length ≤ 1048576 ∧ es.length ≤ 1048576 - zs.length
  · have Hb := Lib.hid (fun w => big_no A A2 zs.length es.length c1' c2' w hbig.1 hbig.2)
    have HR := Lib.hid (HZ.out.rd hbig.1)
    have HE := Lib.hid (fun w' (hb : Below w.heap.size w w') => (HY.out.rd (by omega)).below hb (Nat.le_refl _))
    clear HZ HY hbig
    go_enter Tryz.func3, Tryz.ntmps3
    go_wp2_with (go_at_call 4; (with_reducible refine (Hb.out _).mono ?_); rintro e v ⟨rfl, rfl⟩)
    refine (drawIQ_any zs _ _ _ HR.out (Nat.le_refl _)).mono ?_
    rintro e v1 ⟨d, x1, x2, x3, y1, y2, y3, rfl, hdE, hb1⟩
    have hz1 := hb1.size
    have HD := Lib.hid hdE
    clear HR Hb hdE
    obtain ⟨f, ok, hF⟩ := icR_ex d x1 x2 x3
    have HI := Lib.hid (fun w => implIC_R w hF)
    have HS := Lib.hid (fun w => specIC_R w HD.out hF)
    obtain ⟨g, one, hG⟩ := icR_ex d y1 y2 y3
    have HJ := Lib.hid (fun w => implIC_R w hG)
    obtain ⟨q1, q2, q3, two, hP⟩ := ipR_ex d x1 x2 x3 y1 y2 y3
    have HQ := Lib.hid (fun w => implIP_R w hP)
    have HF := Lib.hid hF; have HG := Lib.hid hG; have HP := Lib.hid hP
    clear hF hG hP HD
    obtain ⟨f1, f2, f3⟩ := f
    obtain ⟨g1, g2, g3⟩ := g
    go_wp2_with fail
    refine (HI.out _).mono ?_
    rintro e v2 ⟨rfl, hc2⟩
    have hz2 := hc2.size
    (try simp at hz2)
    have hX2 : Blk v2 (v1.heap.size) 25 #[.int .i64 x1, .int .i64 x2, .int .i64 x3] := Blk.call (by (repeat (first | with_reducible assumption | (with_reducible apply Blk.new_at; (first | rfl | (simp; done))) | with_reducible apply Blk.store3 | with_reducible apply Blk.store4 | (with_reducible apply Blk.farp; (first | omega | (simp <;> omega))) | with_reducible apply Blk.allocp | with_reducible apply Blk.drew | with_reducible apply Blk.drewN))) hc2
    have cX2 := hX2.cell; have fX2 := hX2.frozen; have lX2 := hX2.lt; have mX2 := Nat.ne_of_gt lX2; have nX2 := Nat.ne_of_lt lX2
    have hY2 : Blk v2 (v1.heap.size + 1) 25 #[.int .i64 y1, .int .i64 y2, .int .i64 y3] := Blk.call (by (repeat (first | with_reducible assumption | (with_reducible apply Blk.new_at; (first | rfl | (simp; done))) | with_reducible apply Blk.store3 | with_reducible apply Blk.store4 | (with_reducible apply Blk.farp; (first | omega | (simp <;> omega))) | with_reducible apply Blk.allocp | with_reducible apply Blk.drew | with_reducible apply Blk.drewN))) hc2
    have cY2 := hY2.cell; have fY2 := hY2.frozen; have lY2 := hY2.lt; have mY2 := Nat.ne_of_gt lY2; have nY2 := Nat.ne_of_lt lY2
    have hb2 : Below w.heap.size w v2 := (by repeat (first | with_reducible exact Below.refl _ _ | with_reducible assumption | with_reducible apply Below.drew | with_reducible apply below_drewN | (with_reducible apply below_setp; (first | omega | (simp <;> omega))) | (with_reducible apply below_allocp; (first | omega | (simp <;> omega))) | (with_reducible refine below_viap (by assumption) ?_ ?_; (first | omega | (simp <;> omega)))))
    go_wp2_with fail
    refine (HS.out _).mono ?_
    rintro e v3 ⟨rfl, hc3⟩
    have hz3 := hc3.size
    (try simp at hz3)
    have hX3 : Blk v3 (v1.heap.size) 25 #[.int .i64 x1, .int .i64 x2, .int .i64 x3] := Blk.call (by (repeat (first | with_reducible assumption | (with_reducible apply Blk.new_at; (first | rfl | (simp; done))) | with_reducible apply Blk.store3 | with_reducible apply Blk.store4 | (with_reducible apply Blk.farp; (first | omega | (simp <;> omega))) | with_reducible apply Blk.allocp | with_reducible apply Blk.drew | with_reducible apply Blk.drewN))) hc3
    have cX3 := hX3.cell; have fX3 := hX3.frozen; have lX3 := hX3.lt; have mX3 := Nat.ne_of_gt lX3; have nX3 := Nat.ne_of_lt lX3
    have hY3 : Blk v3 (v1.heap.size + 1) 25 #[.int .i64 y1, .int .i64 y2, .int .i64 y3] := Blk.call (by (repeat (first | with_reducible assumption | (with_reducible apply Blk.new_at; (first | rfl | (simp; done))) | with_reducible apply Blk.store3 | with_reducible apply Blk.store4 | (with_reducible apply Blk.farp; (first | omega | (simp <;> omega))) | with_reducible apply Blk.allocp | with_reducible apply Blk.drew | with_reducible apply Blk.drewN))) hc3
    have cY3 := hY3.cell; have fY3 := hY3.frozen; have lY3 := hY3.lt; have mY3 := Nat.ne_of_gt lY3; have nY3 := Nat.ne_of_lt lY3
    have hF3 : Blk v3 (v2.heap.size) 29 #[.int .i64 f1, .int .i64 f2, .int .i64 f3] := Blk.call (by (repeat (first | with_reducible assumption | (with_reducible apply Blk.new_at; (first | rfl | (simp; done))) | with_reducible apply Blk.store3 | with_reducible apply Blk.store4 | (with_reducible apply Blk.farp; (first | omega | (simp <;> omega))) | with_reducible apply Blk.allocp | with_reducible apply Blk.drew | with_reducible apply Blk.drewN))) hc3
    have cF3 := hF3.cell; have fF3 := hF3.frozen; have lF3 := hF3.lt; have mF3 := Nat.ne_of_gt lF3; have nF3 := Nat.ne_of_lt lF3
    have hb3 : Below w.heap.size w v3 := (by repeat (first | with_reducible exact Below.refl _ _ | with_reducible assumption | with_reducible apply Below.drew | with_reducible apply below_drewN | (with_reducible apply below_setp; (first | omega | (simp <;> omega))) | (with_reducible apply below_allocp; (first | omega | (simp <;> omega))) | (with_reducible refine below_viap (by assumption) ?_ ?_; (first | omega | (simp <;> omega)))))
    clear hX2 cX2 fX2 lX2 mX2 nX2 hY2 cY2 fY2 lY2 mY2 nY2 HI
    go_wp2_with fail
    refine (HJ.out _).mono ?_
    rintro e v4 ⟨rfl, hc4⟩
    have hz4 := hc4.size
    (try simp at hz4)
    have hX4 : Blk v4 (v1.heap.size) 25 #[.int .i64 x1, .int .i64 x2, .int .i64 x3] := Blk.call (by (repeat (first | with_reducible assumption | (with_reducible apply Blk.new_at; (first | rfl | (simp; done))) | with_reducible apply Blk.store3 | with_reducible apply Blk.store4 | (with_reducible apply Blk.farp; (first | omega | (simp <;> omega))) | with_reducible apply Blk.allocp | with_reducible apply Blk.drew | with_reducible apply Blk.drewN))) hc4
    have cX4 := hX4.cell; have fX4 := hX4.frozen; have lX4 := hX4.lt; have mX4 := Nat.ne_of_gt lX4; have nX4 := Nat.ne_of_lt lX4
    have hY4 : Blk v4 (v1.heap.size + 1) 25 #[.int .i64 y1, .int .i64 y2, .int .i64 y3] := Blk.call (by (repeat (first | with_reducible assumption | (with_reducible apply Blk.new_at; (first | rfl | (simp; done))) | with_reducible apply Blk.store3 | with_reducible apply Blk.store4 | (with_reducible apply Blk.farp; (first | omega | (simp <;> omega))) | with_reducible apply Blk.allocp | with_reducible apply Blk.drew | with_reducible apply Blk.drewN))) hc4
    have cY4 := hY4.cell; have fY4 := hY4.frozen; have lY4 := hY4.lt; have mY4 := Nat.ne_of_gt lY4; have nY4 := Nat.ne_of_lt lY4
    have hF4 : Blk v4 (v2.heap.size) 29 #[.int .i64 f1, .int .i64 f2, .int .i64 f3] := Blk.call (by (repeat (first | with_reducible assumption | (with_reducible apply Blk.new_at; (first | rfl | (simp; done))) | with_reducible apply Blk.store3 | with_reducible apply Blk.store4 | (with_reducible apply Blk.farp; (first | omega | (simp <;> omega))) | with_reducible apply Blk.allocp | with_reducible apply Blk.drew | with_reducible apply Blk.drewN))) hc4
    have cF4 := hF4.cell; have fF4 := hF4.frozen; have lF4 := hF4.lt; have mF4 := Nat.ne_of_gt lF4; have nF4 := Nat.ne_of_lt lF4
    have hW4 : Blk v4 (v3.heap.size) 29 #[.int .i64 f1, .int .i64 f2, .int .i64 f3] := Blk.call (by (repeat (first | with_reducible assumption | (with_reducible apply Blk.new_at; (first | rfl | (simp; done))) | with_reducible apply Blk.store3 | with_reducible apply Blk.store4 | (with_reducible apply Blk.farp; (first | omega | (simp <;> omega))) | with_reducible apply Blk.allocp | with_reducible apply Blk.drew | with_reducible apply Blk.drewN))) hc4
    have cW4 := hW4.cell; have fW4 := hW4.frozen; have lW4 := hW4.lt; have mW4 := Nat.ne_of_gt lW4; have nW4 := Nat.ne_of_lt lW4
    have hb4 : Below w.heap.size w v4 := (by repeat (first | with_reducible exact Below.refl _ _ | with_reducible assumption | with_reducible apply Below.drew | with_reducible apply below_drewN | (with_reducible apply below_setp; (first | omega | (simp <;> omega))) | (with_reducible apply below_allocp; (first | omega | (simp <;> omega))) | (with_reducible refine below_viap (by assumption) ?_ ?_; (first | omega | (simp <;> omega)))))
    clear hX3 cX3 fX3 lX3 mX3 nX3 hY3 cY3 fY3 lY3 mY3 nY3 hF3 cF3 fF3 lF3 mF3 nF3 HS
    go_wp2_with fail
    refine (HQ.out _).mono ?_
    rintro e v5 ⟨rfl, hc5⟩
    have hz5 := hc5.size
    (try simp at hz5)
    have hX5 : Blk v5 (v1.heap.size) 25 #[.int .i64 x1, .int .i64 x2, .int .i64 x3] := Blk.call (by (repeat (first | with_reducible assumption | (with_reducible apply Blk.new_at; (first | rfl | (simp; done))) | with_reducible apply Blk.store3 | with_reducible apply Blk.store4 | (with_reducible apply Blk.farp; (first | omega | (simp <;> omega))) | with_reducible apply Blk.allocp | with_reducible apply Blk.drew | with_reducible apply Blk.drewN))) hc5
    have cX5 := hX5.cell; have fX5 := hX5.frozen; have lX5 := hX5.lt; have mX5 := Nat.ne_of_gt lX5; have nX5 := Nat.ne_of_lt lX5
    have hY5 : Blk v5 (v1.heap.size + 1) 25 #[.int .i64 y1, .int .i64 y2, .int .i64 y3] := Blk.call (by (repeat (first | with_reducible assumption | (with_reducible apply Blk.new_at; (first | rfl | (simp; done))) | with_reducible apply Blk.store3 | with_reducible apply Blk.store4 | (with_reducible apply Blk.farp; (first | omega | (simp <;> omega))) | with_reducible apply Blk.allocp | with_reducible apply Blk.drew | with_reducible apply Blk.drewN))) hc5
    have cY5 := hY5.cell; have fY5 := hY5.frozen; have lY5 := hY5.lt; have mY5 := Nat.ne_of_gt lY5; have nY5 := Nat.ne_of_lt lY5
    have hF5 : Blk v5 (v2.heap.size) 29 #[.int .i64 f1, .int .i64 f2, .int .i64 f3] := Blk.call (by (repeat (first | with_reducible assumption | (with_reducible apply Blk.new_at; (first | rfl | (simp; done))) | with_reducible apply Blk.store3 | with_reducible apply Blk.store4 | (with_reducible apply Blk.farp; (first | omega | (simp <;> omega))) | with_reducible apply Blk.allocp | with_reducible apply Blk.drew | with_reducible apply Blk.drewN))) hc5
    have cF5 := hF5.cell; have fF5 := hF5.frozen; have lF5 := hF5.lt; have mF5 := Nat.ne_of_gt lF5; have nF5 := Nat.ne_of_lt lF5
    have hW5 : Blk v5 (v3.heap.size) 29 #[.int .i64 f1, .int .i64 f2, .int .i64 f3] := Blk.call (by (repeat (first | with_reducible assumption | (with_reducible apply Blk.new_at; (first | rfl | (simp; done))) | with_reducible apply Blk.store3 | with_reducible apply Blk.store4 | (with_reducible apply Blk.farp; (first | omega | (simp <;> omega))) | with_reducible apply Blk.allocp | with_reducible apply Blk.drew | with_reducible apply Blk.drewN))) hc5
    have cW5 := hW5.cell; have fW5 := hW5.frozen; have lW5 := hW5.lt; have mW5 := Nat.ne_of_gt lW5; have nW5 := Nat.ne_of_lt lW5
    have hG5 : Blk v5 (v4.heap.size) 29 #[.int .i64 g1, .int .i64 g2, .int .i64 g3] := Blk.call (by (repeat (first | with_reducible assumption | (with_reducible apply Blk.new_at; (first | rfl | (simp; done))) | with_reducible apply Blk.store3 | with_reducible apply Blk.store4 | (with_reducible apply Blk.farp; (first | omega | (simp <;> omega))) | with_reducible apply Blk.allocp | with_reducible apply Blk.drew | with_reducible apply Blk.drewN))) hc5
    have cG5 := hG5.cell; have fG5 := hG5.frozen; have lG5 := hG5.lt; have mG5 := Nat.ne_of_gt lG5; have nG5 := Nat.ne_of_lt lG5
    have hb5 : Below w.heap.size w v5 := (by repeat (first | with_reducible exact Below.refl _ _ | with_reducible assumption | with_reducible apply Below.drew | with_reducible apply below_drewN | (with_reducible apply below_setp; (first | omega | (simp <;> omega))) | (with_reducible apply below_allocp; (first | omega | (simp <;> omega))) | (with_reducible refine below_viap (by assumption) ?_ ?_; (first | omega | (simp <;> omega)))))
    clear hX4 cX4 fX4 lX4 mX4 nX4 hY4 cY4 fY4 lY4 mY4 nY4 hF4 cF4 fF4 lF4 mF4 nF4 hW4 cW4 fW4 lW4 mW4 nW4 HJ
    clear HQ
    go_upto_region 10 with fail
    go_cut [89] from 83 to 89 (fun s wx => (∃ b : Bool, s = .bool b ∧ (b = true → ok = true ∧ one = true ∧ two = true)) ∧ wx = (v5.alloc (.cells #[.int .i64 q1, .int .i64 q2, .int .i64 q3] 25)))
    case first =>
      as_aux_lemma =>
        clear HE HF HG HP
        cases ok with
        | false => go_wp2; go_meet; exact ⟨⟨_, rfl, by simp⟩, rfl⟩
        | true =>
          cases one with
          | false => go_wp2; go_meet; exact ⟨⟨_, rfl, by simp⟩, rfl⟩
          | true => cases two <;> (go_wp2; go_meet; exact ⟨⟨_, rfl, by simp⟩, rfl⟩)
    case rest =>
      obtain ⟨⟨b89, rfl, hb89⟩, rfl⟩ := hcut
      go_upto_if 89 with fail
      go_cut [] from 89 to 112 (fun wx => Below (v5.alloc (.cells #[.int .i64 q1, .int .i64 q2, .int .i64 q3] 25)).heap.size (v5.alloc (.cells #[.int .i64 q1, .int .i64 q2, .int .i64 q3] 25)) wx)
      case first =>
        as_aux_lemma =>
          cases b89 with
          | false => go_wp2_with fail; go_meet; exact Below.refl _ _
          | true =>
            obtain ⟨rfl, rfl, rfl⟩ := hb89 rfl
            clear HE
            obtain ⟨⟨h1, h2, h3⟩, hH, hp, hc⟩ := icl_law HF.out HG.out HP.out
            have HH := Lib.hid (fun w => implIC_R w hH)
            have HK := Lib.hid (fun w => implComp_c ⟨f1, f2, f3⟩ ⟨g1, g2, g3⟩ w hp)
            rw [hc] at HK
            clear hH hp hc HF HG HP
            go_wp2_with fail
            refine (HH.out _).mono ?_
            rintro e v6 ⟨rfl, hc6⟩
            have hz6 := hc6.size
            (try simp at hz6)
            have hX6 : Blk v6 (v1.heap.size) 25 #[.int .i64 x1, .int .i64 x2, .int .i64 x3] := Blk.call (by (repeat (first | with_reducible assumption | (with_reducible apply Blk.new_at; (first | rfl | (simp; done))) | with_reducible apply Blk.store3 | with_reducible apply Blk.store4 | (with_reducible apply Blk.farp; (first | omega | (simp <;> omega))) | with_reducible apply Blk.allocp | with_reducible apply Blk.drew | with_reducible apply Blk.drewN))) hc6
            have cX6 := hX6.cell; have fX6 := hX6.frozen; have lX6 := hX6.lt; have mX6 := Nat.ne_of_gt lX6; have nX6 := Nat.ne_of_lt lX6
            have hY6 : Blk v6 (v1.heap.size + 1) 25 #[.int .i64 y1, .int .i64 y2, .int .i64 y3] := Blk.call (by (repeat (first | with_reducible assumption | (with_reducible apply Blk.new_at; (first | rfl | (simp; done))) | with_reducible apply Blk.store3 | with_reducible apply Blk.store4 | (with_reducible apply Blk.farp; (first | omega | (simp <;> omega))) | with_reducible apply Blk.allocp | with_reducible apply Blk.drew | with_reducible apply Blk.drewN))) hc6
            have cY6 := hY6.cell; have fY6 := hY6.frozen; have lY6 := hY6.lt; have mY6 := Nat.ne_of_gt lY6; have nY6 := Nat.ne_of_lt lY6
            have hF6 : Blk v6 (v2.heap.size) 29 #[.int .i64 f1, .int .i64 f2, .int .i64 f3] := Blk.call (by (repeat (first | with_reducible assumption | (with_reducible apply Blk.new_at; (first | rfl | (simp; done))) | with_reducible apply Blk.store3 | with_reducible apply Blk.store4 | (with_reducible apply Blk.farp; (first | omega | (simp <;> omega))) | with_reducible apply Blk.allocp | with_reducible apply Blk.drew | with_reducible apply Blk.drewN))) hc6
            have cF6 := hF6.cell; have fF6 := hF6.frozen; have lF6 := hF6.lt; have mF6 := Nat.ne_of_gt lF6; have nF6 := Nat.ne_of_lt lF6
            have hW6 : Blk v6 (v3.heap.size) 29 #[.int .i64 f1, .int .i64 f2, .int .i64 f3] := Blk.call (by (repeat (first | with_reducible assumption | (with_reducible apply Blk.new_at; (first | rfl | (simp; done))) | with_reducible apply Blk.store3 | with_reducible apply Blk.store4 | (with_reducible apply Blk.farp; (first | omega | (simp <;> omega))) | with_reducible apply Blk.allocp | with_reducible apply Blk.drew | with_reducible apply Blk.drewN))) hc6
            have cW6 := hW6.cell; have fW6 := hW6.frozen; have lW6 := hW6.lt; have mW6 := Nat.ne_of_gt lW6; have nW6 := Nat.ne_of_lt lW6
            have hG6 : Blk v6 (v4.heap.size) 29 #[.int .i64 g1, .int .i64 g2, .int .i64 g3] := Blk.call (by (repeat (first | with_reducible assumption | (with_reducible apply Blk.new_at; (first | rfl | (simp; done))) | with_reducible apply Blk.store3 | with_reducible apply Blk.store4 | (with_reducible apply Blk.farp; (first | omega | (simp <;> omega))) | with_reducible apply Blk.allocp | with_reducible apply Blk.drew | with_reducible apply Blk.drewN))) hc6
            have cG6 := hG6.cell; have fG6 := hG6.frozen; have lG6 := hG6.lt; have mG6 := Nat.ne_of_gt lG6; have nG6 := Nat.ne_of_lt lG6
            have hZ6 : Blk v6 (v5.heap.size) 25 #[.int .i64 q1, .int .i64 q2, .int .i64 q3] := Blk.call (by (repeat (first | with_reducible assumption | (with_reducible apply Blk.new_at; (first | rfl | (simp; done))) | with_reducible apply Blk.store3 | with_reducible apply Blk.store4 | (with_reducible apply Blk.farp; (first | omega | (simp <;> omega))) | with_reducible apply Blk.allocp | with_reducible apply Blk.drew | with_reducible apply Blk.drewN))) hc6
            have cZ6 := hZ6.cell; have fZ6 := hZ6.frozen; have lZ6 := hZ6.lt; have mZ6 := Nat.ne_of_gt lZ6; have nZ6 := Nat.ne_of_lt lZ6
            have hb6 : Below (v5.alloc (.cells #[.int .i64 q1, .int .i64 q2, .int .i64 q3] 25)).heap.size (v5.alloc (.cells #[.int .i64 q1, .int .i64 q2, .int .i64 q3] 25)) v6 := (by repeat (first | with_reducible exact Below.refl _ _ | with_reducible assumption | with_reducible apply Below.drew | with_reducible apply below_drewN | (with_reducible apply below_setp; (first | omega | (simp <;> omega))) | (with_reducible apply below_allocp; (first | omega | (simp <;> omega))) | (with_reducible refine below_viap (by assumption) ?_ ?_; (first | omega | (simp <;> omega)))))
            clear hX5 cX5 fX5 lX5 mX5 nX5 hY5 cY5 fY5 lY5 mY5 nY5 hF5 cF5 fF5 lF5 mF5 nF5 hW5 cW5 fW5 lW5 mW5 nW5 hG5 cG5 fG5 lG5 mG5 nG5
            go_wp2_with fail
            refine (HK.out _).mono ?_
            rintro e v7 ⟨rfl, hc7⟩
            have hz7 := hc7.size
            (try simp at hz7)
            have hX7 : Blk v7 (v1.heap.size) 25 #[.int .i64 x1, .int .i64 x2, .int .i64 x3] := Blk.call (by (repeat (first | with_reducible assumption | (with_reducible apply Blk.new_at; (first | rfl | (simp; done))) | with_reducible apply Blk.store3 | with_reducible apply Blk.store4 | (with_reducible apply Blk.farp; (first | omega | (simp <;> omega))) | with_reducible apply Blk.allocp | with_reducible apply Blk.drew | with_reducible apply Blk.drewN))) hc7
            have cX7 := hX7.cell; have fX7 := hX7.frozen; have lX7 := hX7.lt; have mX7 := Nat.ne_of_gt lX7; have nX7 := Nat.ne_of_lt lX7
            have hY7 : Blk v7 (v1.heap.size + 1) 25 #[.int .i64 y1, .int .i64 y2, .int .i64 y3] := Blk.call (by (repeat (first | with_reducible assumption | (with_reducible apply Blk.new_at; (first | rfl | (simp; done))) | with_reducible apply Blk.store3 | with_reducible apply Blk.store4 | (with_reducible apply Blk.farp; (first | omega | (simp <;> omega))) | with_reducible apply Blk.allocp | with_reducible apply Blk.drew | with_reducible apply Blk.drewN))) hc7
            have cY7 := hY7.cell; have fY7 := hY7.frozen; have lY7 := hY7.lt; have mY7 := Nat.ne_of_gt lY7; have nY7 := Nat.ne_of_lt lY7
            have hF7 : Blk v7 (v2.heap.size) 29 #[.int .i64 f1, .int .i64 f2, .int .i64 f3] := Blk.call (by (repeat (first | with_reducible assumption | (with_reducible apply Blk.new_at; (first | rfl | (simp; done))) | with_reducible apply Blk.store3 | with_reducible apply Blk.store4 | (with_reducible apply Blk.farp; (first | omega | (simp <;> omega))) | with_reducible apply Blk.allocp | with_reducible apply Blk.drew | with_reducible apply Blk.drewN))) hc7
            have cF7 := hF7.cell; have fF7 := hF7.frozen; have lF7 := hF7.lt; have mF7 := Nat.ne_of_gt lF7; have nF7 := Nat.ne_of_lt lF7
            have hW7 : Blk v7 (v3.heap.size) 29 #[.int .i64 f1, .int .i64 f2, .int .i64 f3] := Blk.call (by (repeat (first | with_reducible assumption | (with_reducible apply Blk.new_at; (first | rfl | (simp; done))) | with_reducible apply Blk.store3 | with_reducible apply Blk.store4 | (with_reducible apply Blk.farp; (first | omega | (simp <;> omega))) | with_reducible apply Blk.allocp | with_reducible apply Blk.drew | with_reducible apply Blk.drewN))) hc7
            have cW7 := hW7.cell; have fW7 := hW7.frozen; have lW7 := hW7.lt; have mW7 := Nat.ne_of_gt lW7; have nW7 := Nat.ne_of_lt lW7
            have hG7 : Blk v7 (v4.heap.size) 29 #[.int .i64 g1, .int .i64 g2, .int .i64 g3] := Blk.call (by (repeat (first | with_reducible assumption | (with_reducible apply Blk.new_at; (first | rfl | (simp; done))) | with_reducible apply Blk.store3 | with_reducible apply Blk.store4 | (with_reducible apply Blk.farp; (first | omega | (simp <;> omega))) | with_reducible apply Blk.allocp | with_reducible apply Blk.drew | with_reducible apply Blk.drewN))) hc7
            have cG7 := hG7.cell; have fG7 := hG7.frozen; have lG7 := hG7.lt; have mG7 := Nat.ne_of_gt lG7; have nG7 := Nat.ne_of_lt lG7
            have hZ7 : Blk v7 (v5.heap.size) 25 #[.int .i64 q1, .int .i64 q2, .int .i64 q3] := Blk.call (by (repeat (first | with_reducible assumption | (with_reducible apply Blk.new_at; (first | rfl | (simp; done))) | with_reducible apply Blk.store3 | with_reducible apply Blk.store4 | (with_reducible apply Blk.farp; (first | omega | (simp <;> omega))) | with_reducible apply Blk.allocp | with_reducible apply Blk.drew | with_reducible apply Blk.drewN))) hc7
            have cZ7 := hZ7.cell; have fZ7 := hZ7.frozen; have lZ7 := hZ7.lt; have mZ7 := Nat.ne_of_gt lZ7; have nZ7 := Nat.ne_of_lt lZ7
            have hH7 : Blk v7 (v6.heap.size) 29 #[.int .i64 h1, .int .i64 h2, .int .i64 h3] := Blk.call (by (repeat (first | with_reducible assumption | (with_reducible apply Blk.new_at; (first | rfl | (simp; done))) | with_reducible apply Blk.store3 | with_reducible apply Blk.store4 | (with_reducible apply Blk.farp; (first | omega | (simp <;> omega))) | with_reducible apply Blk.allocp | with_reducible apply Blk.drew | with_reducible apply Blk.drewN))) hc7
            have cH7 := hH7.cell; have fH7 := hH7.frozen; have lH7 := hH7.lt; have mH7 := Nat.ne_of_gt lH7; have nH7 := Nat.ne_of_lt lH7
            have hb7 : Below (v5.alloc (.cells #[.int .i64 q1, .int .i64 q2, .int .i64 q3] 25)).heap.size (v5.alloc (.cells #[.int .i64 q1, .int .i64 q2, .int .i64 q3] 25)) v7 := (by repeat (first | with_reducible exact Below.refl _ _ | with_reducible assumption | with_reducible apply Below.drew | with_reducible apply below_drewN | (with_reducible apply below_setp; (first | omega | (simp <;> omega))) | (with_reducible apply below_allocp; (first | omega | (simp <;> omega))) | (with_reducible refine below_viap (by assumption) ?_ ?_; (first | omega | (simp <;> omega)))))
            clear hX6 cX6 fX6 lX6 mX6 nX6 hY6 cY6 fY6 lY6 mY6 nY6 hF6 cF6 fF6 lF6 mF6 nF6 hW6 cW6 fW6 lW6 mW6 nW6 hG6 cG6 fG6 lG6 mG6 nG6 hZ6 cZ6 fZ6 lZ6 mZ6 nZ6 HH
            clear HK
            go_wp2_with fail
            go_meet
            exact (by repeat (first | with_reducible exact Below.refl _ _ | with_reducible assumption | with_reducible apply Below.drew | with_reducible apply below_drewN | (with_reducible apply below_setp; (first | omega | (simp <;> omega))) | (with_reducible apply below_allocp; (first | omega | (simp <;> omega))) | (with_reducible refine below_viap (by assumption) ?_ ?_; (first | omega | (simp <;> omega)))))
      case rest =>
        obtain ⟨v20, rfl⟩ : ∃ v20 : World, v20 = wc := ⟨_, rfl⟩
        have hb20 : Below w.heap.size w v20 := (by repeat (first | with_reducible exact Below.refl _ _ | with_reducible assumption | with_reducible apply Below.drew | with_reducible apply below_drewN | (with_reducible apply below_setp; (first | omega | (simp <;> omega))) | (with_reducible apply below_allocp; (first | omega | (simp <;> omega))) | (with_reducible refine below_viap (by assumption) ?_ ?_; (first | omega | (simp <;> omega)))))
        have hz20 := hcut.size
        (try simp at hz20)
        have hX20 : Blk v20 v1.heap.size 25 #[.int .i64 x1, .int .i64 x2, .int .i64 x3] := Blk.call (by (repeat (first | with_reducible assumption | (with_reducible apply Blk.new_at; (first | rfl | (simp; done))) | with_reducible apply Blk.store3 | with_reducible apply Blk.store4 | (with_reducible apply Blk.farp; (first | omega | (simp <;> omega))) | with_reducible apply Blk.allocp | with_reducible apply Blk.drew | with_reducible apply Blk.drewN))) hcut
        have cX20 := hX20.cell; have fX20 := hX20.frozen; have lX20 := hX20.lt; have mX20 := Nat.ne_of_gt lX20; have nX20 := Nat.ne_of_lt lX20
        clear hcut HF HG HP hb89 hX5 cX5 fX5 lX5 mX5 nX5 hY5 cY5 fY5 lY5 mY5 nY5 hF5 cF5 fF5 lF5 mF5 nF5 hW5 cW5 fW5 lW5 mW5 nW5 hG5 cG5 fG5 lG5 mG5 nG5
        go_wp2_with fail
        refine (drawCI_any es _ _ v20 (HE.out _ hb20) (by omega)).mono ?_
        rintro e v21 ⟨d2, n, rfl, hdE, hc21⟩
        have hz21 := hc21.size
        have hb21 : Below w.heap.size w v21 := (by repeat (first | with_reducible exact Below.refl _ _ | with_reducible assumption | with_reducible apply Below.drew | with_reducible apply below_drewN | (with_reducible apply below_setp; (first | omega | (simp <;> omega))) | (with_reducible apply below_allocp; (first | omega | (simp <;> omega))) | (with_reducible refine below_viap (by assumption) ?_ ?_; (first | omega | (simp <;> omega)))))
        have hX21 : Blk v21 v1.heap.size 25 #[.int .i64 x1, .int .i64 x2, .int .i64 x3] := Blk.call (by (repeat (first | with_reducible assumption | (with_reducible apply Blk.new_at; (first | rfl | (simp; done))) | with_reducible apply Blk.store3 | with_reducible apply Blk.store4 | (with_reducible apply Blk.farp; (first | omega | (simp <;> omega))) | with_reducible apply Blk.allocp | with_reducible apply Blk.drew | with_reducible apply Blk.drewN))) hc21
        have cX21 := hX21.cell; have fX21 := hX21.frozen; have lX21 := hX21.lt; have mX21 := Nat.ne_of_gt lX21; have nX21 := Nat.ne_of_lt lX21
        clear hc21 hX20 cX20 fX20 lX20 mX20 nX20
        obtain ⟨cn, ok2, hC⟩ := ciR_ex d2 n
        have HI := Lib.hid (fun w => implCI_R w hC)
        have HS := Lib.hid (fun w => specCI_R w hdE hC)
        have HC := Lib.hid hC
        clear hC hdE
        go_wp2_with fail
        refine (HI.out _).mono ?_
        rintro e v22 ⟨rfl, hc22⟩
        have hz22 := hc22.size
        (try simp at hz22)
        have hX22 : Blk v22 (v1.heap.size) 25 #[.int .i64 x1, .int .i64 x2, .int .i64 x3] := Blk.call (by (repeat (first | with_reducible assumption | (with_reducible apply Blk.new_at; (first | rfl | (simp; done))) | with_reducible apply Blk.store3 | with_reducible apply Blk.store4 | (with_reducible apply Blk.farp; (first | omega | (simp <;> omega))) | with_reducible apply Blk.allocp | with_reducible apply Blk.drew | with_reducible apply Blk.drewN))) hc22
        have cX22 := hX22.cell; have fX22 := hX22.frozen; have lX22 := hX22.lt; have mX22 := Nat.ne_of_gt lX22; have nX22 := Nat.ne_of_lt lX22
        have hb22 : Below w.heap.size w v22 := (by repeat (first | with_reducible exact Below.refl _ _ | with_reducible assumption | with_reducible apply Below.drew | with_reducible apply below_drewN | (with_reducible apply below_setp; (first | omega | (simp <;> omega))) | (with_reducible apply below_allocp; (first | omega | (simp <;> omega))) | (with_reducible refine below_viap (by assumption) ?_ ?_; (first | omega | (simp <;> omega)))))
        clear hX21 cX21 fX21 lX21 mX21 nX21
        go_wp2_with fail
        refine (HS.out _).mono ?_
        rintro e v23 ⟨rfl, hc23⟩
        have hz23 := hc23.size
        (try simp at hz23)
        have hX23 : Blk v23 (v1.heap.size) 25 #[.int .i64 x1, .int .i64 x2, .int .i64 x3] := Blk.call (by (repeat (first | with_reducible assumption | (with_reducible apply Blk.new_at; (first | rfl | (simp; done))) | with_reducible apply Blk.store3 | with_reducible apply Blk.store4 | (with_reducible apply Blk.farp; (first | omega | (simp <;> omega))) | with_reducible apply Blk.allocp | with_reducible apply Blk.drew | with_reducible apply Blk.drewN))) hc23
        have cX23 := hX23.cell; have fX23 := hX23.frozen; have lX23 := hX23.lt; have mX23 := Nat.ne_of_gt lX23; have nX23 := Nat.ne_of_lt lX23
        have hb23 : Below w.heap.size w v23 := (by repeat (first | with_reducible exact Below.refl _ _ | with_reducible assumption | with_reducible apply Below.drew | with_reducible apply below_drewN | (with_reducible apply below_setp; (first | omega | (simp <;> omega))) | (with_reducible apply below_allocp; (first | omega | (simp <;> omega))) | (with_reducible refine below_viap (by assumption) ?_ ?_; (first | omega | (simp <;> omega)))))
        clear hX22 cX22 fX22 lX22 mX22 nX22 HI
        clear HS
        go_upto_if 138 with fail
        go_cut [] from 138 to 168 (fun wx => Below v23.heap.size v23 wx)
        case first =>
          as_aux_lemma =>
            clear HE
            cases ok2 with
            | false => go_wp2_with fail; go_meet; exact Below.refl _ _
            | true =>
              obtain ⟨hpB, n1, n2, hcn⟩ : piB d2 = true ∧ 1 ≤ n ∧ n ≤ 2000 ∧ cn = XS (fun k => kroN d2 k) n.toNat := by
                rcases HC.out with ⟨h, _⟩ | ⟨_, h⟩
                · cases h
                · exact h
              obtain ⟨m, rfl⟩ : ∃ m : Nat, n = (m : Int) := ⟨n.toNat, by omega⟩
              rw [Int.toNat_natCast] at hcn
              have hdc := (piB_disc hpB).1
              have h1n : 1 ≤ m := by omega
              have h2n : m ≤ 10000 := by omega
              have HV := Lib.hid (fun w => implDvs_any m w h1n h2n)
              have HK := Lib.hid (fun k (h1 : 1 ≤ k) (h2 : k ≤ 10000) w => chrOf_any d2 k w hdc h1 h2)
              have HN1 := Lib.hid h1n
              have HLaw := Lib.hid hcn
              clear HC hdc hpB hcn
              go_wp2_with fail
              refine (HV.out _).mono ?_
              rintro e v24 ⟨L, vl, hL1, hL2, hL3, rfl, hol, hc24⟩
              have hz24 := hc24.size
              have hb24 : Below v23.heap.size v23 v24 := (by repeat (first | with_reducible exact Below.refl _ _ | with_reducible assumption | with_reducible apply Below.drew | with_reducible apply below_drewN | (with_reducible apply below_setp; (first | omega | (simp <;> omega))) | (with_reducible apply below_allocp; (first | omega | (simp <;> omega))) | (with_reducible refine below_viap (by assumption) ?_ ?_; (first | omega | (simp <;> omega)))))
              obtain ⟨bl, cl, rfl⟩ := own_shape hol
              have hX := chr_sum HN1.out hL1 hL2 (fun x => kroN d2 x)
              have HX : Hid (cn = (L.map fun x => kroN d2 x).sum) := Lib.hid (by rw [hX]; exact HLaw.out)
              have HM := Lib.hid hL2
              have HO := Lib.hid hol
              obtain ⟨N, hN⟩ : ∃ N, L.length = N := ⟨_, rfl⟩
              have HN := Lib.hid hN
              rw [hN] at hL3 ⊢
              clear hX hL1 hL2 hol hN HLaw HV hc24
              go_wp2_with fail
              go_loopw [28, 146] (fun v28 v146 wr => ∃ k : Nat, v146 = .int .i64 k ∧ k ≤ N ∧ v28 = .int .i64 (((L.take k).map fun x => kroN d2 x).sum) ∧ Below v24.heap.size v24 wr) (fun _ v146 _ => N - (intOf v146).toNat)
              case atStart => exact ⟨0, rfl, Nat.zero_le _, rfl, Below.refl _ _⟩
              case round =>
                obtain ⟨k, rfl, hk, rfl, hbel⟩ := hrel
                have hzr := hbel.size
                by_cases hlt : k < N
                · have hkL : k < L.length := by rw [HN.out]; exact hlt
                  obtain ⟨g, rfl, lg, d1⟩ := own_elemI (own_call hbel HO.out) hkL
                  obtain ⟨i, hi1, hi2, hi3⟩ := (HM.out _).1 (List.getElem_mem hkL)
                  have hin : i ≤ m := Nat.le_of_dvd (by omega) hi3
                  have HCk := Lib.hid (fun w => HK.out L[k] (by omega) (by omega) w)
                  have hbd := chr_bd5 d2 (L.take k)
                  have hlt2 : (L.take k).length ≤ 30000 := by rw [List.length_take]; omega
                  have HX2 := Lib.hid (chr_take5 (d := d2) hkL)
                  have hk3 : kroN d2 L[k] = 0 ∨ kroN d2 L[k] = 1 ∨ kroN d2 L[k] = -1 := kro_bd 40 d2 L[k]
                  generalize kroN d2 L[k] = c at *
                  generalize ((L.take k).map fun x => kroN d2 x).sum = S at *
                  generalize L[k] = x at *
                  have hc1 : -1 ≤ c := by omega
                  have hc2 : c ≤ 1 := by omega
                  have hS1 : -30000 ≤ S := by omega
                  have hS2 : S ≤ 30000 := by omega
                  clear hi1 hi2 hi3 hin hbd hk3 hlt2
                  have kI : (k : Int) < (N : Int) := by omega
                  go_wp2_with (go_at_call 14; (with_reducible refine (HCk.out _).mono ?_); rintro e v6 ⟨rfl, hc6⟩; have hz6 := hc6.size)
                  go_roundw
                  case rel => exact ⟨k + 1, by go_num, hlt, by rw [HX2.out], (by repeat (first | with_reducible exact Below.refl _ _ | with_reducible assumption | with_reducible apply Below.drew | with_reducible apply below_drewN | (with_reducible apply below_setp; (first | omega | (simp <;> omega))) | (with_reducible apply below_allocp; (first | omega | (simp <;> omega))) | (with_reducible refine below_viap (by assumption) ?_ ?_; (first | omega | (simp <;> omega)))))⟩
                  case measure => simp [intOf]; omega
                · obtain rfl : k = N := by omega
                  have hkn : ¬ (k : Int) < (k : Int) := by omega
                  rw [List.take_of_length_le (by rw [HN.out]; exact Nat.le_refl _), ← HX.out]
                  go_wp2_with fail
                  go_meet
                  exact (by repeat (first | with_reducible exact Below.refl _ _ | with_reducible assumption | with_reducible apply Below.drew | with_reducible apply below_drewN | (with_reducible apply below_setp; (first | omega | (simp <;> omega))) | (with_reducible apply below_allocp; (first | omega | (simp <;> omega))) | (with_reducible refine below_viap (by assumption) ?_ ?_; (first | omega | (simp <;> omega)))))
        case rest =>
          obtain ⟨v30, rfl⟩ : ∃ v30 : World, v30 = wc := ⟨_, rfl⟩
          have hb30 : Below w.heap.size w v30 := (by repeat (first | with_reducible exact Below.refl _ _ | with_reducible assumption | with_reducible apply Below.drew | with_reducible apply below_drewN | (with_reducible apply below_setp; (first | omega | (simp <;> omega))) | (with_reducible apply below_allocp; (first | omega | (simp <;> omega))) | (with_reducible refine below_viap (by assumption) ?_ ?_; (first | omega | (simp <;> omega)))))
          have hz30 := hcut.size
          (try simp at hz30)
          have hX30 : Blk v30 v1.heap.size 25 #[.int .i64 x1, .int .i64 x2, .int .i64 x3] := Blk.call (by (repeat (first | with_reducible assumption | (with_reducible apply Blk.new_at; (first | rfl | (simp; done))) | with_reducible apply Blk.store3 | with_reducible apply Blk.store4 | (with_reducible apply Blk.farp; (first | omega | (simp <;> omega))) | with_reducible apply Blk.allocp | with_reducible apply Blk.drew | with_reducible apply Blk.drewN))) hcut
          have cX30 := hX30.cell; have fX30 := hX30.frozen; have lX30 := hX30.lt; have mX30 := Nat.ne_of_gt lX30; have nX30 := Nat.ne_of_lt lX30
          clear hcut HC hX23 cX23 fX23 lX23 mX23 nX23
          go_wp2_with fail
          refine (drawGO_any es _ _ v30 (HE.out _ hb30) (by omega)).mono ?_
          rintro e v31 ⟨d3, e1, a1, b1, rfl, hdE, hc31⟩
          have hz31 := hc31.size
          have hb31 : Below w.heap.size w v31 := (by repeat (first | with_reducible exact Below.refl _ _ | with_reducible assumption | with_reducible apply Below.drew | with_reducible apply below_drewN | (with_reducible apply below_setp; (first | omega | (simp <;> omega))) | (with_reducible apply below_allocp; (first | omega | (simp <;> omega))) | (with_reducible refine below_viap (by assumption) ?_ ?_; (first | omega | (simp <;> omega)))))
          have hX31 : Blk v31 v1.heap.size 25 #[.int .i64 x1, .int .i64 x2, .int .i64 x3] := Blk.call (by (repeat (first | with_reducible assumption | (with_reducible apply Blk.new_at; (first | rfl | (simp; done))) | with_reducible apply Blk.store3 | with_reducible apply Blk.store4 | (with_reducible apply Blk.farp; (first | omega | (simp <;> omega))) | with_reducible apply Blk.allocp | with_reducible apply Blk.drew | with_reducible apply Blk.drewN))) hc31
          have cX31 := hX31.cell; have fX31 := hX31.frozen; have lX31 := hX31.lt; have mX31 := Nat.ne_of_gt lX31; have nX31 := Nat.ne_of_lt lX31
          have HD := Lib.hid hdE
          clear hc31 HE hdE hX30 cX30 fX30 lX30 mX30 nX30
          go_upto_region 34 with fail
          generalize hw9 : ((v31.setCell ⟨v1.heap.size, 0, none⟩ (.int .i64 e1)).setCell ⟨v1.heap.size, 1, none⟩ (.int .i64 a1)).setCell ⟨v1.heap.size, 2, none⟩ (.int .i64 b1) = v32
          have hX32 : Blk v32 v1.heap.size 25 #[.int .i64 e1, .int .i64 a1, .int .i64 b1] := by rw [← hw9]; (repeat (first | with_reducible assumption | (with_reducible apply Blk.new_at; (first | rfl | (simp; done))) | with_reducible apply Blk.store2 | with_reducible apply Blk.store3 | with_reducible apply Blk.store4 | (with_reducible apply Blk.farp; (first | omega | (simp <;> omega))) | with_reducible apply Blk.allocp | with_reducible apply Blk.drew | with_reducible apply Blk.drewN))
          have cX32 := hX32.cell; have fX32 := hX32.frozen; have lX32 := hX32.lt; have mX32 := Nat.ne_of_gt lX32; have nX32 := Nat.ne_of_lt lX32
          have hb32 : Below w.heap.size w v32 := by rw [← hw9]; exact below_setp (by omega) (below_setp (by omega) (below_setp (by omega) hb31))
          clear hw9 hX31 cX31 fX31 lX31 mX31 nX31
          cases hpi : (piB d3 && idB d3 e1 a1 b1) with
          | false =>
            have HI := Lib.hid (fun w => implGO_no d3 e1 a1 b1 w hpi)
            have HS := Lib.hid (fun w => specGO_no d3 e1 a1 b1 w HD.out hpi)
            clear hpi HD
            go_wp2_with fail
            refine (HI.out _).mono ?_
            rintro e v33 ⟨rfl, hc33⟩
            have hz33 := hc33.size
            (try simp at hz33)
            have hX33 : Blk v33 (v1.heap.size) 25 #[.int .i64 e1, .int .i64 a1, .int .i64 b1] := Blk.call (by (repeat (first | with_reducible assumption | (with_reducible apply Blk.new_at; (first | rfl | (simp; done))) | with_reducible apply Blk.store3 | with_reducible apply Blk.store4 | (with_reducible apply Blk.farp; (first | omega | (simp <;> omega))) | with_reducible apply Blk.allocp | with_reducible apply Blk.drew | with_reducible apply Blk.drewN))) hc33
            have cX33 := hX33.cell; have fX33 := hX33.frozen; have lX33 := hX33.lt; have mX33 := Nat.ne_of_gt lX33; have nX33 := Nat.ne_of_lt lX33
            have hb33 : Below w.heap.size w v33 := (by repeat (first | with_reducible exact Below.refl _ _ | with_reducible assumption | with_reducible apply Below.drew | with_reducible apply below_drewN | (with_reducible apply below_setp; (first | omega | (simp <;> omega))) | (with_reducible apply below_allocp; (first | omega | (simp <;> omega))) | (with_reducible refine below_viap (by assumption) ?_ ?_; (first | omega | (simp <;> omega)))))
            clear hX32 cX32 fX32 lX32 mX32 nX32
            go_wp2_with fail
            refine (HS.out _).mono ?_
            rintro e v34 ⟨rfl, hc34⟩
            have hz34 := hc34.size
            (try simp at hz34)
            have hX34 : Blk v34 (v1.heap.size) 25 #[.int .i64 e1, .int .i64 a1, .int .i64 b1] := Blk.call (by (repeat (first | with_reducible assumption | (with_reducible apply Blk.new_at; (first | rfl | (simp; done))) | with_reducible apply Blk.store3 | with_reducible apply Blk.store4 | (with_reducible apply Blk.farp; (first | omega | (simp <;> omega))) | with_reducible apply Blk.allocp | with_reducible apply Blk.drew | with_reducible apply Blk.drewN))) hc34
            have cX34 := hX34.cell; have fX34 := hX34.frozen; have lX34 := hX34.lt; have mX34 := Nat.ne_of_gt lX34; have nX34 := Nat.ne_of_lt lX34
            have hb34 : Below w.heap.size w v34 := (by repeat (first | with_reducible exact Below.refl _ _ | with_reducible assumption | with_reducible apply Below.drew | with_reducible apply below_drewN | (with_reducible apply below_setp; (first | omega | (simp <;> omega))) | (with_reducible apply below_allocp; (first | omega | (simp <;> omega))) | (with_reducible refine below_viap (by assumption) ?_ ?_; (first | omega | (simp <;> omega)))))
            clear hX33 cX33 fX33 lX33 mX33 nX33 HI
            clear HS
            go_wp2
            go_ret
            exact ⟨rfl, (by repeat (first | with_reducible exact Below.refl _ _ | with_reducible assumption | with_reducible apply Below.drew | with_reducible apply below_drewN | (with_reducible apply below_setp; (first | omega | (simp <;> omega))) | (with_reducible apply below_allocp; (first | omega | (simp <;> omega))) | (with_reducible refine below_viap (by assumption) ?_ ?_; (first | omega | (simp <;> omega)))))⟩
          | true =>
            rw [Bool.and_eq_true] at hpi
            have HPB := Lib.hid hpi.1
            have HVV := Lib.hid (idB_iff.1 hpi.2)
            have HI := Lib.hid (fun w => implGO_any d3 e1 a1 b1 w HPB.out HVV.out)
            have HS := Lib.hid (fun w => specGO_any d3 e1 a1 b1 w HD.out HPB.out HVV.out)
            clear hpi HD
            go_wp2_with fail
            refine (HI.out _).mono ?_
            rintro e v33 ⟨ff, ⟨p1, p2⟩, rfl, hB1, hZ1, hR1, hc33⟩
            have hz33 := hc33.size
            (try simp at hz33)
            have hX33 : Blk v33 (v1.heap.size) 25 #[.int .i64 e1, .int .i64 a1, .int .i64 b1] := Blk.call (by (repeat (first | with_reducible assumption | (with_reducible apply Blk.new_at; (first | rfl | (simp; done))) | with_reducible apply Blk.store3 | with_reducible apply Blk.store4 | (with_reducible apply Blk.farp; (first | omega | (simp <;> omega))) | with_reducible apply Blk.allocp | with_reducible apply Blk.drew | with_reducible apply Blk.drewN))) hc33
            have cX33 := hX33.cell; have fX33 := hX33.frozen; have lX33 := hX33.lt; have mX33 := Nat.ne_of_gt lX33; have nX33 := Nat.ne_of_lt lX33
            have hb33 : Below w.heap.size w v33 := (by repeat (first | with_reducible exact Below.refl _ _ | with_reducible assumption | with_reducible apply Below.drew | with_reducible apply below_drewN | (with_reducible apply below_setp; (first | omega | (simp <;> omega))) | (with_reducible apply below_allocp; (first | omega | (simp <;> omega))) | (with_reducible refine below_viap (by assumption) ?_ ?_; (first | omega | (simp <;> omega)))))
            clear hX32 cX32 fX32 lX32 mX32 nX32
            go_wp2_with fail
            refine (HS.out _).mono ?_
            rintro e v34 ⟨ff', ⟨r1, r2⟩, rfl, hB2, hZ2, hR2, hc34⟩
            have hz34 := hc34.size
            (try simp at hz34)
            have hX34 : Blk v34 (v1.heap.size) 25 #[.int .i64 e1, .int .i64 a1, .int .i64 b1] := Blk.call (by (repeat (first | with_reducible assumption | (with_reducible apply Blk.new_at; (first | rfl | (simp; done))) | with_reducible apply Blk.store3 | with_reducible apply Blk.store4 | (with_reducible apply Blk.farp; (first | omega | (simp <;> omega))) | with_reducible apply Blk.allocp | with_reducible apply Blk.drew | with_reducible apply Blk.drewN))) hc34
            have cX34 := hX34.cell; have fX34 := hX34.frozen; have lX34 := hX34.lt; have mX34 := Nat.ne_of_gt lX34; have nX34 := Nat.ne_of_lt lX34
            have hb34 : Below w.heap.size w v34 := (by repeat (first | with_reducible exact Below.refl _ _ | with_reducible assumption | with_reducible apply Below.drew | with_reducible apply below_drewN | (with_reducible apply below_setp; (first | omega | (simp <;> omega))) | (with_reducible apply below_allocp; (first | omega | (simp <;> omega))) | (with_reducible refine below_viap (by assumption) ?_ ?_; (first | omega | (simp <;> omega)))))
            clear hX33 cX33 fX33 lX33 mX33 nX33 HI
            obtain ⟨rfl, hpq⟩ := bestI_uniq hB1 hB2 hZ1 hZ2
            obtain ⟨rfl, rfl⟩ := Prod.mk.inj hpq
            have HB := Lib.hid hB1
            have HRR := Lib.hid hR1
            clear HS hB1 hB2 hZ1 hZ2 hR1 hR2 hpq
            cases ff with
            | false =>
              clear HB HRR HPB HVV
              go_wp2
              go_ret
              exact ⟨rfl, (by repeat (first | with_reducible exact Below.refl _ _ | with_reducible assumption | with_reducible apply Below.drew | with_reducible apply below_drewN | (with_reducible apply below_setp; (first | omega | (simp <;> omega))) | (with_reducible apply below_allocp; (first | omega | (simp <;> omega))) | (with_reducible refine below_viap (by assumption) ?_ ?_; (first | omega | (simp <;> omega)))))⟩
            | true =>
              have HGn : Hid (Gn d3 a1 b1 (p1, p2)) := Lib.hid (HB.out.2 rfl).1
              have HN := Lib.hid (fun w => isNumber_any (e1 * p1) w)
              have HM := Lib.hid (fun w => isNumber_any (e1 * p2) w)
              cases hu : isNum (e1 * p1) with
              | false =>
                rw [hu] at HN
                clear HB HRR HPB HVV hu HM HGn
                go_wp2_with (go_at_call 18; (with_reducible refine (HN.out _).mono ?_); rintro e v35 ⟨rfl, hc35⟩; have hz35 := hc35.size; have hb35 : Below w.heap.size w v35 := (by repeat (first | with_reducible exact Below.refl _ _ | with_reducible assumption | with_reducible apply Below.drew | with_reducible apply below_drewN | (with_reducible apply below_setp; (first | omega | (simp <;> omega))) | (with_reducible apply below_allocp; (first | omega | (simp <;> omega))) | (with_reducible refine below_viap (by assumption) ?_ ?_; (first | omega | (simp <;> omega))))))
                go_ret
                exact ⟨rfl, (by repeat (first | with_reducible exact Below.refl _ _ | with_reducible assumption | with_reducible apply Below.drew | with_reducible apply below_drewN | (with_reducible apply below_setp; (first | omega | (simp <;> omega))) | (with_reducible apply below_allocp; (first | omega | (simp <;> omega))) | (with_reducible refine below_viap (by assumption) ?_ ?_; (first | omega | (simp <;> omega)))))⟩
              | true =>
                rw [hu] at HN
                cases hv : isNum (e1 * p2) with
                | false =>
                  rw [hv] at HM
                  clear HB HRR HPB HVV hu hv HGn
                  go_wp2_with (first | (go_at_call 18; (with_reducible refine (HN.out _).mono ?_); rintro e v35 ⟨rfl, hc35⟩; have hz35 := hc35.size; have hb35 : Below w.heap.size w v35 := (by repeat (first | with_reducible exact Below.refl _ _ | with_reducible assumption | with_reducible apply Below.drew | with_reducible apply below_drewN | (with_reducible apply below_setp; (first | omega | (simp <;> omega))) | (with_reducible apply below_allocp; (first | omega | (simp <;> omega))) | (with_reducible refine below_viap (by assumption) ?_ ?_; (first | omega | (simp <;> omega)))))) | (go_at_call 18; (with_reducible refine (HM.out _).mono ?_); rintro e v36 ⟨rfl, hc36⟩; have hz36 := hc36.size; have hb36 : Below w.heap.size w v36 := (by repeat (first | with_reducible exact Below.refl _ _ | with_reducible assumption | with_reducible apply Below.drew | with_reducible apply below_drewN | (with_reducible apply below_setp; (first | omega | (simp <;> omega))) | (with_reducible apply below_allocp; (first | omega | (simp <;> omega))) | (with_reducible refine below_viap (by assumption) ?_ ?_; (first | omega | (simp <;> omega)))))))
                  go_ret
                  exact ⟨rfl, (by repeat (first | with_reducible exact Below.refl _ _ | with_reducible assumption | with_reducible apply Below.drew | with_reducible apply below_drewN | (with_reducible apply below_setp; (first | omega | (simp <;> omega))) | (with_reducible apply below_allocp; (first | omega | (simp <;> omega))) | (with_reducible refine below_viap (by assumption) ?_ ?_; (first | omega | (simp <;> omega)))))⟩
                | true =>
                  rw [hv] at HM
                  have HPI := Lib.hid (fun w => implPI_any d3 e1 a1 b1 p1 p2 w HPB.out HVV.out HGn.out HRR.out hu hv)
                  clear HB HRR HPB HVV hu hv HGn
                  go_wp2_with fail
                  refine (HN.out _).mono ?_
                  rintro e v35 ⟨rfl, hc35⟩
                  have hz35 := hc35.size
                  (try simp at hz35)
                  have hX35 : Blk v35 (v1.heap.size) 25 #[.int .i64 e1, .int .i64 a1, .int .i64 b1] := Blk.call (by (repeat (first | with_reducible assumption | (with_reducible apply Blk.new_at; (first | rfl | (simp; done))) | with_reducible apply Blk.store3 | with_reducible apply Blk.store4 | (with_reducible apply Blk.farp; (first | omega | (simp <;> omega))) | with_reducible apply Blk.allocp | with_reducible apply Blk.drew | with_reducible apply Blk.drewN))) hc35
                  have cX35 := hX35.cell; have fX35 := hX35.frozen; have lX35 := hX35.lt; have mX35 := Nat.ne_of_gt lX35; have nX35 := Nat.ne_of_lt lX35
                  have hb35 : Below w.heap.size w v35 := (by repeat (first | with_reducible exact Below.refl _ _ | with_reducible assumption | with_reducible apply Below.drew | with_reducible apply below_drewN | (with_reducible apply below_setp; (first | omega | (simp <;> omega))) | (with_reducible apply below_allocp; (first | omega | (simp <;> omega))) | (with_reducible refine below_viap (by assumption) ?_ ?_; (first | omega | (simp <;> omega)))))
                  clear hX34 cX34 fX34 lX34 mX34 nX34
                  go_wp2_with fail
                  refine (HM.out _).mono ?_
                  rintro e v36 ⟨rfl, hc36⟩
                  have hz36 := hc36.size
                  (try simp at hz36)
                  have hX36 : Blk v36 (v1.heap.size) 25 #[.int .i64 e1, .int .i64 a1, .int .i64 b1] := Blk.call (by (repeat (first | with_reducible assumption | (with_reducible apply Blk.new_at; (first | rfl | (simp; done))) | with_reducible apply Blk.store3 | with_reducible apply Blk.store4 | (with_reducible apply Blk.farp; (first | omega | (simp <;> omega))) | with_reducible apply Blk.allocp | with_reducible apply Blk.drew | with_reducible apply Blk.drewN))) hc36
                  have cX36 := hX36.cell; have fX36 := hX36.frozen; have lX36 := hX36.lt; have mX36 := Nat.ne_of_gt lX36; have nX36 := Nat.ne_of_lt lX36
                  have hb36 : Below w.heap.size w v36 := (by repeat (first | with_reducible exact Below.refl _ _ | with_reducible assumption | with_reducible apply Below.drew | with_reducible apply below_drewN | (with_reducible apply below_setp; (first | omega | (simp <;> omega))) | (with_reducible apply below_allocp; (first | omega | (simp <;> omega))) | (with_reducible refine below_viap (by assumption) ?_ ?_; (first | omega | (simp <;> omega)))))
                  clear hX35 cX35 fX35 lX35 mX35 nX35 HN
                  go_wp2_with fail
                  refine (HPI.out _).mono ?_
                  rintro e v37 ⟨rfl, hc37⟩
                  have hz37 := hc37.size
                  (try simp at hz37)
                  have hX37 : Blk v37 (v1.heap.size) 25 #[.int .i64 e1, .int .i64 a1, .int .i64 b1] := Blk.call (by (repeat (first | with_reducible assumption | (with_reducible apply Blk.new_at; (first | rfl | (simp; done))) | with_reducible apply Blk.store3 | with_reducible apply Blk.store4 | (with_reducible apply Blk.farp; (first | omega | (simp <;> omega))) | with_reducible apply Blk.allocp | with_reducible apply Blk.drew | with_reducible apply Blk.drewN))) hc37
                  have cX37 := hX37.cell; have fX37 := hX37.frozen; have lX37 := hX37.lt; have mX37 := Nat.ne_of_gt lX37; have nX37 := Nat.ne_of_lt lX37
                  have hb37 : Below w.heap.size w v37 := (by repeat (first | with_reducible exact Below.refl _ _ | with_reducible assumption | with_reducible apply Below.drew | with_reducible apply below_drewN | (with_reducible apply below_setp; (first | omega | (simp <;> omega))) | (with_reducible apply below_allocp; (first | omega | (simp <;> omega))) | (with_reducible refine below_viap (by assumption) ?_ ?_; (first | omega | (simp <;> omega)))))
                  clear hX36 cX36 fX36 lX36 mX36 nX36 HM
                  clear HPI
                  go_wp2
                  go_ret
                  exact ⟨rfl, (by repeat (first | with_reducible exact Below.refl _ _ | with_reducible assumption | with_reducible apply Below.drew | with_reducible apply below_drewN | (with_reducible apply below_setp; (first | omega | (simp <;> omega))) | (with_reducible apply below_allocp; (first | omega | (simp <;> omega))) | (with_reducible refine below_viap (by assumption) ?_ ?_; (first | omega | (simp <;> omega)))))⟩
  · have Hb := Lib.hid (fun w => big_yes A A2 zs.length es.length c1' c2' w hbig)
    clear HZ HY hbig
    go_enter Tryz.func3, Tryz.ntmps3
    go_wp2_with (go_at_call 4; (with_reducible refine (Hb.out _).mono ?_); rintro e v ⟨rfl, rfl⟩)
    go_ret
    exact ⟨rfl, (by repeat (first | with_reducible exact Below.refl _ _ | with_reducible assumption | with_reducible apply Below.drew | with_reducible apply below_drewN | (with_reducible apply below_setp; (first | omega | (simp <;> omega))) | (with_reducible apply below_allocp; (first | omega | (simp <;> omega))) | (with_reducible refine below_viap (by assumption) ?_ ?_; (first | omega | (simp <;> omega)))))⟩
theorem own_FnIdealClasses : ownKnob Tryz.prog.godebug = none := by kernel_rfl

set_option maxRecDepth 100000 in
theorem lifted_FnIdealClasses (os : Os) (started : os.Started) (H : Type) (enc : TypeId × Value → H) :
    ReturnsInHanded {} Tryz.checked os 3 .any (Rows.fnIdealClassesSpec.pre6 enc Tryz.prog Tryz.f3 Rows.fnIdealClassesRow.domain false) (Rows.fnIdealClassesSpec.post enc Tryz.prog Tryz.f3 false true false false) := by
  refine returnsInHanded_of_change (C := Tryz.checked) own_FnIdealClasses started (by kernel_rfl) Tryz.func3
    (ChangeSpec.witness6 (enc := enc) (C := Tryz.checked) false ⟨#[], #[.slice none 0 0, .slice none 0 0], []⟩ 8 (by kernel_rfl) (by kernel_rfl) (by kernel_rfl) (by kernel_rfl)) ?_
  intro W base args ds gs before hval0 hW hcnd _
  have hval : ∀ (j : Nat) t v, Tryz.f3.params[j]? = some t → args[j]? = some v → Value.okWide Tryz.prog W .any base t v := hval0
  have hW' := hW
  obtain ⟨p, q, hA0, hV, rfl, hfz, hnd⟩ := hW
  have hA : DataW.TrodAll enc Tryz.prog W 0 (fun _ => true) true Tryz.f3.params.toList args.toList ds p := hA0
  rw [Tryz.params3] at hA hval
  obtain ⟨v1, vs1, d1, ds1, p1, q1, hargs, rfl, rfl, h1, r1⟩ := trodAll_cons hA
  obtain ⟨v2, vs2, d2, ds2, p2, q2, rfl, rfl, rfl, h2, r2⟩ := trodAll_cons r1
  obtain ⟨rfl, rfl, rfl⟩ := trodAll_nil r2
  obtain rfl : args = #[v1, v2] := by cases args; simp_all
  obtain ⟨rfl, rfl⟩ := trodVars_none hV
  obtain ⟨zs, hrd⟩ := open_reB (hval 0 22 v1 rfl rfl) h1
  obtain ⟨es, hre⟩ := open_reB (hval 1 22 v2 rfl rfl) h2
  have hlt1 : ∀ x ∈ p1, x.block < W.heap.size := fun x hx => hW'.lt x (by simp [hx])
  have hlt2 : ∀ x ∈ p2, x.block < W.heap.size := fun x hx => hW'.lt x (by simp [hx])
  clear hA0 hval0
  refine (walk_FnIdealClasses zs es v1 v2 W hrd hre).mono fun e W' ⟨he, hg⟩ => ?_
  subst he
  exact ⟨_, rfl, post_of_below (pa := p1 ++ (p2 ++ [])) (pv := []) hW' (fun _ _ _ => (trodAll_cons_mk (shut_bool Tryz.underlying4 _) trodAll_mk0)) (fun sp hsp => (trodAll_cons_mk (WideElems.Trod_stays laid_D3 (by kernel_rfl) (of_decide_eq_true (by kernel_rfl)) h1 (fun x hx => hg.same (hlt1 x hx)) (fun x hx => hsp x (by simp [hx]))) (trodAll_cons_mk (WideElems.Trod_stays laid_D3 (by kernel_rfl) (of_decide_eq_true (by kernel_rfl)) h2 (fun x hx => hg.same (hlt2 x hx)) (fun x hx => hsp x (by simp [hx]))) trodAll_mk0))) (fun _ _ => rfl) rfl
    hg (ok_one (by kernel_rfl) rfl (okWide_bool_mk Tryz.underlying4 _))⟩

theorem and2_FnIdealClasses {a b : Bool} (h : a = true) (k : b = true) : (a && b) = true := by rw [h, k]; rfl
set_option maxRecDepth 100000 in
theorem cl0_FnIdealClasses : (Rows.fnIdealClassesRow.wf (OpenSpec.ofChange Rows.fnIdealClassesSpec)) = true := by kernel_rfl
set_option maxRecDepth 100000 in
theorem cl1_FnIdealClasses : (laidOutB Tryz.pinned.checked.prog) = true := by kernel_rfl
set_option maxRecDepth 100000 in
theorem cl2_FnIdealClasses : (mapsRowed Tryz.pinned.checked.prog) = true := by kernel_rfl
set_option maxRecDepth 100000 in
theorem cl3_FnIdealClasses : (Tryz.f3.params.all (Tryz.pinned.checked.prog.readableRec ·)) = true := by kernel_rfl
set_option maxRecDepth 100000 in
theorem cl4_FnIdealClasses : (namedTie Tryz.pinned.checked.prog Rows.fnIdealClassesRow.named Rows.fnIdealClassesSpec.vars) = true := by kernel_rfl
set_option maxRecDepth 100000 in
theorem cl5_FnIdealClasses : (Rows.fnIdealClassesRow.stops == []) = true := by kernel_rfl
set_option maxRecDepth 100000 in
theorem cl6_FnIdealClasses : (Tryz.pinned.checked.prog.stops == []) = true := by kernel_rfl
set_option maxRecDepth 100000 in
theorem cl7_FnIdealClasses : (Rows.fnIdealClassesRow.knobs == []) = true := by kernel_rfl
set_option maxRecDepth 100000 in
theorem cl8_FnIdealClasses : (Tryz.pinned.checked.prog.stopKnobs == []) = true := by kernel_rfl
set_option maxRecDepth 100000 in
theorem cl9_FnIdealClasses : (Rows.fnIdealClassesRow.inPlace == Tryz.pinned.checked.prog.inPlace 3) = true := by kernel_rfl
set_option maxRecDepth 100000 in
theorem cl10_FnIdealClasses : (Rows.fnIdealClassesRow.unfollowed == Tryz.pinned.checked.prog.unfollowed 3) = true := by kernel_rfl
set_option maxRecDepth 100000 in
theorem cl11_FnIdealClasses : (Rows.fnIdealClassesRow.recurses == Tryz.pinned.checked.prog.recurses 3) = true := by kernel_rfl
set_option maxRecDepth 100000 in
theorem cl12_FnIdealClasses : (Rows.fnIdealClassesRow.named == Tryz.pinned.checked.prog.varsNamed 3) = true := by kernel_rfl
set_option maxRecDepth 100000 in
theorem cl13_FnIdealClasses : (Rows.fnIdealClassesRow.maps == (Tryz.f3.params.toList ++ Rows.fnIdealClassesSpec.plain.varTypes Tryz.pinned.checked.prog).any (Tryz.pinned.checked.prog.mapsRec ·)) = true := by kernel_rfl
set_option maxRecDepth 100000 in
theorem cl14_FnIdealClasses : (Rows.fnIdealClassesRow.ifaces == (Tryz.f3.params.toList ++ Rows.fnIdealClassesSpec.plain.varTypes Tryz.pinned.checked.prog).any (Tryz.pinned.checked.prog.ifacesRec ·)) = true := by kernel_rfl
set_option maxRecDepth 100000 in
theorem cl15_FnIdealClasses : (Rows.fnIdealClassesRow.mapsOut == Tryz.pinned.checked.prog.mapsAmong Tryz.f3.resultTypes.toList) = true := by kernel_rfl
set_option maxRecDepth 100000 in
theorem cl16_FnIdealClasses : (Rows.fnIdealClassesRow.loops == (Tryz.f3.params.toList ++ Rows.fnIdealClassesSpec.plain.varTypes Tryz.pinned.checked.prog).any (Tryz.pinned.checked.prog.loopsFrom ·)) = true := by kernel_rfl
set_option maxRecDepth 100000 in
theorem cl17_FnIdealClasses : (Rows.fnIdealClassesRow.wideKeys == (Tryz.f3.params.toList ++ Rows.fnIdealClassesSpec.plain.varTypes Tryz.pinned.checked.prog ++ Tryz.f3.resultTypes.toList).any (Tryz.pinned.checked.prog.wideKeysFrom ·)) = true := by kernel_rfl
set_option maxRecDepth 100000 in
theorem cl18_FnIdealClasses : (Rows.fnIdealClassesSpec.vars.all (Tryz.pinned.checked.prog.varReadable ·)) = true := by kernel_rfl
set_option maxRecDepth 100000 in
theorem cl19_FnIdealClasses : (Tryz.f3.resultTypes.all (fun t => Tryz.pinned.checked.prog.readableRec t && decide (t < Tryz.pinned.checked.prog.types.size))) = true := by kernel_rfl
set_option maxRecDepth 100000 in
theorem cl20_FnIdealClasses : (Rows.fnIdealClassesRow.ifacesOut == Tryz.f3.resultTypes.toList.any (Tryz.pinned.checked.prog.ifacesRec ·)) = true := by kernel_rfl
set_option maxRecDepth 100000 in
theorem cl21_FnIdealClasses : (Rows.fnIdealClassesRow.loopsOut == Tryz.f3.resultTypes.toList.any (Tryz.pinned.checked.prog.loopsFrom ·)) = true := by kernel_rfl
set_option maxRecDepth 100000 in
theorem cl22_FnIdealClasses : (Rows.fnIdealClassesRow.plainKeys == Tryz.pinned.checked.prog.plainKeys) = true := by kernel_rfl
set_option maxRecDepth 100000 in
theorem cl23_FnIdealClasses : (Rows.fnIdealClassesRow.shortTexts.isNone) = true := by kernel_rfl
set_option maxRecDepth 100000 in
theorem cl24_FnIdealClasses : (Tryz.pinned.checked.prog.stopsHeard) = true := by kernel_rfl
set_option maxRecDepth 100000 in
theorem cl25_FnIdealClasses : (Tryz.pinned.checked.prog.mayEnter) = true := by kernel_rfl
set_option maxRecDepth 100000 in
theorem cl26_FnIdealClasses : (Rows.fnIdealClassesRow.lifted == Tryz.pinned.checked.prog.liftsFinal) = true := by kernel_rfl
set_option maxRecDepth 100000 in
theorem cl27_FnIdealClasses : (Tryz.pinned.checked.prog.make == some Rows.fnIdealClassesRow.make) = true := by kernel_rfl
set_option maxRecDepth 100000 in
theorem cl28_FnIdealClasses : (Rows.fnIdealClassesRow.kinds == (if Rows.fnIdealClassesRow.domain.isEmpty then [] else Tryz.f3.params.toList.map fun t => match Tryz.pinned.checked.prog.underlying t with | some (.int k) => some k | _ => none)) = true := by kernel_rfl
set_option maxRecDepth 100000 in
theorem cl29_FnIdealClasses : (Rows.fnIdealClassesRow.pinned == Rows.fnIdealClassesRow.pinnedBy) = true := by kernel_rfl
set_option maxRecDepth 100000 in
theorem cl30_FnIdealClasses : (Rows.fnIdealClassesRow.veiled == (Tryz.f3.params.toList ++ Rows.fnIdealClassesSpec.plain.varTypes Tryz.pinned.checked.prog ++ Tryz.f3.resultTypes.toList).any (Tryz.pinned.checked.prog.veiledRec ·)) = true := by kernel_rfl
set_option maxRecDepth 100000 in
theorem cl31_FnIdealClasses : (Rows.fnIdealClassesRow.veiledFits Tryz.pinned.checked.prog Tryz.f3.params.toList (Tryz.f3.params.toList ++ Rows.fnIdealClassesSpec.plain.varTypes Tryz.pinned.checked.prog ++ Tryz.f3.resultTypes.toList)) = true := by kernel_rfl
set_option maxRecDepth 100000 in
theorem closed_FnIdealClasses : joinedFacts Tryz.pinned.checked.prog 3 Tryz.f3 Rows.fnIdealClassesSpec Rows.fnIdealClassesRow = true := (and2_FnIdealClasses (and2_FnIdealClasses (and2_FnIdealClasses (and2_FnIdealClasses (and2_FnIdealClasses (and2_FnIdealClasses (and2_FnIdealClasses (and2_FnIdealClasses (and2_FnIdealClasses (and2_FnIdealClasses (and2_FnIdealClasses (and2_FnIdealClasses (and2_FnIdealClasses (and2_FnIdealClasses (and2_FnIdealClasses (and2_FnIdealClasses (and2_FnIdealClasses (and2_FnIdealClasses (and2_FnIdealClasses (and2_FnIdealClasses (and2_FnIdealClasses (and2_FnIdealClasses (and2_FnIdealClasses (and2_FnIdealClasses (and2_FnIdealClasses (and2_FnIdealClasses (and2_FnIdealClasses (and2_FnIdealClasses (and2_FnIdealClasses (and2_FnIdealClasses (and2_FnIdealClasses cl0_FnIdealClasses cl1_FnIdealClasses) cl2_FnIdealClasses) cl3_FnIdealClasses) cl4_FnIdealClasses) cl5_FnIdealClasses) cl6_FnIdealClasses) cl7_FnIdealClasses) cl8_FnIdealClasses) cl9_FnIdealClasses) cl10_FnIdealClasses) cl11_FnIdealClasses) cl12_FnIdealClasses) cl13_FnIdealClasses) cl14_FnIdealClasses) cl15_FnIdealClasses) cl16_FnIdealClasses) cl17_FnIdealClasses) cl18_FnIdealClasses) cl19_FnIdealClasses) cl20_FnIdealClasses) cl21_FnIdealClasses) cl22_FnIdealClasses) cl23_FnIdealClasses) cl24_FnIdealClasses) cl25_FnIdealClasses) cl26_FnIdealClasses) cl27_FnIdealClasses) cl28_FnIdealClasses) cl29_FnIdealClasses) cl30_FnIdealClasses) cl31_FnIdealClasses)


/-- The statement. -/
theorem holds_FnIdealClasses : Rows.FnIdealClassesSaid :=
  OpenClaim.holds_of_wide 3 Tryz.f3 rfl rfl rfl rfl rfl rfl rfl ⟨rfl, rfl, rfl, rfl, rfl⟩ rfl rfl rfl rfl rfl (by kernel_rfl) Tryz.func3 closed_FnIdealClasses
    (of_decide_eq_true (by kernel_rfl)) (by unfold Func.isWrapper; first | (rw [if_pos (by decide +kernel)]; kernel_rfl) | (rw [if_neg (by decide +kernel)]; exact ⟨rfl, rfl⟩))
    (fun os started H enc _ => lifted_FnIdealClasses os started H enc)
#print axioms holds_FnIdealClasses
end Go.Proofs.YtohgccgbbipjjaaGreat
