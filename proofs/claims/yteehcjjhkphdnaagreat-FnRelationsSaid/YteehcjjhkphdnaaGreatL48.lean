/- FnRelations returns true: for all drawn primes, exponents with the other sign give the inverse class, least relations give the identity, and the classes that they generate divide the class number. Conditions: none. -/
import Derived.Test.YteehcjjhkphdnaaGreatFC
import Derived.Test.YteehcjjhkphdnaaGreatRE
import Derived.Test.YteehcjjhkphdnaaGreatRF
import Derived.Test.YteehcjjhkphdnaaGreatPM
import Derived.Test.YteehcjjhkphdnaaGreatPI
import Derived.Test.YteehcjjhkphdnaaGreatDA
import Derived.Test.YteehcjjhkphdnaaGreatDB
import Derived.Test.YteehcjjhkphdnaaGreatW2
import Derived.BigQuiet
namespace Go.Proofs.YteehcjjhkphdnaaGreat
open Go.RowKit Go.ChangeShapes Go.WideShapes Go.ChangeAt Go.Joins

/-- The loop over the exponents. -/
def MnSt (E : List Int) (w9 : World) (vm vi : Value) (wr : World) : Prop := ∃ k : Nat, vi = .int .i64 k ∧ k ≤ E.length ∧ wr.ownsRow w9.heap.size 3 1 vm ((E.take k).map fun x => -x).length (cellsI ((E.take k).map fun x => -x)) ∧ Below w9.heap.size w9 wr
theorem reB_shape {zs : List Int} {v : Value} {w : World} (h : ReB zs v w) : ∃ A c, v = .slice A zs.length c := by
  obtain ⟨_, A, cap, rfl, _⟩ := h
  exact ⟨_, _, rfl⟩

set_option maxRecDepth 100000 in
set_option maxHeartbeats 25600000 in
theorem walk_FnRelations (zs es : List Int) (v u : Value) (w : World) (hz : ReB zs v w) (he : ReB es u w) :
    Calls Tryz.prog 4 #[v, u] w fun e w' => e = .returned (.bool true) ∧ Below w.heap.size w w' := by
  obtain ⟨i0, hi, hz0, hz1i, hz2i⟩ := info_parts infoInt
  have HZ := Lib.hid hz
  have HY := Lib.hid he
  obtain ⟨A, c1, rfl⟩ := reB_shape hz
  obtain ⟨A2, c2, rfl⟩ := reB_shape he
  clear hz he
  by_cases hbig : zs.length ≤ 1048576 ∧ es.length ≤ 1048576 - zs.length
  · have Hb := Lib.hid (fun w => big_no A A2 zs.length es.length c1 c2 w hbig.1 hbig.2)
    have HR := Lib.hid (HZ.out.rd hbig.1)
    have HE := Lib.hid (fun w' (hb : Below w.heap.size w w') => (HY.out.rd (by omega)).below hb (Nat.le_refl _))
    clear HZ HY hbig
    go_enter Tryz.func4, Tryz.ntmps4
    go_wp2_with (go_at_call 10; (with_reducible refine (Hb.out _).mono ?_); rintro e v ⟨rfl, rfl⟩)
    refine (drawRc_any zs _ _ _ HR.out (Nat.le_refl _)).mono ?_
    rintro e v1 ⟨d, Z, E, vz, ve, rfl, ho1, he1, hlZ, hlE, hEb, hb1⟩
    have hz1 := hb1.size
    obtain ⟨bz, cz, rfl⟩ := own_shape ho1
    obtain ⟨be, ce, rfl⟩ := own_shape he1
    have HI := Lib.hid (fun (w : World) v u B B2 h h2 => implRc_any d Z E v u B B2 w (by omega) (by omega) (fun e he => by have := hEb e he; omega) h h2)
    have HS := Lib.hid (fun (w : World) v u B B2 h h2 => specRc_any d Z E v u B B2 w (by omega) (by omega) h h2)
    cases hrc : rcO d Z E with
    | none =>
      rw [hrc] at HI HS
      dsimp only [pfV, Option.isSome_none, Option.getD_none] at HI HS
      clear hrc
      go_wp2_with fail
      refine (HI.out _ _ _ _ _ ho1 he1).mono ?_
      rintro e v2 ⟨rfl, hc2⟩
      have hz2 := hc2.size
      (try simp at hz2)
      have ho2 := own_call hc2 ho1
      have he2 := own_call hc2 he1
      have hb2 : Below w.heap.size w v2 := (by repeat (first | with_reducible exact Below.refl _ _ | with_reducible assumption | with_reducible apply Below.drew | with_reducible apply below_drewN | (with_reducible apply below_setp; (first | omega | (simp <;> omega))) | (with_reducible apply below_allocp; (first | omega | (simp <;> omega))) | (with_reducible refine below_viap (by assumption) ?_ ?_; (first | omega | (simp <;> omega)))))
      clear ho1 he1
      go_wp2_with fail
      refine (HS.out _ _ _ _ _ (by have := ho2; exact (by repeat (first | with_reducible assumption | with_reducible apply own_alloc | with_reducible apply own_drew | with_reducible apply own_drewN | (with_reducible refine own_setp (by assumption) ?_ ?_; (first | omega | (simp <;> omega))) | (with_reducible refine own_call (by assumption) ?_)))) (by have := he2; exact (by repeat (first | with_reducible assumption | with_reducible apply own_alloc | with_reducible apply own_drew | with_reducible apply own_drewN | (with_reducible refine own_setp (by assumption) ?_ ?_; (first | omega | (simp <;> omega))) | (with_reducible refine own_call (by assumption) ?_))))).mono ?_
      rintro e v3 ⟨rfl, hc3⟩
      have hz3 := hc3.size
      (try simp at hz3)
      have hP3 : Blk v3 (v2.heap.size) 36 #[.int .i64 0, .int .i64 0, .int .i64 0] := Blk.call (by (repeat (first | with_reducible assumption | (with_reducible apply Blk.new_at; (first | rfl | (simp; done))) | with_reducible apply Blk.store3 | with_reducible apply Blk.store4 | (with_reducible apply Blk.farp; (first | omega | (simp <;> omega))) | with_reducible apply Blk.allocp | with_reducible apply Blk.drew | with_reducible apply Blk.drewN))) hc3
      have cP3 := hP3.cell; have fP3 := hP3.frozen; have lP3 := hP3.lt; have mP3 := Nat.ne_of_gt lP3; have nP3 := Nat.ne_of_lt lP3
      have ho3 := own_call hc3 (by have := ho2; exact (by repeat (first | with_reducible assumption | with_reducible apply own_alloc | with_reducible apply own_drew | with_reducible apply own_drewN | (with_reducible refine own_setp (by assumption) ?_ ?_; (first | omega | (simp <;> omega))) | (with_reducible refine own_call (by assumption) ?_))))
      have he3 := own_call hc3 (by have := he2; exact (by repeat (first | with_reducible assumption | with_reducible apply own_alloc | with_reducible apply own_drew | with_reducible apply own_drewN | (with_reducible refine own_setp (by assumption) ?_ ?_; (first | omega | (simp <;> omega))) | (with_reducible refine own_call (by assumption) ?_))))
      have hb3 : Below w.heap.size w v3 := (by repeat (first | with_reducible exact Below.refl _ _ | with_reducible assumption | with_reducible apply Below.drew | with_reducible apply below_drewN | (with_reducible apply below_setp; (first | omega | (simp <;> omega))) | (with_reducible apply below_allocp; (first | omega | (simp <;> omega))) | (with_reducible refine below_viap (by assumption) ?_ ?_; (first | omega | (simp <;> omega)))))
      clear ho2 he2
      clear HI HS
      go_wp2_with fail
      refine (drawLr_any es _ w.heap.size _ (HE.out _ (by repeat (first | with_reducible exact Below.refl _ _ | with_reducible assumption | with_reducible apply Below.drew | with_reducible apply below_drewN | (with_reducible apply below_setp; (first | omega | (simp <;> omega))) | (with_reducible apply below_allocp; (first | omega | (simp <;> omega))) | (with_reducible refine below_viap (by assumption) ?_ ?_; (first | omega | (simp <;> omega)))))) (by first | omega | (simp <;> omega))).mono ?_
      rintro e v4 ⟨g, Z2, vz2, rfl, hy4, hZ2, hc4⟩
      have hz4 := hc4.size
      (try simp at hz4)
      have hb4 : Below w.heap.size w v4 := (by repeat (first | with_reducible exact Below.refl _ _ | with_reducible assumption | with_reducible apply Below.drew | with_reducible apply below_drewN | (with_reducible apply below_setp; (first | omega | (simp <;> omega))) | (with_reducible apply below_allocp; (first | omega | (simp <;> omega))) | (with_reducible refine below_viap (by assumption) ?_ ?_; (first | omega | (simp <;> omega)))))
      obtain ⟨by_, cy, rfl⟩ := own_shape hy4
      obtain ⟨T, ok3, hlr, hTl⟩ := lrP_ex g Z2
      have HU := Lib.hid (fun (w : World) v B h => implLr_any g v B Z2 T ok3 w (by omega) hlr h)
      have HV := Lib.hid (fun (w : World) v B h => specLr_any g v B Z2 T ok3 w (by omega) hlr h)
      rcases hlr with ⟨ho, hT, rfl⟩ | ⟨ho, rfl⟩
      · subst hT
        clear ho
        go_wp2_with fail
        refine (HU.out _ _ _ hy4).mono ?_
        rintro e v5 ⟨vl, rfl, hl5, hc5⟩
        have hz5 := hc5.size
        (try simp at hz5)
        have hy5 := own_call hc5 hy4
        have hb5 : Below w.heap.size w v5 := (by repeat (first | with_reducible exact Below.refl _ _ | with_reducible assumption | with_reducible apply Below.drew | with_reducible apply below_drewN | (with_reducible apply below_setp; (first | omega | (simp <;> omega))) | (with_reducible apply below_allocp; (first | omega | (simp <;> omega))) | (with_reducible refine below_viap (by assumption) ?_ ?_; (first | omega | (simp <;> omega)))))
        clear hy4
        go_wp2_with fail
        refine (HV.out _ _ _ hy5).mono ?_
        rintro e v6 ⟨vm, rfl, hm6, hc6⟩
        have hz6 := hc6.size
        (try simp at hz6)
        have hy6 := own_call hc6 hy5
        have hl6 := own_call hc6 hl5
        have hb6 : Below w.heap.size w v6 := (by repeat (first | with_reducible exact Below.refl _ _ | with_reducible assumption | with_reducible apply Below.drew | with_reducible apply below_drewN | (with_reducible apply below_setp; (first | omega | (simp <;> omega))) | (with_reducible apply below_allocp; (first | omega | (simp <;> omega))) | (with_reducible refine below_viap (by assumption) ?_ ?_; (first | omega | (simp <;> omega)))))
        clear hy5 hl5
        go_wp2_with fail
        refine (sameInts_same vl vm _ _ [] _ (by first | omega | (simp <;> omega)) hl6 hm6).mono ?_
        rintro e v7 ⟨rfl, hc7⟩
        have hz7 := hc7.size
        (try simp at hz7)
        have hy7 := own_call hc7 hy6
        have hl7 := own_call hc7 hl6
        have hm7 := own_call hc7 hm6
        have hb7 : Below w.heap.size w v7 := (by repeat (first | with_reducible exact Below.refl _ _ | with_reducible assumption | with_reducible apply Below.drew | with_reducible apply below_drewN | (with_reducible apply below_setp; (first | omega | (simp <;> omega))) | (with_reducible apply below_allocp; (first | omega | (simp <;> omega))) | (with_reducible refine below_viap (by assumption) ?_ ?_; (first | omega | (simp <;> omega)))))
        clear hy6 hl6 hm6
        go_wp2
        go_ret
        exact ⟨rfl, (by repeat (first | with_reducible exact Below.refl _ _ | with_reducible assumption | with_reducible apply Below.drew | with_reducible apply below_drewN | (with_reducible apply below_setp; (first | omega | (simp <;> omega))) | (with_reducible apply below_allocp; (first | omega | (simp <;> omega))) | (with_reducible refine below_viap (by assumption) ?_ ?_; (first | omega | (simp <;> omega)))))⟩
      · obtain ⟨z, f, hrow⟩ := lr_row ho
        have D := dsc_of hrow.ds
        have cf1 := CF.of_mem D D.one
        have cf2 := prF_cf hrow.pr
        have HW := Lib.hid (fun (w : World) v u B B2 h h2 => implRc_any g Z2 T v u B B2 w (by omega) (by have := hrow.bd.2; omega) (fun e he => by have := hrow.bd.1 e he; omega) h h2)
        rw [hrow.cl] at HW
        dsimp only [pfV, Option.isSome_some, Option.getD_some] at HW
        have HI := Lib.hid (fun w => isIdC_any _ _ _ _ g w (cls_isCls D D.one) cf1)
        rw [(fmEq_iff _ _).2 rfl] at HI
        have HP := Lib.hid (fun w => primeC_any g z f w hrow.pr)
        have HO := Lib.hid (fun w => ordC_any _ _ _ _ g w (cls_isCls D cf2.mem) (CF.of_mem D cf2.mem))
        have HQ := Lib.hid (fun (w : World) v B h => qSum_any v B T w hrow.bd.2 hrow.bd.1 h)
        have hlo := hrow.lo
        have hhi := hrow.hi
        have hpos := hrow.pos
        have hfst := hrow.fst hpos
        clear ho hrow D cf1 cf2
        generalize oneF g = o at *
        generalize red f = r at *
        generalize ordF g r = N at *
        generalize T.sum = s at *
        go_wp2_with fail
        refine (HU.out _ _ _ hy4).mono ?_
        rintro e v5 ⟨vl, rfl, hl5, hc5⟩
        have hz5 := hc5.size
        (try simp at hz5)
        have hy5 := own_call hc5 hy4
        have hb5 : Below w.heap.size w v5 := (by repeat (first | with_reducible exact Below.refl _ _ | with_reducible assumption | with_reducible apply Below.drew | with_reducible apply below_drewN | (with_reducible apply below_setp; (first | omega | (simp <;> omega))) | (with_reducible apply below_allocp; (first | omega | (simp <;> omega))) | (with_reducible refine below_viap (by assumption) ?_ ?_; (first | omega | (simp <;> omega)))))
        clear hy4
        go_wp2_with fail
        refine (HV.out _ _ _ hy5).mono ?_
        rintro e v6 ⟨vm, rfl, hm6, hc6⟩
        have hz6 := hc6.size
        (try simp at hz6)
        have hy6 := own_call hc6 hy5
        have hl6 := own_call hc6 hl5
        have hb6 : Below w.heap.size w v6 := (by repeat (first | with_reducible exact Below.refl _ _ | with_reducible assumption | with_reducible apply Below.drew | with_reducible apply below_drewN | (with_reducible apply below_setp; (first | omega | (simp <;> omega))) | (with_reducible apply below_allocp; (first | omega | (simp <;> omega))) | (with_reducible refine below_viap (by assumption) ?_ ?_; (first | omega | (simp <;> omega)))))
        clear hy5 hl5
        go_wp2_with fail
        refine (sameInts_same vl vm _ _ T _ (by first | omega | (simp <;> omega)) hl6 hm6).mono ?_
        rintro e v7 ⟨rfl, hc7⟩
        have hz7 := hc7.size
        (try simp at hz7)
        have hy7 := own_call hc7 hy6
        have hl7 := own_call hc7 hl6
        have hm7 := own_call hc7 hm6
        have hb7 : Below w.heap.size w v7 := (by repeat (first | with_reducible exact Below.refl _ _ | with_reducible assumption | with_reducible apply Below.drew | with_reducible apply below_drewN | (with_reducible apply below_setp; (first | omega | (simp <;> omega))) | (with_reducible apply below_allocp; (first | omega | (simp <;> omega))) | (with_reducible refine below_viap (by assumption) ?_ ?_; (first | omega | (simp <;> omega)))))
        clear hy6 hl6 hm6
        go_wp2_with fail
        refine (HW.out _ _ _ _ _ hy7 hl7).mono ?_
        rintro e v8 ⟨rfl, hc8⟩
        have hz8 := hc8.size
        (try simp at hz8)
        have hy8 := own_call hc8 hy7
        have hl8 := own_call hc8 hl7
        have hb8 : Below w.heap.size w v8 := (by repeat (first | with_reducible exact Below.refl _ _ | with_reducible assumption | with_reducible apply Below.drew | with_reducible apply below_drewN | (with_reducible apply below_setp; (first | omega | (simp <;> omega))) | (with_reducible apply below_allocp; (first | omega | (simp <;> omega))) | (with_reducible refine below_viap (by assumption) ?_ ?_; (first | omega | (simp <;> omega)))))
        clear hy7 hl7
        go_wp2_with fail
        refine (HI.out _).mono ?_
        rintro e v9 ⟨rfl, hc9⟩
        have hz9 := hc9.size
        (try simp at hz9)
        have hO9 : Blk v9 (v8.heap.size) 36 #[.int .i64 o.a, .int .i64 o.b, .int .i64 o.c] := Blk.call (by (repeat (first | with_reducible assumption | (with_reducible apply Blk.new_at; (first | rfl | (simp; done))) | with_reducible apply Blk.store3 | with_reducible apply Blk.store4 | (with_reducible apply Blk.farp; (first | omega | (simp <;> omega))) | with_reducible apply Blk.allocp | with_reducible apply Blk.drew | with_reducible apply Blk.drewN))) hc9
        have cO9 := hO9.cell; have fO9 := hO9.frozen; have lO9 := hO9.lt; have mO9 := Nat.ne_of_gt lO9; have nO9 := Nat.ne_of_lt lO9
        have hy9 := own_call hc9 (by have := hy8; exact (by repeat (first | with_reducible assumption | with_reducible apply own_alloc | with_reducible apply own_drew | with_reducible apply own_drewN | (with_reducible refine own_setp (by assumption) ?_ ?_; (first | omega | (simp <;> omega))) | (with_reducible refine own_call (by assumption) ?_))))
        have hl9 := own_call hc9 (by have := hl8; exact (by repeat (first | with_reducible assumption | with_reducible apply own_alloc | with_reducible apply own_drew | with_reducible apply own_drewN | (with_reducible refine own_setp (by assumption) ?_ ?_; (first | omega | (simp <;> omega))) | (with_reducible refine own_call (by assumption) ?_))))
        have hb9 : Below w.heap.size w v9 := (by repeat (first | with_reducible exact Below.refl _ _ | with_reducible assumption | with_reducible apply Below.drew | with_reducible apply below_drewN | (with_reducible apply below_setp; (first | omega | (simp <;> omega))) | (with_reducible apply below_allocp; (first | omega | (simp <;> omega))) | (with_reducible refine below_viap (by assumption) ?_ ?_; (first | omega | (simp <;> omega)))))
        clear hy8 hl8
        obtain ⟨g1, rfl, lg, dd⟩ := own_elemI hy9 hpos
        rw [hfst] at dd
        go_wp2_with fail
        refine (HP.out _).mono ?_
        rintro e v10 ⟨rfl, hc10⟩
        have hz10 := hc10.size
        (try simp at hz10)
        have hO10 : Blk v10 (v8.heap.size) 36 #[.int .i64 o.a, .int .i64 o.b, .int .i64 o.c] := Blk.call (by (repeat (first | with_reducible assumption | (with_reducible apply Blk.new_at; (first | rfl | (simp; done))) | with_reducible apply Blk.store3 | with_reducible apply Blk.store4 | (with_reducible apply Blk.farp; (first | omega | (simp <;> omega))) | with_reducible apply Blk.allocp | with_reducible apply Blk.drew | with_reducible apply Blk.drewN))) hc10
        have cO10 := hO10.cell; have fO10 := hO10.frozen; have lO10 := hO10.lt; have mO10 := Nat.ne_of_gt lO10; have nO10 := Nat.ne_of_lt lO10
        have hy10 := own_call hc10 hy9
        have hl10 := own_call hc10 hl9
        have hb10 : Below w.heap.size w v10 := (by repeat (first | with_reducible exact Below.refl _ _ | with_reducible assumption | with_reducible apply Below.drew | with_reducible apply below_drewN | (with_reducible apply below_setp; (first | omega | (simp <;> omega))) | (with_reducible apply below_allocp; (first | omega | (simp <;> omega))) | (with_reducible refine below_viap (by assumption) ?_ ?_; (first | omega | (simp <;> omega)))))
        clear hO9 cO9 fO9 lO9 mO9 nO9 hy9 hl9
        go_wp2_with fail
        refine (HO.out _).mono ?_
        rintro e v11 ⟨rfl, hc11⟩
        have hz11 := hc11.size
        (try simp at hz11)
        have hR11 : Blk v11 (v10.heap.size) 36 #[.int .i64 r.a, .int .i64 r.b, .int .i64 r.c] := Blk.call (by (repeat (first | with_reducible assumption | (with_reducible apply Blk.new_at; (first | rfl | (simp; done))) | with_reducible apply Blk.store3 | with_reducible apply Blk.store4 | (with_reducible apply Blk.farp; (first | omega | (simp <;> omega))) | with_reducible apply Blk.allocp | with_reducible apply Blk.drew | with_reducible apply Blk.drewN))) hc11
        have cR11 := hR11.cell; have fR11 := hR11.frozen; have lR11 := hR11.lt; have mR11 := Nat.ne_of_gt lR11; have nR11 := Nat.ne_of_lt lR11
        have hy11 := own_call hc11 (by have := hy10; exact (by repeat (first | with_reducible assumption | with_reducible apply own_alloc | with_reducible apply own_drew | with_reducible apply own_drewN | (with_reducible refine own_setp (by assumption) ?_ ?_; (first | omega | (simp <;> omega))) | (with_reducible refine own_call (by assumption) ?_))))
        have hl11 := own_call hc11 (by have := hl10; exact (by repeat (first | with_reducible assumption | with_reducible apply own_alloc | with_reducible apply own_drew | with_reducible apply own_drewN | (with_reducible refine own_setp (by assumption) ?_ ?_; (first | omega | (simp <;> omega))) | (with_reducible refine own_call (by assumption) ?_))))
        have hb11 : Below w.heap.size w v11 := (by repeat (first | with_reducible exact Below.refl _ _ | with_reducible assumption | with_reducible apply Below.drew | with_reducible apply below_drewN | (with_reducible apply below_setp; (first | omega | (simp <;> omega))) | (with_reducible apply below_allocp; (first | omega | (simp <;> omega))) | (with_reducible refine below_viap (by assumption) ?_ ?_; (first | omega | (simp <;> omega)))))
        clear hy10 hl10
        have hNN : ((N : Nat) : Int) = ((N : Nat) : Int) := rfl
        go_wp2_with (go_at_call 32; refine (HQ.out _ _ _ (by first | exact hl11 | exact (by repeat (first | with_reducible assumption | with_reducible apply own_alloc | with_reducible apply own_drew | with_reducible apply own_drewN | (with_reducible refine own_setp (by assumption) ?_ ?_; (first | omega | (simp <;> omega))) | (with_reducible refine own_call (by assumption) ?_))))).mono ?_; rintro e vq ⟨rfl, rfl⟩)
        go_ret
        exact ⟨rfl, (by repeat (first | with_reducible exact Below.refl _ _ | with_reducible assumption | with_reducible apply Below.drew | with_reducible apply below_drewN | (with_reducible apply below_setp; (first | omega | (simp <;> omega))) | (with_reducible apply below_allocp; (first | omega | (simp <;> omega))) | (with_reducible refine below_viap (by assumption) ?_ ?_; (first | omega | (simp <;> omega)))))⟩
    | some p =>
      rw [hrc] at HI HS
      dsimp only [pfV, Option.isSome_some, Option.getD_some] at HI HS
      have hrow := rc_row hrc
      have D := dsc_of hrow.ds
      have HF := Lib.hid (fun w => invF_any d p w D hrow.mem)
      have HM := Lib.hid (fun (w : World) v u B B2 h h2 => implRc_any d Z (E.map fun x => -x) v u B B2 w (by omega) (by rw [List.length_map]; omega) (fun e he => by obtain ⟨x, hx, rfl⟩ := List.mem_map.1 he; have := hrow.bd x hx; omega) h h2)
      rw [hrow.neg] at HM
      dsimp only [pfV, Option.isSome_some, Option.getD_some] at HM
      obtain ⟨n, hn, n1, n2, n3⟩ := hrow.size
      have HK := Lib.hid (fun (w : World) v B h => implRz_any d Z v B w (by omega) h)
      rw [hn] at HK
      dsimp only [Option.isSome_some, Option.getD_some] at HK
      have HC := Lib.hid (fun w => implCN_any d (clsL d).length true w (.inr ⟨hrow.ds, rfl, rfl⟩))
      have hE1 := Lib.hid hrow.bd
      have hmd : ((clsL d).length : Int).tmod n = 0 := by
        rw [Int.tmod_eq_emod_of_nonneg (by omega)]
        exact Int.emod_eq_zero_of_dvd (Int.natCast_dvd_natCast.2 n3)
      have hn1 : ¬ (n : Int) < 1 := by omega
      have hn0 : ¬ (n : Int) = 0 := by omega
      have hlc := clsL_lo D.lo
      clear hrc hrow D n3 hn
      generalize (clsL d).length = h at *
      generalize red (oppF p) = q at *
      go_wp2_with fail
      refine (HI.out _ _ _ _ _ ho1 he1).mono ?_
      rintro e v2 ⟨rfl, hc2⟩
      have hz2 := hc2.size
      (try simp at hz2)
      have ho2 := own_call hc2 ho1
      have he2 := own_call hc2 he1
      have hb2 : Below w.heap.size w v2 := (by repeat (first | with_reducible exact Below.refl _ _ | with_reducible assumption | with_reducible apply Below.drew | with_reducible apply below_drewN | (with_reducible apply below_setp; (first | omega | (simp <;> omega))) | (with_reducible apply below_allocp; (first | omega | (simp <;> omega))) | (with_reducible refine below_viap (by assumption) ?_ ?_; (first | omega | (simp <;> omega)))))
      clear ho1 he1
      go_wp2_with fail
      refine (HS.out _ _ _ _ _ (by have := ho2; exact (by repeat (first | with_reducible assumption | with_reducible apply own_alloc | with_reducible apply own_drew | with_reducible apply own_drewN | (with_reducible refine own_setp (by assumption) ?_ ?_; (first | omega | (simp <;> omega))) | (with_reducible refine own_call (by assumption) ?_)))) (by have := he2; exact (by repeat (first | with_reducible assumption | with_reducible apply own_alloc | with_reducible apply own_drew | with_reducible apply own_drewN | (with_reducible refine own_setp (by assumption) ?_ ?_; (first | omega | (simp <;> omega))) | (with_reducible refine own_call (by assumption) ?_))))).mono ?_
      rintro e v3 ⟨rfl, hc3⟩
      have hz3 := hc3.size
      (try simp at hz3)
      have hP3 : Blk v3 (v2.heap.size) 36 #[.int .i64 p.a, .int .i64 p.b, .int .i64 p.c] := Blk.call (by (repeat (first | with_reducible assumption | (with_reducible apply Blk.new_at; (first | rfl | (simp; done))) | with_reducible apply Blk.store3 | with_reducible apply Blk.store4 | (with_reducible apply Blk.farp; (first | omega | (simp <;> omega))) | with_reducible apply Blk.allocp | with_reducible apply Blk.drew | with_reducible apply Blk.drewN))) hc3
      have cP3 := hP3.cell; have fP3 := hP3.frozen; have lP3 := hP3.lt; have mP3 := Nat.ne_of_gt lP3; have nP3 := Nat.ne_of_lt lP3
      have ho3 := own_call hc3 (by have := ho2; exact (by repeat (first | with_reducible assumption | with_reducible apply own_alloc | with_reducible apply own_drew | with_reducible apply own_drewN | (with_reducible refine own_setp (by assumption) ?_ ?_; (first | omega | (simp <;> omega))) | (with_reducible refine own_call (by assumption) ?_))))
      have he3 := own_call hc3 (by have := he2; exact (by repeat (first | with_reducible assumption | with_reducible apply own_alloc | with_reducible apply own_drew | with_reducible apply own_drewN | (with_reducible refine own_setp (by assumption) ?_ ?_; (first | omega | (simp <;> omega))) | (with_reducible refine own_call (by assumption) ?_))))
      have hb3 : Below w.heap.size w v3 := (by repeat (first | with_reducible exact Below.refl _ _ | with_reducible assumption | with_reducible apply Below.drew | with_reducible apply below_drewN | (with_reducible apply below_setp; (first | omega | (simp <;> omega))) | (with_reducible apply below_allocp; (first | omega | (simp <;> omega))) | (with_reducible refine below_viap (by assumption) ?_ ?_; (first | omega | (simp <;> omega)))))
      clear ho2 he2
      have He := Lib.hid he3
      have Ho := Lib.hid ho3
      clear HI HS
      go_wp2
      go_loopw [12, 71] (fun vm vi wr => MnSt E v3 vm vi wr) (fun _ vi _ => E.length - (intOf vi).toNat)
      case atStart => exact ⟨0, rfl, Nat.zero_le _, World.ownsRow_nil _ _ _ _, (by repeat (first | with_reducible exact Below.refl _ _ | with_reducible assumption | with_reducible apply Below.drew | with_reducible apply below_drewN | (with_reducible apply below_setp; (first | omega | (simp <;> omega))) | (with_reducible apply below_allocp; (first | omega | (simp <;> omega))) | (with_reducible refine below_viap (by assumption) ?_ ?_; (first | omega | (simp <;> omega)))))⟩
      case round =>
        obtain ⟨k, rfl, hk, hown, hbel⟩ := hrel
        have hzr := hbel.size
        (try simp at hzr)
        have hPr : Blk wr v2.heap.size 36 #[.int .i64 p.a, .int .i64 p.b, .int .i64 p.c] := Blk.call (by (repeat (first | with_reducible assumption | (with_reducible apply Blk.new_at; (first | rfl | (simp; done))) | with_reducible apply Blk.store3 | with_reducible apply Blk.store4 | (with_reducible apply Blk.farp; (first | omega | (simp <;> omega))) | with_reducible apply Blk.allocp | with_reducible apply Blk.drew | with_reducible apply Blk.drewN))) hbel
        by_cases hlt : k < E.length
        · obtain ⟨g, rfl, lg, d1⟩ := own_elemI (own_call hbel (by have := He.out; exact (by repeat (first | with_reducible assumption | with_reducible apply own_alloc | with_reducible apply own_drew | with_reducible apply own_drewN | (with_reducible refine own_setp (by assumption) ?_ ?_; (first | omega | (simp <;> omega))) | (with_reducible refine own_call (by assumption) ?_))))) hlt
          have hx := hE1.out _ (List.getElem_mem hlt)
          have hsn : (E.take (k + 1)).map (fun x => -x) = (E.take k).map (fun x => -x) ++ [-E[k]] := by rw [List.take_succ_eq_append_getElem hlt, List.map_append]; rfl
          have Hsn := Lib.hid hsn
          clear hsn
          generalize E[k] = x at d1 hx Hsn
          have hw : wrap64 (-x) = -x := IntWalk.wrap64_in _ (by omega)
          have hMl : ((E.take k).map fun x => -x).length ≤ 8 := by rw [List.length_map, List.length_take]; omega
          generalize (E.take k).map (fun x => -x) = M at *
          go_wp2_with (at_builtin; refine wpList_append_own _ rfl (.tmp 75) (.tmp 78) 32 rfl _ 3 i0 _ 1 8 Tryz.underlying32 hi hz0 hz1i hz2i rfl (by decide) u12 M.length (cellsI M) rfl (own_alloc hown) ⟨wr.heap.size, 0, none⟩ 1 1 [.int .i64 (-x)] rfl rfl ?_ (one1 _) ?_ ?_ ?_ ?_; exact cells1 (Blk.new_at (by simp)); (unfold maxLen; omega); omega; (simp; omega); intro v7 w7 hown7 hg7 _)
          have hge := own_ge hown
          have ho7 := own_snocI (L := M) (K := M ++ [-x]) rfl hown7
          have hb7 := below_grown (own_ge hown) (by simp <;> omega) hg7 (hbel.alloc (by omega) (.cells #[.int .i64 (-x)] 3))
          clear hPr
          go_wp2
          go_roundw
          case rel => exact ⟨k + 1, by simp, hlt, by rw [Hsn.out]; exact ho7, hb7⟩
          case measure => simp [intOf]; omega
        · obtain rfl : k = E.length := by omega
          rw [List.take_length] at hown
          obtain ⟨vr, hvr⟩ : ∃ vr, wr = vr := ⟨_, rfl⟩
          subst hvr
          have hb4 : Below w.heap.size w wr := (by repeat (first | with_reducible exact Below.refl _ _ | with_reducible assumption | with_reducible apply Below.drew | with_reducible apply below_drewN | (with_reducible apply below_setp; (first | omega | (simp <;> omega))) | (with_reducible apply below_allocp; (first | omega | (simp <;> omega))) | (with_reducible refine below_viap (by assumption) ?_ ?_; (first | omega | (simp <;> omega)))))
          have ho4 := own_call (w' := wr) hbel (by have := Ho.out; exact (by repeat (first | with_reducible assumption | with_reducible apply own_alloc | with_reducible apply own_drew | with_reducible apply own_drewN | (with_reducible refine own_setp (by assumption) ?_ ?_; (first | omega | (simp <;> omega))) | (with_reducible refine own_call (by assumption) ?_))))
          clear hbel Ho He
          have cPr := hPr.cell; have fPr := hPr.frozen; have lPr := hPr.lt; have mPr := Nat.ne_of_gt lPr; have nPr := Nat.ne_of_lt lPr
          go_wp2_with fail
          refine (HM.out _ _ _ _ _ ho4 hown).mono ?_
          rintro e v5 ⟨rfl, hc5⟩
          have hz5 := hc5.size
          (try simp at hz5)
          have hP5 : Blk v5 v2.heap.size 36 #[.int .i64 p.a, .int .i64 p.b, .int .i64 p.c] := hPr.call hc5
          have cP5 := hP5.cell; have fP5 := hP5.frozen; have lP5 := hP5.lt; have mP5 := Nat.ne_of_gt lP5; have nP5 := Nat.ne_of_lt lP5
          have ho5 := own_call hc5 ho4
          have hb5 : Below w.heap.size w v5 := (by repeat (first | with_reducible exact Below.refl _ _ | with_reducible assumption | with_reducible apply Below.drew | with_reducible apply below_drewN | (with_reducible apply below_setp; (first | omega | (simp <;> omega))) | (with_reducible apply below_allocp; (first | omega | (simp <;> omega))) | (with_reducible refine below_viap (by assumption) ?_ ?_; (first | omega | (simp <;> omega)))))
          clear hPr cPr fPr lPr mPr nPr ho4 hown
          go_wp2_with fail
          refine (HF.out _).mono ?_
          rintro e v6 ⟨rfl, hc6⟩
          have hz6 := hc6.size
          (try simp at hz6)
          have hP6 : Blk v6 (v2.heap.size) 36 #[.int .i64 p.a, .int .i64 p.b, .int .i64 p.c] := Blk.call (by (repeat (first | with_reducible assumption | (with_reducible apply Blk.new_at; (first | rfl | (simp; done))) | with_reducible apply Blk.store3 | with_reducible apply Blk.store4 | (with_reducible apply Blk.farp; (first | omega | (simp <;> omega))) | with_reducible apply Blk.allocp | with_reducible apply Blk.drew | with_reducible apply Blk.drewN))) hc6
          have cP6 := hP6.cell; have fP6 := hP6.frozen; have lP6 := hP6.lt; have mP6 := Nat.ne_of_gt lP6; have nP6 := Nat.ne_of_lt lP6
          have hQ6 : Blk v6 (v5.heap.size) 36 #[.int .i64 q.a, .int .i64 q.b, .int .i64 q.c] := Blk.call (by (repeat (first | with_reducible assumption | (with_reducible apply Blk.new_at; (first | rfl | (simp; done))) | with_reducible apply Blk.store3 | with_reducible apply Blk.store4 | (with_reducible apply Blk.farp; (first | omega | (simp <;> omega))) | with_reducible apply Blk.allocp | with_reducible apply Blk.drew | with_reducible apply Blk.drewN))) hc6
          have cQ6 := hQ6.cell; have fQ6 := hQ6.frozen; have lQ6 := hQ6.lt; have mQ6 := Nat.ne_of_gt lQ6; have nQ6 := Nat.ne_of_lt lQ6
          have ho6 := own_call hc6 (by have := ho5; exact (by repeat (first | with_reducible assumption | with_reducible apply own_alloc | with_reducible apply own_drew | with_reducible apply own_drewN | (with_reducible refine own_setp (by assumption) ?_ ?_; (first | omega | (simp <;> omega))) | (with_reducible refine own_call (by assumption) ?_))))
          have hb6 : Below w.heap.size w v6 := (by repeat (first | with_reducible exact Below.refl _ _ | with_reducible assumption | with_reducible apply Below.drew | with_reducible apply below_drewN | (with_reducible apply below_setp; (first | omega | (simp <;> omega))) | (with_reducible apply below_allocp; (first | omega | (simp <;> omega))) | (with_reducible refine below_viap (by assumption) ?_ ?_; (first | omega | (simp <;> omega)))))
          clear hP5 cP5 fP5 lP5 mP5 nP5 ho5
          go_wp2_with fail
          refine (HK.out _ _ _ (by have := ho6; exact (by repeat (first | with_reducible assumption | with_reducible apply own_alloc | with_reducible apply own_drew | with_reducible apply own_drewN | (with_reducible refine own_setp (by assumption) ?_ ?_; (first | omega | (simp <;> omega))) | (with_reducible refine own_call (by assumption) ?_))))).mono ?_
          rintro e v7 ⟨rfl, hc7⟩
          have hz7 := hc7.size
          (try simp at hz7)
          have hQ7 : Blk v7 (v5.heap.size) 36 #[.int .i64 q.a, .int .i64 q.b, .int .i64 q.c] := Blk.call (by (repeat (first | with_reducible assumption | (with_reducible apply Blk.new_at; (first | rfl | (simp; done))) | with_reducible apply Blk.store3 | with_reducible apply Blk.store4 | (with_reducible apply Blk.farp; (first | omega | (simp <;> omega))) | with_reducible apply Blk.allocp | with_reducible apply Blk.drew | with_reducible apply Blk.drewN))) hc7
          have cQ7 := hQ7.cell; have fQ7 := hQ7.frozen; have lQ7 := hQ7.lt; have mQ7 := Nat.ne_of_gt lQ7; have nQ7 := Nat.ne_of_lt lQ7
          have hT7 : Blk v7 (v6.heap.size) 36 #[.int .i64 q.a, .int .i64 q.b, .int .i64 q.c] := Blk.call (by (repeat (first | with_reducible assumption | (with_reducible apply Blk.new_at; (first | rfl | (simp; done))) | with_reducible apply Blk.store3 | with_reducible apply Blk.store4 | (with_reducible apply Blk.farp; (first | omega | (simp <;> omega))) | with_reducible apply Blk.allocp | with_reducible apply Blk.drew | with_reducible apply Blk.drewN))) hc7
          have cT7 := hT7.cell; have fT7 := hT7.frozen; have lT7 := hT7.lt; have mT7 := Nat.ne_of_gt lT7; have nT7 := Nat.ne_of_lt lT7
          have ho7 := own_call hc7 (by have := ho6; exact (by repeat (first | with_reducible assumption | with_reducible apply own_alloc | with_reducible apply own_drew | with_reducible apply own_drewN | (with_reducible refine own_setp (by assumption) ?_ ?_; (first | omega | (simp <;> omega))) | (with_reducible refine own_call (by assumption) ?_))))
          have hb7 : Below w.heap.size w v7 := (by repeat (first | with_reducible exact Below.refl _ _ | with_reducible assumption | with_reducible apply Below.drew | with_reducible apply below_drewN | (with_reducible apply below_setp; (first | omega | (simp <;> omega))) | (with_reducible apply below_allocp; (first | omega | (simp <;> omega))) | (with_reducible refine below_viap (by assumption) ?_ ?_; (first | omega | (simp <;> omega)))))
          clear hQ6 cQ6 fQ6 lQ6 mQ6 nQ6 ho6
          go_wp2_with fail
          refine (HC.out _).mono ?_
          rintro e v8 ⟨rfl, hc8⟩
          have hz8 := hc8.size
          (try simp at hz8)
          have hQ8 : Blk v8 (v5.heap.size) 36 #[.int .i64 q.a, .int .i64 q.b, .int .i64 q.c] := Blk.call (by (repeat (first | with_reducible assumption | (with_reducible apply Blk.new_at; (first | rfl | (simp; done))) | with_reducible apply Blk.store3 | with_reducible apply Blk.store4 | (with_reducible apply Blk.farp; (first | omega | (simp <;> omega))) | with_reducible apply Blk.allocp | with_reducible apply Blk.drew | with_reducible apply Blk.drewN))) hc8
          have cQ8 := hQ8.cell; have fQ8 := hQ8.frozen; have lQ8 := hQ8.lt; have mQ8 := Nat.ne_of_gt lQ8; have nQ8 := Nat.ne_of_lt lQ8
          have hT8 : Blk v8 (v6.heap.size) 36 #[.int .i64 q.a, .int .i64 q.b, .int .i64 q.c] := Blk.call (by (repeat (first | with_reducible assumption | (with_reducible apply Blk.new_at; (first | rfl | (simp; done))) | with_reducible apply Blk.store3 | with_reducible apply Blk.store4 | (with_reducible apply Blk.farp; (first | omega | (simp <;> omega))) | with_reducible apply Blk.allocp | with_reducible apply Blk.drew | with_reducible apply Blk.drewN))) hc8
          have cT8 := hT8.cell; have fT8 := hT8.frozen; have lT8 := hT8.lt; have mT8 := Nat.ne_of_gt lT8; have nT8 := Nat.ne_of_lt lT8
          have ho8 := own_call hc8 ho7
          have hb8 : Below w.heap.size w v8 := (by repeat (first | with_reducible exact Below.refl _ _ | with_reducible assumption | with_reducible apply Below.drew | with_reducible apply below_drewN | (with_reducible apply below_setp; (first | omega | (simp <;> omega))) | (with_reducible apply below_allocp; (first | omega | (simp <;> omega))) | (with_reducible refine below_viap (by assumption) ?_ ?_; (first | omega | (simp <;> omega)))))
          clear hQ7 cQ7 fQ7 lQ7 mQ7 nQ7 hT7 cT7 fT7 lT7 mT7 nT7 ho7
          clear HF HM HK HC
          go_wp2_with fail
          refine (drawLr_any es _ w.heap.size _ (HE.out _ (by repeat (first | with_reducible exact Below.refl _ _ | with_reducible assumption | with_reducible apply Below.drew | with_reducible apply below_drewN | (with_reducible apply below_setp; (first | omega | (simp <;> omega))) | (with_reducible apply below_allocp; (first | omega | (simp <;> omega))) | (with_reducible refine below_viap (by assumption) ?_ ?_; (first | omega | (simp <;> omega)))))) (by first | omega | (simp <;> omega))).mono ?_
          rintro e v9 ⟨g, Z2, vz2, rfl, hy9, hZ2, hc9⟩
          have hz9 := hc9.size
          (try simp at hz9)
          have hb9 : Below w.heap.size w v9 := (by repeat (first | with_reducible exact Below.refl _ _ | with_reducible assumption | with_reducible apply Below.drew | with_reducible apply below_drewN | (with_reducible apply below_setp; (first | omega | (simp <;> omega))) | (with_reducible apply below_allocp; (first | omega | (simp <;> omega))) | (with_reducible refine below_viap (by assumption) ?_ ?_; (first | omega | (simp <;> omega)))))
          obtain ⟨by_, cy, rfl⟩ := own_shape hy9
          obtain ⟨T, ok3, hlr, hTl⟩ := lrP_ex g Z2
          have HU := Lib.hid (fun (w : World) v B h => implLr_any g v B Z2 T ok3 w (by omega) hlr h)
          have HV := Lib.hid (fun (w : World) v B h => specLr_any g v B Z2 T ok3 w (by omega) hlr h)
          rcases hlr with ⟨ho, hT, rfl⟩ | ⟨ho, rfl⟩
          · subst hT
            clear ho
            go_wp2_with fail
            refine (HU.out _ _ _ hy9).mono ?_
            rintro e v10 ⟨vl, rfl, hl10, hc10⟩
            have hz10 := hc10.size
            (try simp at hz10)
            have hy10 := own_call hc10 hy9
            have hb10 : Below w.heap.size w v10 := (by repeat (first | with_reducible exact Below.refl _ _ | with_reducible assumption | with_reducible apply Below.drew | with_reducible apply below_drewN | (with_reducible apply below_setp; (first | omega | (simp <;> omega))) | (with_reducible apply below_allocp; (first | omega | (simp <;> omega))) | (with_reducible refine below_viap (by assumption) ?_ ?_; (first | omega | (simp <;> omega)))))
            clear hy9
            go_wp2_with fail
            refine (HV.out _ _ _ hy10).mono ?_
            rintro e v11 ⟨vm, rfl, hm11, hc11⟩
            have hz11 := hc11.size
            (try simp at hz11)
            have hy11 := own_call hc11 hy10
            have hl11 := own_call hc11 hl10
            have hb11 : Below w.heap.size w v11 := (by repeat (first | with_reducible exact Below.refl _ _ | with_reducible assumption | with_reducible apply Below.drew | with_reducible apply below_drewN | (with_reducible apply below_setp; (first | omega | (simp <;> omega))) | (with_reducible apply below_allocp; (first | omega | (simp <;> omega))) | (with_reducible refine below_viap (by assumption) ?_ ?_; (first | omega | (simp <;> omega)))))
            clear hy10 hl10
            go_wp2_with fail
            refine (sameInts_same vl vm _ _ [] _ (by first | omega | (simp <;> omega)) hl11 hm11).mono ?_
            rintro e v12 ⟨rfl, hc12⟩
            have hz12 := hc12.size
            (try simp at hz12)
            have hy12 := own_call hc12 hy11
            have hl12 := own_call hc12 hl11
            have hm12 := own_call hc12 hm11
            have hb12 : Below w.heap.size w v12 := (by repeat (first | with_reducible exact Below.refl _ _ | with_reducible assumption | with_reducible apply Below.drew | with_reducible apply below_drewN | (with_reducible apply below_setp; (first | omega | (simp <;> omega))) | (with_reducible apply below_allocp; (first | omega | (simp <;> omega))) | (with_reducible refine below_viap (by assumption) ?_ ?_; (first | omega | (simp <;> omega)))))
            clear hy11 hl11 hm11
            go_wp2
            go_ret
            exact ⟨rfl, (by repeat (first | with_reducible exact Below.refl _ _ | with_reducible assumption | with_reducible apply Below.drew | with_reducible apply below_drewN | (with_reducible apply below_setp; (first | omega | (simp <;> omega))) | (with_reducible apply below_allocp; (first | omega | (simp <;> omega))) | (with_reducible refine below_viap (by assumption) ?_ ?_; (first | omega | (simp <;> omega)))))⟩
          · obtain ⟨z, f, hrow⟩ := lr_row ho
            have D := dsc_of hrow.ds
            have cf1 := CF.of_mem D D.one
            have cf2 := prF_cf hrow.pr
            have HW := Lib.hid (fun (w : World) v u B B2 h h2 => implRc_any g Z2 T v u B B2 w (by omega) (by have := hrow.bd.2; omega) (fun e he => by have := hrow.bd.1 e he; omega) h h2)
            rw [hrow.cl] at HW
            dsimp only [pfV, Option.isSome_some, Option.getD_some] at HW
            have HI := Lib.hid (fun w => isIdC_any _ _ _ _ g w (cls_isCls D D.one) cf1)
            rw [(fmEq_iff _ _).2 rfl] at HI
            have HP := Lib.hid (fun w => primeC_any g z f w hrow.pr)
            have HO := Lib.hid (fun w => ordC_any _ _ _ _ g w (cls_isCls D cf2.mem) (CF.of_mem D cf2.mem))
            have HQ := Lib.hid (fun (w : World) v B h => qSum_any v B T w hrow.bd.2 hrow.bd.1 h)
            have hlo := hrow.lo
            have hhi := hrow.hi
            have hpos := hrow.pos
            have hfst := hrow.fst hpos
            clear ho hrow D cf1 cf2
            generalize oneF g = o at *
            generalize red f = r at *
            generalize ordF g r = N at *
            generalize T.sum = s at *
            go_wp2_with fail
            refine (HU.out _ _ _ hy9).mono ?_
            rintro e v10 ⟨vl, rfl, hl10, hc10⟩
            have hz10 := hc10.size
            (try simp at hz10)
            have hy10 := own_call hc10 hy9
            have hb10 : Below w.heap.size w v10 := (by repeat (first | with_reducible exact Below.refl _ _ | with_reducible assumption | with_reducible apply Below.drew | with_reducible apply below_drewN | (with_reducible apply below_setp; (first | omega | (simp <;> omega))) | (with_reducible apply below_allocp; (first | omega | (simp <;> omega))) | (with_reducible refine below_viap (by assumption) ?_ ?_; (first | omega | (simp <;> omega)))))
            clear hy9
            go_wp2_with fail
            refine (HV.out _ _ _ hy10).mono ?_
            rintro e v11 ⟨vm, rfl, hm11, hc11⟩
            have hz11 := hc11.size
            (try simp at hz11)
            have hy11 := own_call hc11 hy10
            have hl11 := own_call hc11 hl10
            have hb11 : Below w.heap.size w v11 := (by repeat (first | with_reducible exact Below.refl _ _ | with_reducible assumption | with_reducible apply Below.drew | with_reducible apply below_drewN | (with_reducible apply below_setp; (first | omega | (simp <;> omega))) | (with_reducible apply below_allocp; (first | omega | (simp <;> omega))) | (with_reducible refine below_viap (by assumption) ?_ ?_; (first | omega | (simp <;> omega)))))
            clear hy10 hl10
            go_wp2_with fail
            refine (sameInts_same vl vm _ _ T _ (by first | omega | (simp <;> omega)) hl11 hm11).mono ?_
            rintro e v12 ⟨rfl, hc12⟩
            have hz12 := hc12.size
            (try simp at hz12)
            have hy12 := own_call hc12 hy11
            have hl12 := own_call hc12 hl11
            have hm12 := own_call hc12 hm11
            have hb12 : Below w.heap.size w v12 := (by repeat (first | with_reducible exact Below.refl _ _ | with_reducible assumption | with_reducible apply Below.drew | with_reducible apply below_drewN | (with_reducible apply below_setp; (first | omega | (simp <;> omega))) | (with_reducible apply below_allocp; (first | omega | (simp <;> omega))) | (with_reducible refine below_viap (by assumption) ?_ ?_; (first | omega | (simp <;> omega)))))
            clear hy11 hl11 hm11
            go_wp2_with fail
            refine (HW.out _ _ _ _ _ hy12 hl12).mono ?_
            rintro e v13 ⟨rfl, hc13⟩
            have hz13 := hc13.size
            (try simp at hz13)
            have hy13 := own_call hc13 hy12
            have hl13 := own_call hc13 hl12
            have hb13 : Below w.heap.size w v13 := (by repeat (first | with_reducible exact Below.refl _ _ | with_reducible assumption | with_reducible apply Below.drew | with_reducible apply below_drewN | (with_reducible apply below_setp; (first | omega | (simp <;> omega))) | (with_reducible apply below_allocp; (first | omega | (simp <;> omega))) | (with_reducible refine below_viap (by assumption) ?_ ?_; (first | omega | (simp <;> omega)))))
            clear hy12 hl12
            go_wp2_with fail
            refine (HI.out _).mono ?_
            rintro e v14 ⟨rfl, hc14⟩
            have hz14 := hc14.size
            (try simp at hz14)
            have hO14 : Blk v14 (v13.heap.size) 36 #[.int .i64 o.a, .int .i64 o.b, .int .i64 o.c] := Blk.call (by (repeat (first | with_reducible assumption | (with_reducible apply Blk.new_at; (first | rfl | (simp; done))) | with_reducible apply Blk.store3 | with_reducible apply Blk.store4 | (with_reducible apply Blk.farp; (first | omega | (simp <;> omega))) | with_reducible apply Blk.allocp | with_reducible apply Blk.drew | with_reducible apply Blk.drewN))) hc14
            have cO14 := hO14.cell; have fO14 := hO14.frozen; have lO14 := hO14.lt; have mO14 := Nat.ne_of_gt lO14; have nO14 := Nat.ne_of_lt lO14
            have hy14 := own_call hc14 (by have := hy13; exact (by repeat (first | with_reducible assumption | with_reducible apply own_alloc | with_reducible apply own_drew | with_reducible apply own_drewN | (with_reducible refine own_setp (by assumption) ?_ ?_; (first | omega | (simp <;> omega))) | (with_reducible refine own_call (by assumption) ?_))))
            have hl14 := own_call hc14 (by have := hl13; exact (by repeat (first | with_reducible assumption | with_reducible apply own_alloc | with_reducible apply own_drew | with_reducible apply own_drewN | (with_reducible refine own_setp (by assumption) ?_ ?_; (first | omega | (simp <;> omega))) | (with_reducible refine own_call (by assumption) ?_))))
            have hb14 : Below w.heap.size w v14 := (by repeat (first | with_reducible exact Below.refl _ _ | with_reducible assumption | with_reducible apply Below.drew | with_reducible apply below_drewN | (with_reducible apply below_setp; (first | omega | (simp <;> omega))) | (with_reducible apply below_allocp; (first | omega | (simp <;> omega))) | (with_reducible refine below_viap (by assumption) ?_ ?_; (first | omega | (simp <;> omega)))))
            clear hy13 hl13
            obtain ⟨g1, rfl, lg, dd⟩ := own_elemI hy14 hpos
            rw [hfst] at dd
            go_wp2_with fail
            refine (HP.out _).mono ?_
            rintro e v15 ⟨rfl, hc15⟩
            have hz15 := hc15.size
            (try simp at hz15)
            have hO15 : Blk v15 (v13.heap.size) 36 #[.int .i64 o.a, .int .i64 o.b, .int .i64 o.c] := Blk.call (by (repeat (first | with_reducible assumption | (with_reducible apply Blk.new_at; (first | rfl | (simp; done))) | with_reducible apply Blk.store3 | with_reducible apply Blk.store4 | (with_reducible apply Blk.farp; (first | omega | (simp <;> omega))) | with_reducible apply Blk.allocp | with_reducible apply Blk.drew | with_reducible apply Blk.drewN))) hc15
            have cO15 := hO15.cell; have fO15 := hO15.frozen; have lO15 := hO15.lt; have mO15 := Nat.ne_of_gt lO15; have nO15 := Nat.ne_of_lt lO15
            have hy15 := own_call hc15 hy14
            have hl15 := own_call hc15 hl14
            have hb15 : Below w.heap.size w v15 := (by repeat (first | with_reducible exact Below.refl _ _ | with_reducible assumption | with_reducible apply Below.drew | with_reducible apply below_drewN | (with_reducible apply below_setp; (first | omega | (simp <;> omega))) | (with_reducible apply below_allocp; (first | omega | (simp <;> omega))) | (with_reducible refine below_viap (by assumption) ?_ ?_; (first | omega | (simp <;> omega)))))
            clear hO14 cO14 fO14 lO14 mO14 nO14 hy14 hl14
            go_wp2_with fail
            refine (HO.out _).mono ?_
            rintro e v16 ⟨rfl, hc16⟩
            have hz16 := hc16.size
            (try simp at hz16)
            have hR16 : Blk v16 (v15.heap.size) 36 #[.int .i64 r.a, .int .i64 r.b, .int .i64 r.c] := Blk.call (by (repeat (first | with_reducible assumption | (with_reducible apply Blk.new_at; (first | rfl | (simp; done))) | with_reducible apply Blk.store3 | with_reducible apply Blk.store4 | (with_reducible apply Blk.farp; (first | omega | (simp <;> omega))) | with_reducible apply Blk.allocp | with_reducible apply Blk.drew | with_reducible apply Blk.drewN))) hc16
            have cR16 := hR16.cell; have fR16 := hR16.frozen; have lR16 := hR16.lt; have mR16 := Nat.ne_of_gt lR16; have nR16 := Nat.ne_of_lt lR16
            have hy16 := own_call hc16 (by have := hy15; exact (by repeat (first | with_reducible assumption | with_reducible apply own_alloc | with_reducible apply own_drew | with_reducible apply own_drewN | (with_reducible refine own_setp (by assumption) ?_ ?_; (first | omega | (simp <;> omega))) | (with_reducible refine own_call (by assumption) ?_))))
            have hl16 := own_call hc16 (by have := hl15; exact (by repeat (first | with_reducible assumption | with_reducible apply own_alloc | with_reducible apply own_drew | with_reducible apply own_drewN | (with_reducible refine own_setp (by assumption) ?_ ?_; (first | omega | (simp <;> omega))) | (with_reducible refine own_call (by assumption) ?_))))
            have hb16 : Below w.heap.size w v16 := (by repeat (first | with_reducible exact Below.refl _ _ | with_reducible assumption | with_reducible apply Below.drew | with_reducible apply below_drewN | (with_reducible apply below_setp; (first | omega | (simp <;> omega))) | (with_reducible apply below_allocp; (first | omega | (simp <;> omega))) | (with_reducible refine below_viap (by assumption) ?_ ?_; (first | omega | (simp <;> omega)))))
            clear hy15 hl15
            have hNN : ((N : Nat) : Int) = ((N : Nat) : Int) := rfl
            go_wp2_with (go_at_call 32; refine (HQ.out _ _ _ (by first | exact hl16 | exact (by repeat (first | with_reducible assumption | with_reducible apply own_alloc | with_reducible apply own_drew | with_reducible apply own_drewN | (with_reducible refine own_setp (by assumption) ?_ ?_; (first | omega | (simp <;> omega))) | (with_reducible refine own_call (by assumption) ?_))))).mono ?_; rintro e vq ⟨rfl, rfl⟩)
            go_ret
            exact ⟨rfl, (by repeat (first | with_reducible exact Below.refl _ _ | with_reducible assumption | with_reducible apply Below.drew | with_reducible apply below_drewN | (with_reducible apply below_setp; (first | omega | (simp <;> omega))) | (with_reducible apply below_allocp; (first | omega | (simp <;> omega))) | (with_reducible refine below_viap (by assumption) ?_ ?_; (first | omega | (simp <;> omega)))))⟩
  · have Hb := Lib.hid (fun w => big_yes A A2 zs.length es.length c1 c2 w hbig)
    clear HZ HY hbig
    go_enter Tryz.func4, Tryz.ntmps4
    go_wp2_with (go_at_call 10; (with_reducible refine (Hb.out _).mono ?_); rintro e v ⟨rfl, rfl⟩)
    go_ret
    exact ⟨rfl, (by repeat (first | with_reducible exact Below.refl _ _ | with_reducible assumption | with_reducible apply Below.drew | with_reducible apply below_drewN | (with_reducible apply below_setp; (first | omega | (simp <;> omega))) | (with_reducible apply below_allocp; (first | omega | (simp <;> omega))) | (with_reducible refine below_viap (by assumption) ?_ ?_; (first | omega | (simp <;> omega)))))⟩
theorem own_FnRelations : ownKnob Tryz.prog.godebug = none := by kernel_rfl

set_option maxRecDepth 100000 in
theorem lifted_FnRelations (os : Os) (started : os.Started) (H : Type) (enc : TypeId × Value → H) :
    ReturnsInHanded {} Tryz.checked os 4 .any (Rows.fnRelationsSpec.pre6 enc Tryz.prog Tryz.f4 Rows.fnRelationsRow.domain false) (Rows.fnRelationsSpec.post enc Tryz.prog Tryz.f4 false true false false) := by
  refine returnsInHanded_of_change (C := Tryz.checked) own_FnRelations started (by kernel_rfl) Tryz.func4
    (ChangeSpec.witness6 (enc := enc) (C := Tryz.checked) false ⟨#[], #[.slice none 0 0, .slice none 0 0], []⟩ 8 (by kernel_rfl) (by kernel_rfl) (by kernel_rfl) (by kernel_rfl)) ?_
  intro W base args ds gs before hval0 hW hcnd _
  have hval : ∀ (j : Nat) t v, Tryz.f4.params[j]? = some t → args[j]? = some v → Value.okWide Tryz.prog W .any base t v := hval0
  have hW' := hW
  obtain ⟨p, q, hA0, hV, rfl, hfz, hnd⟩ := hW
  have hA : DataW.TrodAll enc Tryz.prog W 0 (fun _ => true) true Tryz.f4.params.toList args.toList ds p := hA0
  rw [Tryz.params4] at hA hval
  obtain ⟨v1, vs1, d1, ds1, p1, q1, hargs, rfl, rfl, h1, r1⟩ := trodAll_cons hA
  obtain ⟨v2, vs2, d2, ds2, p2, q2, rfl, rfl, rfl, h2, r2⟩ := trodAll_cons r1
  obtain ⟨rfl, rfl, rfl⟩ := trodAll_nil r2
  obtain rfl : args = #[v1, v2] := by cases args; simp_all
  obtain ⟨rfl, rfl⟩ := trodVars_none hV
  obtain ⟨zs, hrd⟩ := open_reB (hval 0 22 v1 rfl rfl) h1
  obtain ⟨es, hre⟩ := open_reB (hval 1 22 v2 rfl rfl) h2
  have hlt1 : ∀ x ∈ p1, x.block < W.heap.size := fun x hx => hW'.lt x (by simp [hx])
  have hlt2 : ∀ x ∈ p2, x.block < W.heap.size := fun x hx => hW'.lt x (by simp [hx])
  clear hA0 hval0
  refine (walk_FnRelations zs es v1 v2 W hrd hre).mono fun e W' ⟨he, hg⟩ => ?_
  subst he
  exact ⟨_, rfl, post_of_below (pa := p1 ++ (p2 ++ [])) (pv := []) hW' (fun _ _ _ => (trodAll_cons_mk (shut_bool Tryz.underlying4 _) trodAll_mk0)) (fun sp hsp => (trodAll_cons_mk (WideElems.Trod_stays laid_D3 (by kernel_rfl) (of_decide_eq_true (by kernel_rfl)) h1 (fun x hx => hg.same (hlt1 x hx)) (fun x hx => hsp x (by simp [hx]))) (trodAll_cons_mk (WideElems.Trod_stays laid_D3 (by kernel_rfl) (of_decide_eq_true (by kernel_rfl)) h2 (fun x hx => hg.same (hlt2 x hx)) (fun x hx => hsp x (by simp [hx]))) trodAll_mk0))) (fun _ _ => rfl) rfl
    hg (ok_one (by kernel_rfl) rfl (okWide_bool_mk Tryz.underlying4 _))⟩

/-- The statement. -/
theorem holds_FnRelations : Rows.FnRelationsSaid :=
  OpenClaim.holds_of_wide 4 Tryz.f4 rfl rfl rfl rfl rfl rfl rfl ⟨rfl, rfl, rfl, rfl, rfl⟩ rfl rfl rfl rfl rfl (by kernel_rfl) Tryz.func4 (by kernel_rfl)
    (of_decide_eq_true (by kernel_rfl)) (by unfold Func.isWrapper; first | (rw [if_pos (by decide +kernel)]; kernel_rfl) | (rw [if_neg (by decide +kernel)]; exact ⟨rfl, rfl⟩))
    (fun os started H enc _ => lifted_FnRelations os started H enc)
#print axioms holds_FnRelations
end Go.Proofs.YteehcjjhkphdnaaGreat
