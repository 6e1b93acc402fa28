/- FnLogarithms returns true: for every drawn discriminant, the invariant factors multiply to the class number, each divides the next, and logarithms add up under composition and are undone. Conditions: none. -/
import Derived.Test.YtkkamlhpappebaaGreatDL
import Derived.Test.YtkkamlhpappebaaGreatSV
import Derived.Test.YtkkamlhpappebaaGreatBX
import Derived.Test.YtkkamlhpappebaaGreatPR
import Derived.Test.YtkkamlhpappebaaGreatDB
import Derived.Test.YtkkamlhpappebaaGreatW2
import Derived.BigQuiet
namespace Go.Proofs.YtkkamlhpappebaaGreat
open Go.RowKit Go.ChangeShapes Go.WideShapes Go.ChangeAt Go.Joins

set_option maxRecDepth 100000 in
set_option maxHeartbeats 6400000 in
theorem drawUF_any (zs : List Int) (v : Value) (B : Nat) (w : World) (hr : RdB zs v B w) (hB : B ≤ w.heap.size) :
    Calls Tryz.prog 16 #[v] w (RetDg w) := by
  obtain ⟨A, m, c, rfl⟩ := hr.shape
  have hr2 := hr.grown (grown_alloc w (.cells #[.int .i64 0, .int .i64 0, .int .i64 0] 25) none) (fun k hk => by cases hk)
  have hD0 := Lib.hid (drw_start2 (.cells #[.int .i64 0, .int .i64 0, .int .i64 0] 25) hr2)
  have hB1 : B ≤ w.heap.size + 1 + 1 := by omega
  clear hr hr2
  go_enter Tryz.func16, Tryz.ntmps16
  go_wp2_with fail
  refine (classForms_d (by have h := hD0.out; simp at h; exact h) hB1 (by omega)).mono ?_
  rintro e v1 ⟨f, g, rfl, hD1, hG1⟩
  have hz1 := hG1.size
  (try simp at hz1)
  have hA1 : Blk v1 w.heap.size 25 #[.int .i64 0, .int .i64 0, .int .i64 0] := Blk.grown (by (repeat (first | with_reducible assumption | (with_reducible apply Blk.new_at; (first | rfl | (simp; done))) | with_reducible apply Blk.store3 | with_reducible apply Blk.store4 | (with_reducible apply Blk.farp; (first | omega | (simp <;> omega))) | with_reducible apply Blk.allocp | with_reducible apply Blk.drew | with_reducible apply Blk.drewN))) hG1 (by simp <;> omega)
  have cA1 := hA1.cell; have fA1 := hA1.frozen; have lA1 := hA1.lt
  have hR1 : Blk v1 (w.heap.size + 1) 25 #[.int .i64 0, .int .i64 0, .int .i64 0] := Blk.grown (by (repeat (first | with_reducible assumption | (with_reducible apply Blk.new_at; (first | rfl | (simp; done))) | with_reducible apply Blk.store3 | with_reducible apply Blk.store4 | (with_reducible apply Blk.farp; (first | omega | (simp <;> omega))) | with_reducible apply Blk.allocp | with_reducible apply Blk.drew | with_reducible apply Blk.drewN))) hG1 (by simp <;> omega)
  have cR1 := hR1.cell; have fR1 := hR1.frozen; have lR1 := hR1.lt
  have hb1 : Below w.heap.size w v1 := Below.grown (by exact (by repeat (first | with_reducible exact Below.refl _ _ | with_reducible assumption | with_reducible apply Below.drew | with_reducible apply below_drewN | (with_reducible apply below_setp; (first | omega | (simp <;> omega))) | (with_reducible apply below_allocp; (first | omega | (simp <;> omega))) | (with_reducible refine below_viap (by assumption) ?_ ?_; (first | omega | (simp <;> omega)))))) hG1 (by simp; omega) (fun k hk => by injection hk with hk; omega)
  go_wp2
  exact bodyPost_ret (v := .tuple #[.agg #[.int .i64 f.a, .int .i64 f.b, .int .i64 f.c], .agg #[.int .i64 g.a, .int .i64 g.b, .int .i64 g.c]]) (by simp [results, Tryz.results16, go_sem, *]) rfl ⟨f, g, rfl, (by repeat (first | with_reducible exact Below.refl _ _ | with_reducible assumption | with_reducible apply Below.drew | with_reducible apply below_drewN | (with_reducible apply below_setp; (first | omega | (simp <;> omega))) | (with_reducible apply below_allocp; (first | omega | (simp <;> omega))) | (with_reducible refine below_viap (by assumption) ?_ ?_; (first | omega | (simp <;> omega)))))⟩
set_option maxRecDepth 100000 in
set_option maxHeartbeats 3200000 in
theorem drawCF_any (zs : List Int) (v : Value) (B : Nat) (w : World) (hr : RdB zs v B w) (hB : B ≤ w.heap.size) :
    Calls Tryz.prog 5 #[v] w (RetDg w) := by
  obtain ⟨A, m, c, rfl⟩ := hr.shape
  have HR := Lib.hid hr
  clear hr
  go_enter Tryz.func5, Tryz.ntmps5
  go_wp2_with fail
  refine (drawUF_any zs _ B _ ((HR.out.grown (grown_alloc _ _ none) (fun k hk => by cases hk)).grown (grown_alloc _ _ none) (fun k hk => by cases hk)) (by simp; omega)).mono ?_
  rintro e v1 ⟨f, g, rfl, hb1⟩
  have hz1 := hb1.size
  (try simp at hz1)
  have hA1 : Blk v1 w.heap.size 25 #[.int .i64 0, .int .i64 0, .int .i64 0] := Blk.call (by (repeat (first | with_reducible assumption | (with_reducible apply Blk.new_at; (first | rfl | (simp; done))) | with_reducible apply Blk.store3 | with_reducible apply Blk.store4 | (with_reducible apply Blk.farp; (first | omega | (simp <;> omega))) | with_reducible apply Blk.allocp | with_reducible apply Blk.drew | with_reducible apply Blk.drewN))) hb1
  have cA1 := hA1.cell; have fA1 := hA1.frozen; have lA1 := hA1.lt
  have hR1 : Blk v1 (w.heap.size + 1) 25 #[.int .i64 0, .int .i64 0, .int .i64 0] := Blk.call (by (repeat (first | with_reducible assumption | (with_reducible apply Blk.new_at; (first | rfl | (simp; done))) | with_reducible apply Blk.store3 | with_reducible apply Blk.store4 | (with_reducible apply Blk.farp; (first | omega | (simp <;> omega))) | with_reducible apply Blk.allocp | with_reducible apply Blk.drew | with_reducible apply Blk.drewN))) hb1
  have cR1 := hR1.cell; have fR1 := hR1.frozen; have lR1 := hR1.lt
  go_wp2
  exact bodyPost_ret (v := .tuple #[.agg #[.int .i64 f.a, .int .i64 f.b, .int .i64 f.c], .agg #[.int .i64 g.a, .int .i64 g.b, .int .i64 g.c]]) (by simp [results, Tryz.results5, go_sem, *]) rfl ⟨f, g, rfl, (by repeat (first | with_reducible exact Below.refl _ _ | with_reducible assumption | with_reducible apply Below.drew | with_reducible apply below_drewN | (with_reducible apply below_setp; (first | omega | (simp <;> omega))) | (with_reducible apply below_allocp; (first | omega | (simp <;> omega))) | (with_reducible refine below_viap (by assumption) ?_ ?_; (first | omega | (simp <;> omega)))))⟩

/-- The loop over the factors. -/
def LfSt (m : Nat) (w9 : World) (vi : Value) (wr : World) : Prop := ∃ k : Nat, vi = .int .i64 k ∧ k ≤ m ∧ Below w9.heap.size w9 wr

set_option maxRecDepth 100000 in
set_option maxHeartbeats 12800000 in
theorem walk_FnLogarithms (zs es : List Int) (v u : Value) (w : World) (hz : ReB zs v w) (he : ReB es u w) :
    Calls Tryz.prog 3 #[v, u] w fun e w' => e = .returned (.bool true) ∧ Below w.heap.size w w' := by
  have HZ := Lib.hid hz
  obtain ⟨A, c1, rfl⟩ := hz.shape
  obtain ⟨A2, c2, rfl⟩ := he.shape
  clear hz he
  by_cases hbig : zs.length ≤ 1048576 ∧ es.length ≤ 1048576 - zs.length
  · have Hb := Lib.hid (fun w => big_no A A2 zs.length es.length c1 c2 w hbig.1 hbig.2)
    have HR := Lib.hid (HZ.out.rd hbig.1)
    clear HZ hbig
    go_enter Tryz.func3, Tryz.ntmps3
    go_wp2_with (go_at_call 4; (with_reducible refine (Hb.out _).mono ?_); rintro e v ⟨rfl, rfl⟩)
    refine (drawCF_any zs _ _ _ HR.out (Nat.le_refl _)).mono ?_
    rintro e v1 ⟨f, g, rfl, hb1⟩
    have hz1 := hb1.size
    cases hp : pairB f g with
    | false =>
      obtain ⟨L, ok, hL, hl⟩ := lgL_ex f.a f.b f.c
      have hl := Nat.le_trans hl (show 100000 ≤ 10000000 by decide)
      have HS := Lib.hid (fun w => specLg_any f.a f.b f.c L ok w hL)
      have HI := Lib.hid (fun w => implLg_any f.a f.b f.c L ok w hL)
      have HC := Lib.hid (fun w => implComp_no f g w hp)
      clear hL hp
      cases ok
      all_goals
        go_wp2_with fail
        refine (HI.out _).mono ?_
        rintro e v2 ⟨vi, rfl, hl2, hc2⟩
        have hz2 := hc2.size
        (try simp at hz2)
        have hF2 : Blk v2 (v1.heap.size) 25 #[.int .i64 f.a, .int .i64 f.b, .int .i64 f.c] := Blk.call (by (repeat (first | with_reducible assumption | (with_reducible apply Blk.new_at; (first | rfl | (simp; done))) | with_reducible apply Blk.store3 | with_reducible apply Blk.store4 | (with_reducible apply Blk.farp; (first | omega | (simp <;> omega))) | with_reducible apply Blk.allocp | with_reducible apply Blk.drew | with_reducible apply Blk.drewN))) hc2
        have cF2 := hF2.cell; have fF2 := hF2.frozen; have lF2 := hF2.lt; have mF2 := Nat.ne_of_gt lF2; have nF2 := Nat.ne_of_lt lF2
        have hG2 : Blk v2 (v1.heap.size + 1) 25 #[.int .i64 g.a, .int .i64 g.b, .int .i64 g.c] := Blk.call (by (repeat (first | with_reducible assumption | (with_reducible apply Blk.new_at; (first | rfl | (simp; done))) | with_reducible apply Blk.store3 | with_reducible apply Blk.store4 | (with_reducible apply Blk.farp; (first | omega | (simp <;> omega))) | with_reducible apply Blk.allocp | with_reducible apply Blk.drew | with_reducible apply Blk.drewN))) hc2
        have cG2 := hG2.cell; have fG2 := hG2.frozen; have lG2 := hG2.lt; have mG2 := Nat.ne_of_gt lG2; have nG2 := Nat.ne_of_lt lG2
        have hb2 : Below w.heap.size w v2 := (by repeat (first | with_reducible exact Below.refl _ _ | with_reducible assumption | with_reducible apply Below.drew | with_reducible apply below_drewN | (with_reducible apply below_setp; (first | omega | (simp <;> omega))) | (with_reducible apply below_allocp; (first | omega | (simp <;> omega))) | (with_reducible refine below_viap (by assumption) ?_ ?_; (first | omega | (simp <;> omega)))))
        go_wp2_with fail
        refine (HS.out _).mono ?_
        rintro e v3 ⟨vs, rfl, hs3, hc3⟩
        have hz3 := hc3.size
        (try simp at hz3)
        have hF3 : Blk v3 (v1.heap.size) 25 #[.int .i64 f.a, .int .i64 f.b, .int .i64 f.c] := Blk.call (by (repeat (first | with_reducible assumption | (with_reducible apply Blk.new_at; (first | rfl | (simp; done))) | with_reducible apply Blk.store3 | with_reducible apply Blk.store4 | (with_reducible apply Blk.farp; (first | omega | (simp <;> omega))) | with_reducible apply Blk.allocp | with_reducible apply Blk.drew | with_reducible apply Blk.drewN))) hc3
        have cF3 := hF3.cell; have fF3 := hF3.frozen; have lF3 := hF3.lt; have mF3 := Nat.ne_of_gt lF3; have nF3 := Nat.ne_of_lt lF3
        have hG3 : Blk v3 (v1.heap.size + 1) 25 #[.int .i64 g.a, .int .i64 g.b, .int .i64 g.c] := Blk.call (by (repeat (first | with_reducible assumption | (with_reducible apply Blk.new_at; (first | rfl | (simp; done))) | with_reducible apply Blk.store3 | with_reducible apply Blk.store4 | (with_reducible apply Blk.farp; (first | omega | (simp <;> omega))) | with_reducible apply Blk.allocp | with_reducible apply Blk.drew | with_reducible apply Blk.drewN))) hc3
        have cG3 := hG3.cell; have fG3 := hG3.frozen; have lG3 := hG3.lt; have mG3 := Nat.ne_of_gt lG3; have nG3 := Nat.ne_of_lt lG3
        have hl3 := own_call hc3 hl2
        have hb3 : Below w.heap.size w v3 := (by repeat (first | with_reducible exact Below.refl _ _ | with_reducible assumption | with_reducible apply Below.drew | with_reducible apply below_drewN | (with_reducible apply below_setp; (first | omega | (simp <;> omega))) | (with_reducible apply below_allocp; (first | omega | (simp <;> omega))) | (with_reducible refine below_viap (by assumption) ?_ ?_; (first | omega | (simp <;> omega)))))
        clear hF2 cF2 fF2 lF2 mF2 nF2 hG2 cG2 fG2 lG2 mG2 nG2 hl2
        go_wp2_with fail
        refine (sameInts_same vi vs _ _ L _ hl hl3 hs3).mono ?_
        rintro e v4 ⟨rfl, hc4⟩
        have hz4 := hc4.size
        (try simp at hz4)
        have hF4 : Blk v4 (v1.heap.size) 25 #[.int .i64 f.a, .int .i64 f.b, .int .i64 f.c] := Blk.call (by (repeat (first | with_reducible assumption | (with_reducible apply Blk.new_at; (first | rfl | (simp; done))) | with_reducible apply Blk.store3 | with_reducible apply Blk.store4 | (with_reducible apply Blk.farp; (first | omega | (simp <;> omega))) | with_reducible apply Blk.allocp | with_reducible apply Blk.drew | with_reducible apply Blk.drewN))) hc4
        have cF4 := hF4.cell; have fF4 := hF4.frozen; have lF4 := hF4.lt; have mF4 := Nat.ne_of_gt lF4; have nF4 := Nat.ne_of_lt lF4
        have hG4 : Blk v4 (v1.heap.size + 1) 25 #[.int .i64 g.a, .int .i64 g.b, .int .i64 g.c] := Blk.call (by (repeat (first | with_reducible assumption | (with_reducible apply Blk.new_at; (first | rfl | (simp; done))) | with_reducible apply Blk.store3 | with_reducible apply Blk.store4 | (with_reducible apply Blk.farp; (first | omega | (simp <;> omega))) | with_reducible apply Blk.allocp | with_reducible apply Blk.drew | with_reducible apply Blk.drewN))) hc4
        have cG4 := hG4.cell; have fG4 := hG4.frozen; have lG4 := hG4.lt; have mG4 := Nat.ne_of_gt lG4; have nG4 := Nat.ne_of_lt lG4
        have hl4 := own_call hc4 hl3
        have hs4 := own_call hc4 hs3
        have hb4 : Below w.heap.size w v4 := (by repeat (first | with_reducible exact Below.refl _ _ | with_reducible assumption | with_reducible apply Below.drew | with_reducible apply below_drewN | (with_reducible apply below_setp; (first | omega | (simp <;> omega))) | (with_reducible apply below_allocp; (first | omega | (simp <;> omega))) | (with_reducible refine below_viap (by assumption) ?_ ?_; (first | omega | (simp <;> omega)))))
        clear hF3 cF3 fF3 lF3 mF3 nF3 hG3 cG3 fG3 lG3 mG3 nG3 hl3 hs3
        go_wp2_with fail
        refine (HC.out _).mono ?_
        rintro e v5 ⟨rfl, hc5⟩
        have hz5 := hc5.size
        (try simp at hz5)
        have hF5 : Blk v5 (v1.heap.size) 25 #[.int .i64 f.a, .int .i64 f.b, .int .i64 f.c] := Blk.call (by (repeat (first | with_reducible assumption | (with_reducible apply Blk.new_at; (first | rfl | (simp; done))) | with_reducible apply Blk.store3 | with_reducible apply Blk.store4 | (with_reducible apply Blk.farp; (first | omega | (simp <;> omega))) | with_reducible apply Blk.allocp | with_reducible apply Blk.drew | with_reducible apply Blk.drewN))) hc5
        have cF5 := hF5.cell; have fF5 := hF5.frozen; have lF5 := hF5.lt; have mF5 := Nat.ne_of_gt lF5; have nF5 := Nat.ne_of_lt lF5
        have hG5 : Blk v5 (v1.heap.size + 1) 25 #[.int .i64 g.a, .int .i64 g.b, .int .i64 g.c] := Blk.call (by (repeat (first | with_reducible assumption | (with_reducible apply Blk.new_at; (first | rfl | (simp; done))) | with_reducible apply Blk.store3 | with_reducible apply Blk.store4 | (with_reducible apply Blk.farp; (first | omega | (simp <;> omega))) | with_reducible apply Blk.allocp | with_reducible apply Blk.drew | with_reducible apply Blk.drewN))) hc5
        have cG5 := hG5.cell; have fG5 := hG5.frozen; have lG5 := hG5.lt; have mG5 := Nat.ne_of_gt lG5; have nG5 := Nat.ne_of_lt lG5
        have hb5 : Below w.heap.size w v5 := (by repeat (first | with_reducible exact Below.refl _ _ | with_reducible assumption | with_reducible apply Below.drew | with_reducible apply below_drewN | (with_reducible apply below_setp; (first | omega | (simp <;> omega))) | (with_reducible apply below_allocp; (first | omega | (simp <;> omega))) | (with_reducible refine below_viap (by assumption) ?_ ?_; (first | omega | (simp <;> omega)))))
        clear hF4 cF4 fF4 lF4 mF4 nF4 hG4 cG4 fG4 lG4 mG4 nG4
        go_wp2
        go_ret
        exact ⟨rfl, (by repeat (first | with_reducible exact Below.refl _ _ | with_reducible assumption | with_reducible apply Below.drew | with_reducible apply below_drewN | (with_reducible apply below_setp; (first | omega | (simp <;> omega))) | (with_reducible apply below_allocp; (first | omega | (simp <;> omega))) | (with_reducible refine below_viap (by assumption) ?_ ?_; (first | omega | (simp <;> omega)))))⟩
    | true =>
      obtain ⟨r, q, a, b, c, n, hh, hrow⟩ := lg_row hp
      have HS := Lib.hid (fun w => specLg_any f.a f.b f.c a true w hrow.la)
      have HI := Lib.hid (fun w => implLg_any f.a f.b f.c a true w hrow.la)
      have HIg := Lib.hid (fun w => implLg_any g.a g.b g.c b true w hrow.lb)
      have HIr := Lib.hid (fun w => implLg_any r.a r.b r.c c true w hrow.lc)
      have HC := Lib.hid (fun w => hrow.co ▸ implComp_c f g w hp)
      have HD := Lib.hid (fun w => implDisc_c f.a f.b f.c w hrow.cl)
      have HV := Lib.hid (fun w => implIv_any (disc f) n true w hrow.iv)
      have HN := Lib.hid (fun w => implCN_any (disc f) hh true w hrow.cn)
      have hrd := hrow.rd
      have HF := Lib.hid (fun w => implReduce_d f.a f.b f.c w (cls_fm hrow.cl).2 (cls_def6 hrow.cl))
      have hfe : (⟨f.a, f.b, f.c⟩ : Fm) = f := rfl
      rw [hfe, hrd] at HF
      rw [hfe] at HD
      have HX := Lib.hid (fun (v : Value) (B : Nat) (w : World) h => implFl_any (disc f) a v B q true w (by have := hrow.ea; have := hrow.l20; omega) hrow.fl h)
      have HPp := Lib.hid (fun (v : Value) (B : Nat) (w : World) h => pProduct_any n v B w hrow.nb (by have := hrow.pr; have := hrow.hb; omega) hrow.l20 h)
      rw [hrow.pr] at HPp
      have hl20 := hrow.l20
      have hal : a.length ≤ 20 := by have := hrow.ea; omega
      have hbl : b.length ≤ 20 := by have := hrow.eb; omega
      have hcl : c.length ≤ 20 := by have := hrow.ec; omega
      have hhb := hrow.hb
      have heA : ((a.length : Int) != (n.length : Int)) = false := by rw [bne_eq_false_iff_eq, hrow.ea]
      have heB : ((b.length : Int) != (n.length : Int)) = false := by rw [bne_eq_false_iff_eq, hrow.eb]
      have heC : ((c.length : Int) != (n.length : Int)) = false := by rw [bne_eq_false_iff_eq, hrow.ec]
      have Hrow := Lib.hid hrow
      generalize redM f M4.one = m at HF
      generalize disc f = d at HD HV HN HX
      clear hp hrd hfe hrow
      go_wp2_with fail
      refine (HI.out _).mono ?_
      rintro e v2 ⟨va, rfl, ha2, hc2⟩
      have hz2 := hc2.size
      (try simp at hz2)
      have hF2 : Blk v2 (v1.heap.size) 25 #[.int .i64 f.a, .int .i64 f.b, .int .i64 f.c] := Blk.call (by (repeat (first | with_reducible assumption | (with_reducible apply Blk.new_at; (first | rfl | (simp; done))) | with_reducible apply Blk.store3 | with_reducible apply Blk.store4 | (with_reducible apply Blk.farp; (first | omega | (simp <;> omega))) | with_reducible apply Blk.allocp | with_reducible apply Blk.drew | with_reducible apply Blk.drewN))) hc2
      have cF2 := hF2.cell; have fF2 := hF2.frozen; have lF2 := hF2.lt; have mF2 := Nat.ne_of_gt lF2; have nF2 := Nat.ne_of_lt lF2
      have hG2 : Blk v2 (v1.heap.size + 1) 25 #[.int .i64 g.a, .int .i64 g.b, .int .i64 g.c] := Blk.call (by (repeat (first | with_reducible assumption | (with_reducible apply Blk.new_at; (first | rfl | (simp; done))) | with_reducible apply Blk.store3 | with_reducible apply Blk.store4 | (with_reducible apply Blk.farp; (first | omega | (simp <;> omega))) | with_reducible apply Blk.allocp | with_reducible apply Blk.drew | with_reducible apply Blk.drewN))) hc2
      have cG2 := hG2.cell; have fG2 := hG2.frozen; have lG2 := hG2.lt; have mG2 := Nat.ne_of_gt lG2; have nG2 := Nat.ne_of_lt lG2
      have hb2 : Below w.heap.size w v2 := (by repeat (first | with_reducible exact Below.refl _ _ | with_reducible assumption | with_reducible apply Below.drew | with_reducible apply below_drewN | (with_reducible apply below_setp; (first | omega | (simp <;> omega))) | (with_reducible apply below_allocp; (first | omega | (simp <;> omega))) | (with_reducible refine below_viap (by assumption) ?_ ?_; (first | omega | (simp <;> omega)))))
      obtain ⟨ba, ca, rfl⟩ := own_shape ha2
      go_wp2_with fail
      refine (HS.out _).mono ?_
      rintro e v3 ⟨vs, rfl, hs3, hc3⟩
      have hz3 := hc3.size
      (try simp at hz3)
      have hF3 : Blk v3 (v1.heap.size) 25 #[.int .i64 f.a, .int .i64 f.b, .int .i64 f.c] := Blk.call (by (repeat (first | with_reducible assumption | (with_reducible apply Blk.new_at; (first | rfl | (simp; done))) | with_reducible apply Blk.store3 | with_reducible apply Blk.store4 | (with_reducible apply Blk.farp; (first | omega | (simp <;> omega))) | with_reducible apply Blk.allocp | with_reducible apply Blk.drew | with_reducible apply Blk.drewN))) hc3
      have cF3 := hF3.cell; have fF3 := hF3.frozen; have lF3 := hF3.lt; have mF3 := Nat.ne_of_gt lF3; have nF3 := Nat.ne_of_lt lF3
      have hG3 : Blk v3 (v1.heap.size + 1) 25 #[.int .i64 g.a, .int .i64 g.b, .int .i64 g.c] := Blk.call (by (repeat (first | with_reducible assumption | (with_reducible apply Blk.new_at; (first | rfl | (simp; done))) | with_reducible apply Blk.store3 | with_reducible apply Blk.store4 | (with_reducible apply Blk.farp; (first | omega | (simp <;> omega))) | with_reducible apply Blk.allocp | with_reducible apply Blk.drew | with_reducible apply Blk.drewN))) hc3
      have cG3 := hG3.cell; have fG3 := hG3.frozen; have lG3 := hG3.lt; have mG3 := Nat.ne_of_gt lG3; have nG3 := Nat.ne_of_lt lG3
      have ha3 := own_call hc3 ha2
      have hb3 : Below w.heap.size w v3 := (by repeat (first | with_reducible exact Below.refl _ _ | with_reducible assumption | with_reducible apply Below.drew | with_reducible apply below_drewN | (with_reducible apply below_setp; (first | omega | (simp <;> omega))) | (with_reducible apply below_allocp; (first | omega | (simp <;> omega))) | (with_reducible refine below_viap (by assumption) ?_ ?_; (first | omega | (simp <;> omega)))))
      clear hF2 cF2 fF2 lF2 mF2 nF2 hG2 cG2 fG2 lG2 mG2 nG2 ha2
      go_wp2_with fail
      refine (sameInts_same _ vs _ _ a _ (by omega) ha3 hs3).mono ?_
      rintro e v4 ⟨rfl, hc4⟩
      have hz4 := hc4.size
      (try simp at hz4)
      have hF4 : Blk v4 (v1.heap.size) 25 #[.int .i64 f.a, .int .i64 f.b, .int .i64 f.c] := Blk.call (by (repeat (first | with_reducible assumption | (with_reducible apply Blk.new_at; (first | rfl | (simp; done))) | with_reducible apply Blk.store3 | with_reducible apply Blk.store4 | (with_reducible apply Blk.farp; (first | omega | (simp <;> omega))) | with_reducible apply Blk.allocp | with_reducible apply Blk.drew | with_reducible apply Blk.drewN))) hc4
      have cF4 := hF4.cell; have fF4 := hF4.frozen; have lF4 := hF4.lt; have mF4 := Nat.ne_of_gt lF4; have nF4 := Nat.ne_of_lt lF4
      have hG4 : Blk v4 (v1.heap.size + 1) 25 #[.int .i64 g.a, .int .i64 g.b, .int .i64 g.c] := Blk.call (by (repeat (first | with_reducible assumption | (with_reducible apply Blk.new_at; (first | rfl | (simp; done))) | with_reducible apply Blk.store3 | with_reducible apply Blk.store4 | (with_reducible apply Blk.farp; (first | omega | (simp <;> omega))) | with_reducible apply Blk.allocp | with_reducible apply Blk.drew | with_reducible apply Blk.drewN))) hc4
      have cG4 := hG4.cell; have fG4 := hG4.frozen; have lG4 := hG4.lt; have mG4 := Nat.ne_of_gt lG4; have nG4 := Nat.ne_of_lt lG4
      have ha4 := own_call hc4 ha3
      have hs4 := own_call hc4 hs3
      have hb4 : Below w.heap.size w v4 := (by repeat (first | with_reducible exact Below.refl _ _ | with_reducible assumption | with_reducible apply Below.drew | with_reducible apply below_drewN | (with_reducible apply below_setp; (first | omega | (simp <;> omega))) | (with_reducible apply below_allocp; (first | omega | (simp <;> omega))) | (with_reducible refine below_viap (by assumption) ?_ ?_; (first | omega | (simp <;> omega)))))
      clear hF3 cF3 fF3 lF3 mF3 nF3 hG3 cG3 fG3 lG3 mG3 nG3 ha3 hs3
      go_wp2_with fail
      refine (HC.out _).mono ?_
      rintro e v5 ⟨rfl, hc5⟩
      have hz5 := hc5.size
      (try simp at hz5)
      have hF5 : Blk v5 (v1.heap.size) 25 #[.int .i64 f.a, .int .i64 f.b, .int .i64 f.c] := Blk.call (by (repeat (first | with_reducible assumption | (with_reducible apply Blk.new_at; (first | rfl | (simp; done))) | with_reducible apply Blk.store3 | with_reducible apply Blk.store4 | (with_reducible apply Blk.farp; (first | omega | (simp <;> omega))) | with_reducible apply Blk.allocp | with_reducible apply Blk.drew | with_reducible apply Blk.drewN))) hc5
      have cF5 := hF5.cell; have fF5 := hF5.frozen; have lF5 := hF5.lt; have mF5 := Nat.ne_of_gt lF5; have nF5 := Nat.ne_of_lt lF5
      have hG5 : Blk v5 (v1.heap.size + 1) 25 #[.int .i64 g.a, .int .i64 g.b, .int .i64 g.c] := Blk.call (by (repeat (first | with_reducible assumption | (with_reducible apply Blk.new_at; (first | rfl | (simp; done))) | with_reducible apply Blk.store3 | with_reducible apply Blk.store4 | (with_reducible apply Blk.farp; (first | omega | (simp <;> omega))) | with_reducible apply Blk.allocp | with_reducible apply Blk.drew | with_reducible apply Blk.drewN))) hc5
      have cG5 := hG5.cell; have fG5 := hG5.frozen; have lG5 := hG5.lt; have mG5 := Nat.ne_of_gt lG5; have nG5 := Nat.ne_of_lt lG5
      have ha5 := own_call hc5 ha4
      have hb5 : Below w.heap.size w v5 := (by repeat (first | with_reducible exact Below.refl _ _ | with_reducible assumption | with_reducible apply Below.drew | with_reducible apply below_drewN | (with_reducible apply below_setp; (first | omega | (simp <;> omega))) | (with_reducible apply below_allocp; (first | omega | (simp <;> omega))) | (with_reducible refine below_viap (by assumption) ?_ ?_; (first | omega | (simp <;> omega)))))
      clear hF4 cF4 fF4 lF4 mF4 nF4 hG4 cG4 fG4 lG4 mG4 nG4 ha4
      go_wp2_with fail
      refine (HD.out _).mono ?_
      rintro e v6 ⟨rfl, hc6⟩
      have hz6 := hc6.size
      (try simp at hz6)
      have hF6 : Blk v6 (v1.heap.size) 25 #[.int .i64 f.a, .int .i64 f.b, .int .i64 f.c] := Blk.call (by (repeat (first | with_reducible assumption | (with_reducible apply Blk.new_at; (first | rfl | (simp; done))) | with_reducible apply Blk.store3 | with_reducible apply Blk.store4 | (with_reducible apply Blk.farp; (first | omega | (simp <;> omega))) | with_reducible apply Blk.allocp | with_reducible apply Blk.drew | with_reducible apply Blk.drewN))) hc6
      have cF6 := hF6.cell; have fF6 := hF6.frozen; have lF6 := hF6.lt; have mF6 := Nat.ne_of_gt lF6; have nF6 := Nat.ne_of_lt lF6
      have hG6 : Blk v6 (v1.heap.size + 1) 25 #[.int .i64 g.a, .int .i64 g.b, .int .i64 g.c] := Blk.call (by (repeat (first | with_reducible assumption | (with_reducible apply Blk.new_at; (first | rfl | (simp; done))) | with_reducible apply Blk.store3 | with_reducible apply Blk.store4 | (with_reducible apply Blk.farp; (first | omega | (simp <;> omega))) | with_reducible apply Blk.allocp | with_reducible apply Blk.drew | with_reducible apply Blk.drewN))) hc6
      have cG6 := hG6.cell; have fG6 := hG6.frozen; have lG6 := hG6.lt; have mG6 := Nat.ne_of_gt lG6; have nG6 := Nat.ne_of_lt lG6
      have hH6 : Blk v6 (v5.heap.size) 25 #[.int .i64 r.a, .int .i64 r.b, .int .i64 r.c] := Blk.call (by (repeat (first | with_reducible assumption | (with_reducible apply Blk.new_at; (first | rfl | (simp; done))) | with_reducible apply Blk.store3 | with_reducible apply Blk.store4 | (with_reducible apply Blk.farp; (first | omega | (simp <;> omega))) | with_reducible apply Blk.allocp | with_reducible apply Blk.drew | with_reducible apply Blk.drewN))) hc6
      have cH6 := hH6.cell; have fH6 := hH6.frozen; have lH6 := hH6.lt; have mH6 := Nat.ne_of_gt lH6; have nH6 := Nat.ne_of_lt lH6
      have ha6 := own_call hc6 (by have := ha5; exact (by repeat (first | with_reducible assumption | with_reducible apply own_alloc | with_reducible apply own_drew | with_reducible apply own_drewN | (with_reducible refine own_setp (by assumption) ?_ ?_; (first | omega | (simp <;> omega))) | (with_reducible refine own_call (by assumption) ?_))))
      have hb6 : Below w.heap.size w v6 := (by repeat (first | with_reducible exact Below.refl _ _ | with_reducible assumption | with_reducible apply Below.drew | with_reducible apply below_drewN | (with_reducible apply below_setp; (first | omega | (simp <;> omega))) | (with_reducible apply below_allocp; (first | omega | (simp <;> omega))) | (with_reducible refine below_viap (by assumption) ?_ ?_; (first | omega | (simp <;> omega)))))
      clear hF5 cF5 fF5 lF5 mF5 nF5 hG5 cG5 fG5 lG5 mG5 nG5 ha5
      go_wp2_with fail
      refine (HV.out _).mono ?_
      rintro e v7 ⟨vn, rfl, hn7, hc7⟩
      have hz7 := hc7.size
      (try simp at hz7)
      have hF7 : Blk v7 (v1.heap.size) 25 #[.int .i64 f.a, .int .i64 f.b, .int .i64 f.c] := Blk.call (by (repeat (first | with_reducible assumption | (with_reducible apply Blk.new_at; (first | rfl | (simp; done))) | with_reducible apply Blk.store3 | with_reducible apply Blk.store4 | (with_reducible apply Blk.farp; (first | omega | (simp <;> omega))) | with_reducible apply Blk.allocp | with_reducible apply Blk.drew | with_reducible apply Blk.drewN))) hc7
      have cF7 := hF7.cell; have fF7 := hF7.frozen; have lF7 := hF7.lt; have mF7 := Nat.ne_of_gt lF7; have nF7 := Nat.ne_of_lt lF7
      have hG7 : Blk v7 (v1.heap.size + 1) 25 #[.int .i64 g.a, .int .i64 g.b, .int .i64 g.c] := Blk.call (by (repeat (first | with_reducible assumption | (with_reducible apply Blk.new_at; (first | rfl | (simp; done))) | with_reducible apply Blk.store3 | with_reducible apply Blk.store4 | (with_reducible apply Blk.farp; (first | omega | (simp <;> omega))) | with_reducible apply Blk.allocp | with_reducible apply Blk.drew | with_reducible apply Blk.drewN))) hc7
      have cG7 := hG7.cell; have fG7 := hG7.frozen; have lG7 := hG7.lt; have mG7 := Nat.ne_of_gt lG7; have nG7 := Nat.ne_of_lt lG7
      have hH7 : Blk v7 (v5.heap.size) 25 #[.int .i64 r.a, .int .i64 r.b, .int .i64 r.c] := Blk.call (by (repeat (first | with_reducible assumption | (with_reducible apply Blk.new_at; (first | rfl | (simp; done))) | with_reducible apply Blk.store3 | with_reducible apply Blk.store4 | (with_reducible apply Blk.farp; (first | omega | (simp <;> omega))) | with_reducible apply Blk.allocp | with_reducible apply Blk.drew | with_reducible apply Blk.drewN))) hc7
      have cH7 := hH7.cell; have fH7 := hH7.frozen; have lH7 := hH7.lt; have mH7 := Nat.ne_of_gt lH7; have nH7 := Nat.ne_of_lt lH7
      have ha7 := own_call hc7 ha6
      have hb7 : Below w.heap.size w v7 := (by repeat (first | with_reducible exact Below.refl _ _ | with_reducible assumption | with_reducible apply Below.drew | with_reducible apply below_drewN | (with_reducible apply below_setp; (first | omega | (simp <;> omega))) | (with_reducible apply below_allocp; (first | omega | (simp <;> omega))) | (with_reducible refine below_viap (by assumption) ?_ ?_; (first | omega | (simp <;> omega)))))
      clear hF6 cF6 fF6 lF6 mF6 nF6 hG6 cG6 fG6 lG6 mG6 nG6 hH6 cH6 fH6 lH6 mH6 nH6 ha6
      obtain ⟨bn, cn, rfl⟩ := own_shape hn7
      go_wp2_with fail
      refine (HN.out _).mono ?_
      rintro e v8 ⟨rfl, hc8⟩
      have hz8 := hc8.size
      (try simp at hz8)
      have hF8 : Blk v8 (v1.heap.size) 25 #[.int .i64 f.a, .int .i64 f.b, .int .i64 f.c] := Blk.call (by (repeat (first | with_reducible assumption | (with_reducible apply Blk.new_at; (first | rfl | (simp; done))) | with_reducible apply Blk.store3 | with_reducible apply Blk.store4 | (with_reducible apply Blk.farp; (first | omega | (simp <;> omega))) | with_reducible apply Blk.allocp | with_reducible apply Blk.drew | with_reducible apply Blk.drewN))) hc8
      have cF8 := hF8.cell; have fF8 := hF8.frozen; have lF8 := hF8.lt; have mF8 := Nat.ne_of_gt lF8; have nF8 := Nat.ne_of_lt lF8
      have hG8 : Blk v8 (v1.heap.size + 1) 25 #[.int .i64 g.a, .int .i64 g.b, .int .i64 g.c] := Blk.call (by (repeat (first | with_reducible assumption | (with_reducible apply Blk.new_at; (first | rfl | (simp; done))) | with_reducible apply Blk.store3 | with_reducible apply Blk.store4 | (with_reducible apply Blk.farp; (first | omega | (simp <;> omega))) | with_reducible apply Blk.allocp | with_reducible apply Blk.drew | with_reducible apply Blk.drewN))) hc8
      have cG8 := hG8.cell; have fG8 := hG8.frozen; have lG8 := hG8.lt; have mG8 := Nat.ne_of_gt lG8; have nG8 := Nat.ne_of_lt lG8
      have hH8 : Blk v8 (v5.heap.size) 25 #[.int .i64 r.a, .int .i64 r.b, .int .i64 r.c] := Blk.call (by (repeat (first | with_reducible assumption | (with_reducible apply Blk.new_at; (first | rfl | (simp; done))) | with_reducible apply Blk.store3 | with_reducible apply Blk.store4 | (with_reducible apply Blk.farp; (first | omega | (simp <;> omega))) | with_reducible apply Blk.allocp | with_reducible apply Blk.drew | with_reducible apply Blk.drewN))) hc8
      have cH8 := hH8.cell; have fH8 := hH8.frozen; have lH8 := hH8.lt; have mH8 := Nat.ne_of_gt lH8; have nH8 := Nat.ne_of_lt lH8
      have ha8 := own_call hc8 ha7
      have hn8 := own_call hc8 hn7
      have hb8 : Below w.heap.size w v8 := (by repeat (first | with_reducible exact Below.refl _ _ | with_reducible assumption | with_reducible apply Below.drew | with_reducible apply below_drewN | (with_reducible apply below_setp; (first | omega | (simp <;> omega))) | (with_reducible apply below_allocp; (first | omega | (simp <;> omega))) | (with_reducible refine below_viap (by assumption) ?_ ?_; (first | omega | (simp <;> omega)))))
      clear hF7 cF7 fF7 lF7 mF7 nF7 hG7 cG7 fG7 lG7 mG7 nG7 hH7 cH7 fH7 lH7 mH7 nH7 ha7 hn7
      go_wp2_with fail
      refine (HIg.out _).mono ?_
      rintro e v9 ⟨vb, rfl, hbb9, hc9⟩
      have hz9 := hc9.size
      (try simp at hz9)
      have hF9 : Blk v9 (v1.heap.size) 25 #[.int .i64 f.a, .int .i64 f.b, .int .i64 f.c] := Blk.call (by (repeat (first | with_reducible assumption | (with_reducible apply Blk.new_at; (first | rfl | (simp; done))) | with_reducible apply Blk.store3 | with_reducible apply Blk.store4 | (with_reducible apply Blk.farp; (first | omega | (simp <;> omega))) | with_reducible apply Blk.allocp | with_reducible apply Blk.drew | with_reducible apply Blk.drewN))) hc9
      have cF9 := hF9.cell; have fF9 := hF9.frozen; have lF9 := hF9.lt; have mF9 := Nat.ne_of_gt lF9; have nF9 := Nat.ne_of_lt lF9
      have hG9 : Blk v9 (v1.heap.size + 1) 25 #[.int .i64 g.a, .int .i64 g.b, .int .i64 g.c] := Blk.call (by (repeat (first | with_reducible assumption | (with_reducible apply Blk.new_at; (first | rfl | (simp; done))) | with_reducible apply Blk.store3 | with_reducible apply Blk.store4 | (with_reducible apply Blk.farp; (first | omega | (simp <;> omega))) | with_reducible apply Blk.allocp | with_reducible apply Blk.drew | with_reducible apply Blk.drewN))) hc9
      have cG9 := hG9.cell; have fG9 := hG9.frozen; have lG9 := hG9.lt; have mG9 := Nat.ne_of_gt lG9; have nG9 := Nat.ne_of_lt lG9
      have hH9 : Blk v9 (v5.heap.size) 25 #[.int .i64 r.a, .int .i64 r.b, .int .i64 r.c] := Blk.call (by (repeat (first | with_reducible assumption | (with_reducible apply Blk.new_at; (first | rfl | (simp; done))) | with_reducible apply Blk.store3 | with_reducible apply Blk.store4 | (with_reducible apply Blk.farp; (first | omega | (simp <;> omega))) | with_reducible apply Blk.allocp | with_reducible apply Blk.drew | with_reducible apply Blk.drewN))) hc9
      have cH9 := hH9.cell; have fH9 := hH9.frozen; have lH9 := hH9.lt; have mH9 := Nat.ne_of_gt lH9; have nH9 := Nat.ne_of_lt lH9
      have ha9 := own_call hc9 ha8
      have hn9 := own_call hc9 hn8
      have hb9 : Below w.heap.size w v9 := (by repeat (first | with_reducible exact Below.refl _ _ | with_reducible assumption | with_reducible apply Below.drew | with_reducible apply below_drewN | (with_reducible apply below_setp; (first | omega | (simp <;> omega))) | (with_reducible apply below_allocp; (first | omega | (simp <;> omega))) | (with_reducible refine below_viap (by assumption) ?_ ?_; (first | omega | (simp <;> omega)))))
      clear hF8 cF8 fF8 lF8 mF8 nF8 hG8 cG8 fG8 lG8 mG8 nG8 hH8 cH8 fH8 lH8 mH8 nH8 ha8 hn8
      obtain ⟨bb, cb, rfl⟩ := own_shape hbb9
      go_wp2_with fail
      refine (HIr.out _).mono ?_
      rintro e v10 ⟨vc, rfl, hcc10, hc10⟩
      have hz10 := hc10.size
      (try simp at hz10)
      have hF10 : Blk v10 (v1.heap.size) 25 #[.int .i64 f.a, .int .i64 f.b, .int .i64 f.c] := Blk.call (by (repeat (first | with_reducible assumption | (with_reducible apply Blk.new_at; (first | rfl | (simp; done))) | with_reducible apply Blk.store3 | with_reducible apply Blk.store4 | (with_reducible apply Blk.farp; (first | omega | (simp <;> omega))) | with_reducible apply Blk.allocp | with_reducible apply Blk.drew | with_reducible apply Blk.drewN))) hc10
      have cF10 := hF10.cell; have fF10 := hF10.frozen; have lF10 := hF10.lt; have mF10 := Nat.ne_of_gt lF10; have nF10 := Nat.ne_of_lt lF10
      have hG10 : Blk v10 (v1.heap.size + 1) 25 #[.int .i64 g.a, .int .i64 g.b, .int .i64 g.c] := Blk.call (by (repeat (first | with_reducible assumption | (with_reducible apply Blk.new_at; (first | rfl | (simp; done))) | with_reducible apply Blk.store3 | with_reducible apply Blk.store4 | (with_reducible apply Blk.farp; (first | omega | (simp <;> omega))) | with_reducible apply Blk.allocp | with_reducible apply Blk.drew | with_reducible apply Blk.drewN))) hc10
      have cG10 := hG10.cell; have fG10 := hG10.frozen; have lG10 := hG10.lt; have mG10 := Nat.ne_of_gt lG10; have nG10 := Nat.ne_of_lt lG10
      have hH10 : Blk v10 (v5.heap.size) 25 #[.int .i64 r.a, .int .i64 r.b, .int .i64 r.c] := Blk.call (by (repeat (first | with_reducible assumption | (with_reducible apply Blk.new_at; (first | rfl | (simp; done))) | with_reducible apply Blk.store3 | with_reducible apply Blk.store4 | (with_reducible apply Blk.farp; (first | omega | (simp <;> omega))) | with_reducible apply Blk.allocp | with_reducible apply Blk.drew | with_reducible apply Blk.drewN))) hc10
      have cH10 := hH10.cell; have fH10 := hH10.frozen; have lH10 := hH10.lt; have mH10 := Nat.ne_of_gt lH10; have nH10 := Nat.ne_of_lt lH10
      have ha10 := own_call hc10 ha9
      have hn10 := own_call hc10 hn9
      have hbb10 := own_call hc10 hbb9
      have hb10 : Below w.heap.size w v10 := (by repeat (first | with_reducible exact Below.refl _ _ | with_reducible assumption | with_reducible apply Below.drew | with_reducible apply below_drewN | (with_reducible apply below_setp; (first | omega | (simp <;> omega))) | (with_reducible apply below_allocp; (first | omega | (simp <;> omega))) | (with_reducible refine below_viap (by assumption) ?_ ?_; (first | omega | (simp <;> omega)))))
      clear hF9 cF9 fF9 lF9 mF9 nF9 hG9 cG9 fG9 lG9 mG9 nG9 hH9 cH9 fH9 lH9 mH9 nH9 ha9 hn9 hbb9
      obtain ⟨bc, cc, rfl⟩ := own_shape hcc10
      go_wp2_with (go_at_call 13; refine (HPp.out _ _ _ hn10).mono ?_; rintro e v11 ⟨rfl, rfl⟩)
      have KA := Lib.hid ha10; have KB := Lib.hid hbb10; have KC := Lib.hid hcc10; have KN := Lib.hid hn10
      clear ha10 hbb10 hcc10 hn10
      go_loopw [140] (fun vi wr => LfSt n.length v10 vi wr) (fun vi _ => n.length - (intOf vi).toNat)
      case atStart => exact ⟨0, rfl, Nat.zero_le _, Below.refl _ _⟩
      case round =>
        obtain ⟨k, rfl, hk, hbel⟩ := hrel
        have hzr := hbel.size
        by_cases hlt : k < n.length
        · have hka : k < a.length := by rw [Hrow.out.ea]; exact hlt
          have hkb : k < b.length := by rw [Hrow.out.eb]; exact hlt
          have hkc : k < c.length := by rw [Hrow.out.ec]; exact hlt
          obtain ⟨g1, rfl, l1, d1⟩ := own_elemI (own_call hbel KA.out) hka
          obtain ⟨g2, rfl, l2, d2⟩ := own_elemI (own_call hbel KB.out) hkb
          obtain ⟨g3, rfl, l3, d3⟩ := own_elemI (own_call hbel KC.out) hkc
          have hnr := own_call hbel KN.out
          obtain ⟨a1, a2⟩ := Hrow.out.ba _ (List.getElem_mem hka)
          obtain ⟨b1, b2⟩ := Hrow.out.bb _ (List.getElem_mem hkb)
          obtain ⟨c1, c2⟩ := Hrow.out.bc _ (List.getElem_mem hkc)
          obtain ⟨n1, n2⟩ := Hrow.out.nb _ (List.getElem_mem hlt)
          have hsm := Hrow.out.sm k hlt hka hkb hkc
          have hn2 : decide (n[k] < 2) = false := decide_eq_false (by omega)
          have hn3 : ¬ n[k] = 0 := by omega
          rcases Nat.eq_zero_or_pos k with h0 | h0
          · subst h0
            obtain ⟨g4, rfl, l4, d4⟩ := own_elemI hnr hlt
            generalize a[0] = x at *
            generalize b[0] = y at *
            generalize c[0] = z at *
            generalize n[0] = t at *
            have hw1 : wrap64 (x + y) = x + y := IntWalk.wrap64_in _ (by omega)
            have hw2 : wrap64 (x + y - z) = x + y - z := IntWalk.wrap64_in _ (by omega)
            have hf0 : decide ((0 : Int) < 0) = false := by decide
            clear hnr
            go_wp2
            go_quiet (fail)
            go_wp2
            go_roundw
            case rel => exact ⟨1, by go_num, hlt, (by repeat (first | with_reducible exact Below.refl _ _ | with_reducible assumption | with_reducible apply Below.drew | with_reducible apply below_drewN | (with_reducible apply below_setp; (first | omega | (simp <;> omega))) | (with_reducible apply below_allocp; (first | omega | (simp <;> omega))) | (with_reducible refine below_viap (by assumption) ?_ ?_; (first | omega | (simp <;> omega)))))⟩
            case measure => (first | (simp [intOf]; done) | (simp [intOf]; omega))
          · obtain ⟨k, rfl⟩ : ∃ k', k = k' + 1 := ⟨k - 1, by omega⟩
            have hlt2 : k < n.length := by omega
            obtain ⟨g4, rfl, l4, d4⟩ := own_elemI hnr hlt
            obtain ⟨g5, hg5, _, d5⟩ := own_elemI hnr hlt2
            injection hg5 with hg5
            injection hg5 with hg5 _ _
            subst hg5
            obtain ⟨m1, m2⟩ := Hrow.out.nb _ (List.getElem_mem hlt2)
            have hdv := Hrow.out.dv k hlt
            generalize a[k + 1] = x at *
            generalize b[k + 1] = y at *
            generalize c[k + 1] = z at *
            generalize n[k + 1] = t at *
            generalize n[k] = s at *
            have hs0 : ¬ s = 0 := by omega
            have hw1 : wrap64 (x + y) = x + y := IntWalk.wrap64_in _ (by omega)
            have hw2 : wrap64 (x + y - z) = x + y - z := IntWalk.wrap64_in _ (by omega)
            have hw3 : wrap64 (((k + 1 : Nat) : Int) - 1) = (k : Int) := by rw [IntWalk.wrap64_in _ (by omega)]; omega
            have hkp : (0 : Int) < ((k + 1 : Nat) : Int) := by omega
            clear hnr
            go_wp2
            go_quiet (fail)
            go_wp2
            go_roundw
            case rel => exact ⟨k + 1 + 1, by go_num, hlt, (by repeat (first | with_reducible exact Below.refl _ _ | with_reducible assumption | with_reducible apply Below.drew | with_reducible apply below_drewN | (with_reducible apply below_setp; (first | omega | (simp <;> omega))) | (with_reducible apply below_allocp; (first | omega | (simp <;> omega))) | (with_reducible refine below_viap (by assumption) ?_ ?_; (first | omega | (simp <;> omega)))))⟩
            case measure => (first | (simp [intOf]; done) | (simp [intOf]; omega))
        · have hFr : Blk wr v1.heap.size 25 #[.int .i64 f.a, .int .i64 f.b, .int .i64 f.c] := hF10.call hbel
          have cFr := hFr.cell; have fFr := hFr.frozen; have lFr := hFr.lt
          go_wp2_with fail
          refine (HX.out _ _ _ (own_call hbel KA.out)).mono ?_
          rintro e v12 ⟨rfl, hc12⟩
          have hz12 := hc12.size
          have hF12 : Blk v12 v1.heap.size 25 #[.int .i64 f.a, .int .i64 f.b, .int .i64 f.c] := hFr.call hc12
          have cF12 := hF12.cell; have fF12 := hF12.frozen; have lF12 := hF12.lt; have mF12 := Nat.ne_of_gt lF12; have nF12 := Nat.ne_of_lt lF12
          have hb12 : Below v10.heap.size v10 v12 := below_via hbel hc12 hzr
          clear hFr cFr fFr lFr
          go_wp2_with fail
          refine (HF.out _).mono ?_
          rintro e v13 ⟨rfl, hc13⟩
          have hz13 := hc13.size
          (try simp at hz13)
          have hQ13 : Blk v13 v12.heap.size 25 #[.int .i64 q.a, .int .i64 q.b, .int .i64 q.c] := Blk.call (by (repeat (first | with_reducible assumption | (with_reducible apply Blk.new_at; (first | rfl | (simp; done))) | with_reducible apply Blk.store3 | with_reducible apply Blk.store4 | (with_reducible apply Blk.farp; (first | omega | (simp <;> omega))) | with_reducible apply Blk.allocp | with_reducible apply Blk.drew | with_reducible apply Blk.drewN))) hc13
          have cQ13 := hQ13.cell; have fQ13 := hQ13.frozen; have lQ13 := hQ13.lt; have mQ13 := Nat.ne_of_gt lQ13; have nQ13 := Nat.ne_of_lt lQ13
          go_wp2
          go_ret
          exact ⟨rfl, (by repeat (first | with_reducible exact Below.refl _ _ | with_reducible assumption | with_reducible apply Below.drew | with_reducible apply below_drewN | (with_reducible apply below_setp; (first | omega | (simp <;> omega))) | (with_reducible apply below_allocp; (first | omega | (simp <;> omega))) | (with_reducible refine below_viap (by assumption) ?_ ?_; (first | omega | (simp <;> omega)))))⟩
  · have Hb := Lib.hid (fun w => big_yes A A2 zs.length es.length c1 c2 w hbig)
    clear HZ hbig
    go_enter Tryz.func3, Tryz.ntmps3
    go_wp2_with (go_at_call 4; (with_reducible refine (Hb.out _).mono ?_); rintro e v ⟨rfl, rfl⟩)
    go_ret
    exact ⟨rfl, (by repeat (first | with_reducible exact Below.refl _ _ | with_reducible assumption | with_reducible apply Below.drew | with_reducible apply below_drewN | (with_reducible apply below_setp; (first | omega | (simp <;> omega))) | (with_reducible apply below_allocp; (first | omega | (simp <;> omega))) | (with_reducible refine below_viap (by assumption) ?_ ?_; (first | omega | (simp <;> omega)))))⟩
theorem own_FnLogarithms : ownKnob Tryz.prog.godebug = none := by kernel_rfl

set_option maxRecDepth 100000 in
theorem lifted_FnLogarithms (os : Os) (started : os.Started) (H : Type) (enc : TypeId × Value → H) :
    ReturnsInHanded {} Tryz.checked os 3 .any (Rows.fnLogarithmsSpec.pre6 enc Tryz.prog Tryz.f3 Rows.fnLogarithmsRow.domain false) (Rows.fnLogarithmsSpec.post enc Tryz.prog Tryz.f3 false true false false) := by
  refine returnsInHanded_of_change (C := Tryz.checked) own_FnLogarithms started (by kernel_rfl) Tryz.func3
    (ChangeSpec.witness6 (enc := enc) (C := Tryz.checked) false ⟨#[], #[.slice none 0 0, .slice none 0 0], []⟩ 8 (by kernel_rfl) (by kernel_rfl) (by kernel_rfl) (by kernel_rfl)) ?_
  intro W base args ds gs before hval0 hW hcnd _
  have hval : ∀ (j : Nat) t v, Tryz.f3.params[j]? = some t → args[j]? = some v → Value.okWide Tryz.prog W .any base t v := hval0
  have hW' := hW
  obtain ⟨p, q, hA0, hV, rfl, hfz, hnd⟩ := hW
  have hA : DataW.TrodAll enc Tryz.prog W 0 (fun _ => true) true Tryz.f3.params.toList args.toList ds p := hA0
  rw [Tryz.params3] at hA hval
  obtain ⟨v1, vs1, d1, ds1, p1, q1, hargs, rfl, rfl, h1, r1⟩ := trodAll_cons hA
  obtain ⟨v2, vs2, d2, ds2, p2, q2, rfl, rfl, rfl, h2, r2⟩ := trodAll_cons r1
  obtain ⟨rfl, rfl, rfl⟩ := trodAll_nil r2
  obtain rfl : args = #[v1, v2] := by cases args; simp_all
  obtain ⟨rfl, rfl⟩ := trodVars_none hV
  obtain ⟨zs, hrd⟩ := open_reB (hval 0 22 v1 rfl rfl) h1
  obtain ⟨es, hre⟩ := open_reB (hval 1 22 v2 rfl rfl) h2
  have hlt1 : ∀ x ∈ p1, x.block < W.heap.size := fun x hx => hW'.lt x (by simp [hx])
  have hlt2 : ∀ x ∈ p2, x.block < W.heap.size := fun x hx => hW'.lt x (by simp [hx])
  clear hA0 hval0
  refine (walk_FnLogarithms zs es v1 v2 W hrd hre).mono fun e W' ⟨he, hg⟩ => ?_
  subst he
  exact ⟨_, rfl, post_of_below (pa := p1 ++ (p2 ++ [])) (pv := []) hW' (fun _ _ _ => (trodAll_cons_mk (shut_bool Tryz.underlying4 _) trodAll_mk0)) (fun sp hsp => (trodAll_cons_mk (WideElems.Trod_stays laid_D3 (by kernel_rfl) (of_decide_eq_true (by kernel_rfl)) h1 (fun x hx => hg.same (hlt1 x hx)) (fun x hx => hsp x (by simp [hx]))) (trodAll_cons_mk (WideElems.Trod_stays laid_D3 (by kernel_rfl) (of_decide_eq_true (by kernel_rfl)) h2 (fun x hx => hg.same (hlt2 x hx)) (fun x hx => hsp x (by simp [hx]))) trodAll_mk0))) (fun _ _ => rfl) rfl
    hg (ok_one (by kernel_rfl) rfl (okWide_bool_mk Tryz.underlying4 _))⟩

/-- The statement. -/
theorem holds_FnLogarithms : Rows.FnLogarithmsSaid :=
  OpenClaim.holds_of_wide 3 Tryz.f3 rfl rfl rfl rfl rfl rfl rfl ⟨rfl, rfl, rfl, rfl, rfl⟩ rfl rfl rfl rfl rfl (by kernel_rfl) Tryz.func3 (by kernel_rfl)
    (of_decide_eq_true (by kernel_rfl)) (by unfold Func.isWrapper; first | (rw [if_pos (by decide +kernel)]; kernel_rfl) | (rw [if_neg (by decide +kernel)]; exact ⟨rfl, rfl⟩))
    (fun os started H enc _ => lifted_FnLogarithms os started H enc)
#print axioms holds_FnLogarithms
end Go.Proofs.YtkkamlhpappebaaGreat
