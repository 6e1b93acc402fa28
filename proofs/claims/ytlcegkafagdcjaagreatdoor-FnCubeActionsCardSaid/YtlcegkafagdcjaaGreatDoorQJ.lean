/- Contracts: matrices that act on cubes, of the reference (written by gen_QJ.py). -/
import Derived.Test.YtlcegkafagdcjaaGreatDoorQI
import Derived.Test.YtlcegkafagdcjaaGreatDoorRY
import Derived.Deep.OwnRows
import Derived.Deep.DeepCutAuto
namespace Go.Proofs.YtlcegkafagdcjaaGreatDoor
open Go.RowKit

/-- The determinant and the inverse of a matrix, as the machine reckons. -/
def detW (m : M4) : Int := wrap64 (wrap64 (m.p * m.s) - wrap64 (m.q * m.r))
def invW (m : M4) : M4 := ⟨wrap64 (detW m * m.s), wrap64 (wrap64 (-detW m) * m.q), wrap64 (wrap64 (-detW m) * m.r), wrap64 (detW m * m.p)⟩
set_option maxRecDepth 100000 in
set_option maxHeartbeats 6400000 in
theorem foDetW_any (m : M4) (w : World) : Calls Tryz.prog 31 #[.agg #[.int .i64 m.p, .int .i64 m.q, .int .i64 m.r, .int .i64 m.s]] w fun e w' => e = .returned (.int .i64 (detW m)) ∧ Below w.heap.size w w' := by
  go_enter Tryz.func31, Tryz.ntmps31
  go_wp2
  go_ret
  exact ⟨rfl, (by repeat (first | with_reducible exact Below.refl _ _ | with_reducible assumption | with_reducible apply Below.drew | with_reducible apply below_drewN | (with_reducible apply below_setp; (first | omega | (simp <;> omega))) | (with_reducible apply below_allocp; (first | omega | (simp <;> omega))) | (with_reducible refine below_viap (by assumption) ?_ ?_; (first | omega | (simp <;> omega)))))⟩
set_option maxRecDepth 100000 in
set_option maxHeartbeats 6400000 in
theorem foInvW_any (m : M4) (w : World) : Calls Tryz.prog 91 #[.agg #[.int .i64 m.p, .int .i64 m.q, .int .i64 m.r, .int .i64 m.s]] w fun e w' => e = .returned (.agg #[.int .i64 (invW m).p, .int .i64 (invW m).q, .int .i64 (invW m).r, .int .i64 (invW m).s]) ∧ Below w.heap.size w w' := by
  have hD := Lib.hid (fun w => foDetW_any m w)
  unfold invW
  generalize detW m = D at *
  go_enter Tryz.func91, Tryz.ntmps91
  go_wp2_with (go_at_call 31; (with_reducible refine (hD.out _).mono ?_); rintro e v1 ⟨rfl, hB1⟩; have hZ1 := hB1.size; (try simp at hZ1); (try have zl1 : w.heap.size < v1.heap.size := by omega); (try have ze1 : w.heap.size ≤ v1.heap.size := by omega); (try have zn1 : ¬ w.heap.size = v1.heap.size := by omega); (try have zm1 : ¬ v1.heap.size = w.heap.size := by omega); have hX1 : Blk v1 (w.heap.size) 27 #[.int .i64 m.p, .int .i64 m.q, .int .i64 m.r, .int .i64 m.s] := Blk.call (by (repeat (first | with_reducible assumption | (with_reducible apply Blk.new_at; (first | rfl | (simp; done))) | with_reducible apply Blk.store3 | with_reducible apply Blk.store4 | (with_reducible apply Blk.farp; (first | omega | (simp <;> omega))) | with_reducible apply Blk.allocp | with_reducible apply Blk.drew | with_reducible apply Blk.drewN))) hB1; have cX1 := hX1.cell; have fX1 := hX1.frozen; have lX1 := hX1.lt; have mX1 := Nat.ne_of_gt lX1; have nX1 := Nat.ne_of_lt lX1; have hR1 : Blk v1 (w.heap.size + 1) 27 #[.int .i64 0, .int .i64 0, .int .i64 0, .int .i64 0] := Blk.call (by (repeat (first | with_reducible assumption | (with_reducible apply Blk.new_at; (first | rfl | (simp; done))) | with_reducible apply Blk.store3 | with_reducible apply Blk.store4 | (with_reducible apply Blk.farp; (first | omega | (simp <;> omega))) | with_reducible apply Blk.allocp | with_reducible apply Blk.drew | with_reducible apply Blk.drewN))) hB1; have cR1 := hR1.cell; have fR1 := hR1.frozen; have lR1 := hR1.lt; have mR1 := Nat.ne_of_gt lR1; have nR1 := Nat.ne_of_lt lR1)
  exact bodyPost_ret (v := .agg #[.int .i64 (wrap64 (D * m.s)), .int .i64 (wrap64 (wrap64 (-D) * m.q)), .int .i64 (wrap64 (wrap64 (-D) * m.r)), .int .i64 (wrap64 (D * m.p))]) (by simp [results, Tryz.results91, go_sem, *]) rfl ⟨rfl, (by repeat (first | with_reducible exact Below.refl _ _ | with_reducible assumption | with_reducible apply Below.drew | with_reducible apply below_drewN | (with_reducible apply below_setp; (first | omega | (simp <;> omega))) | (with_reducible apply below_allocp; (first | omega | (simp <;> omega))) | (with_reducible refine below_viap (by assumption) ?_ ?_; (first | omega | (simp <;> omega)))))⟩
set_option maxRecDepth 100000 in
set_option maxHeartbeats 6400000 in
theorem cuOf_any (k : Cu) (g : Nat) (w : World) (hL : Blk w g 3 #[.int .i64 k.a, .int .i64 k.b, .int .i64 k.c, .int .i64 k.d, .int .i64 k.e, .int .i64 k.f, .int .i64 k.g, .int .i64 k.h]) : Calls Tryz.prog 54 #[.slice (some ⟨g, 0, none⟩) 8 8] w fun e w' => e = .returned (.agg #[.int .i64 k.a, .int .i64 k.b, .int .i64 k.c, .int .i64 k.d, .int .i64 k.e, .int .i64 k.f, .int .i64 k.g, .int .i64 k.h]) ∧ Below w.heap.size w w' := by
  have cL := hL.cell; have fL := hL.frozen; have lL := hL.lt; have mL := Nat.ne_of_gt lL; have nL := Nat.ne_of_lt lL
  go_enter Tryz.func54, Tryz.ntmps54
  go_wp2_with fail
  go_region_held3 (fun w' => w'.cell? ⟨g, 0, none⟩ = some (.int .i64 (k.a)) ∧ w'.cell? ⟨g, 1, none⟩ = some (.int .i64 (k.b)) ∧ w'.cell? ⟨g, 2, none⟩ = some (.int .i64 (k.c)) ∧ w'.cell? ⟨g, 3, none⟩ = some (.int .i64 (k.d)) ∧ w'.cell? ⟨g, 4, none⟩ = some (.int .i64 (k.e)) ∧ w'.cell? ⟨g, 5, none⟩ = some (.int .i64 (k.f)) ∧ w'.cell? ⟨g, 6, none⟩ = some (.int .i64 (k.g)) ∧ w'.cell? ⟨g, 7, none⟩ = some (.int .i64 (k.h))) (first | (go_keep; done) | (go_simp; done)) (fail)
  all_goals
    go_wp2
    exact bodyPost_ret (v := .agg #[.int .i64 k.a, .int .i64 k.b, .int .i64 k.c, .int .i64 k.d, .int .i64 k.e, .int .i64 k.f, .int .i64 k.g, .int .i64 k.h]) (by simp [results, Tryz.results54, go_sem, *]) rfl ⟨rfl, (by repeat (first | with_reducible exact Below.refl _ _ | with_reducible assumption | with_reducible apply Below.drew | with_reducible apply below_drewN | (with_reducible apply below_setp; (first | omega | (simp <;> omega))) | (with_reducible apply below_allocp; (first | omega | (simp <;> omega))) | (with_reducible refine below_viap (by assumption) ?_ ?_; (first | omega | (simp <;> omega)))))⟩
/-- What a matrix makes of two entries. -/
def acA (m : M4) (x y : Int) : Int := wrap64 (wrap64 (m.p * x) - wrap64 (m.r * y))
def acB (m : M4) (x y : Int) : Int := wrap64 (wrap64 (m.s * y) - wrap64 (m.q * x))
def cuFst (k : Cu) (m : M4) : Cu := ⟨acA m k.a k.e, acA m k.b k.f, acA m k.c k.g, acA m k.d k.h, acB m k.a k.e, acB m k.b k.f, acB m k.c k.g, acB m k.d k.h⟩
theorem Blk.put2 {w : World} {g : Nat} {t : TypeId} {cs cs' : Array Value} (h : Blk w g t cs) (i j : Nat) (u v : Value) (e : (cs.setIfInBounds i u).setIfInBounds j v = cs') : Blk ((w.setCell ⟨g, i, none⟩ u).setCell ⟨g, j, none⟩ v).drew.drew g t cs' := by
  subst e
  exact (h.set_ i u).set_ j v
theorem made8 : madeCells #[(.int .i64 0 : Value)] 8 = #[.int .i64 0, .int .i64 0, .int .i64 0, .int .i64 0, .int .i64 0, .int .i64 0, .int .i64 0, .int .i64 0] := by kernel_rfl
/-- What the reference's list of entries is. -/
def RetL8 (k : Cu) (w : World) (e : Ending) (w' : World) : Prop := ∃ g : Nat, e = .returned (.slice (some ⟨g, 0, none⟩) 8 8) ∧ Blk w' g 3 #[.int .i64 k.a, .int .i64 k.b, .int .i64 k.c, .int .i64 k.d, .int .i64 k.e, .int .i64 k.f, .int .i64 k.g, .int .i64 k.h] ∧ Below w.heap.size w w' ∧ w.heap.size ≤ g
set_option maxRecDepth 100000 in
set_option maxHeartbeats 6400000 in
theorem cuList8_any (k : Cu) (w : World) : Calls Tryz.prog 63 #[.agg #[.int .i64 k.a, .int .i64 k.b, .int .i64 k.c, .int .i64 k.d, .int .i64 k.e, .int .i64 k.f, .int .i64 k.g, .int .i64 k.h]] w (RetL8 k w) := by
  go_enter Tryz.func63, Tryz.ntmps63
  go_wp2
  go_ret
  exact ⟨_, rfl, Blk.new_at (by simp), (by repeat (first | with_reducible exact Below.refl _ _ | with_reducible assumption | with_reducible apply Below.drew | with_reducible apply below_drewN | (with_reducible apply below_setp; (first | omega | (simp <;> omega))) | (with_reducible apply below_allocp; (first | omega | (simp <;> omega))) | (with_reducible refine below_viap (by assumption) ?_ ?_; (first | omega | (simp <;> omega))))), by omega⟩
set_option maxRecDepth 100000 in
set_option maxHeartbeats 6400000 in
theorem cuFirst_any (k : Cu) (m : M4) (w : World) : Calls Tryz.prog 66 #[.agg #[.int .i64 k.a, .int .i64 k.b, .int .i64 k.c, .int .i64 k.d, .int .i64 k.e, .int .i64 k.f, .int .i64 k.g, .int .i64 k.h], .agg #[.int .i64 m.p, .int .i64 m.q, .int .i64 m.r, .int .i64 m.s]] w fun e w' => e = .returned (.agg #[.int .i64 ((cuFst k m).a), .int .i64 ((cuFst k m).b), .int .i64 ((cuFst k m).c), .int .i64 ((cuFst k m).d), .int .i64 ((cuFst k m).e), .int .i64 ((cuFst k m).f), .int .i64 ((cuFst k m).g), .int .i64 ((cuFst k m).h)]) ∧ Below w.heap.size w w' := by
  have hL := Lib.hid (fun w => cuList8_any k w)
  have hO := Lib.hid (fun g w h => cuOf_any (cuFst k m) g w h)
  have hmk := run_make_row' (P := Tryz.prog) 54 3 (.int .i64 0) 8 Tryz.underlying54 infoInt rfl .i64 .i64 8 (by omega) (by omega)
  rw [made8, show ((8 : Nat) : Int) = 8 from rfl] at hmk
  have x4 : IntKind.i64.wrap (4 : Int) = 4 := by decide
  have x5 : IntKind.i64.wrap (5 : Int) = 5 := by decide
  have x6 : IntKind.i64.wrap (6 : Int) = 6 := by decide
  have x7 : IntKind.i64.wrap (7 : Int) = 7 := by decide
  go_enter Tryz.func66, Tryz.ntmps66
  go_wp2_with fail
  refine (hL.out _).mono ?_
  rintro e v1 ⟨g, rfl, hG, hB1, hg⟩
  have hZ1 := hB1.size
  (try simp at hZ1 hg)
  have hX : Blk v1 w.heap.size 25 #[.int .i64 k.a, .int .i64 k.b, .int .i64 k.c, .int .i64 k.d, .int .i64 k.e, .int .i64 k.f, .int .i64 k.g, .int .i64 k.h] := Blk.call (by (repeat (first | with_reducible assumption | (with_reducible apply Blk.new_at; (first | rfl | (simp; done))) | with_reducible apply Blk.store3 | with_reducible apply Blk.store4 | (with_reducible apply Blk.farp; (first | omega | (simp <;> omega))) | with_reducible apply Blk.allocp | with_reducible apply Blk.drew | with_reducible apply Blk.drewN))) hB1
  have hM : Blk v1 (w.heap.size + 1) 27 #[.int .i64 m.p, .int .i64 m.q, .int .i64 m.r, .int .i64 m.s] := Blk.call (by (repeat (first | with_reducible assumption | (with_reducible apply Blk.new_at; (first | rfl | (simp; done))) | with_reducible apply Blk.store3 | with_reducible apply Blk.store4 | (with_reducible apply Blk.farp; (first | omega | (simp <;> omega))) | with_reducible apply Blk.allocp | with_reducible apply Blk.drew | with_reducible apply Blk.drewN))) hB1
  have hR : Blk v1 (w.heap.size + 1 + 1) 25 #[.int .i64 0, .int .i64 0, .int .i64 0, .int .i64 0, .int .i64 0, .int .i64 0, .int .i64 0, .int .i64 0] := Blk.call (by (repeat (first | with_reducible assumption | (with_reducible apply Blk.new_at; (first | rfl | (simp; done))) | with_reducible apply Blk.store3 | with_reducible apply Blk.store4 | (with_reducible apply Blk.farp; (first | omega | (simp <;> omega))) | with_reducible apply Blk.allocp | with_reducible apply Blk.drew | with_reducible apply Blk.drewN))) hB1
  have lG := hG.lt
  have hb1 : Below w.heap.size w v1 := (by repeat (first | with_reducible exact Below.refl _ _ | with_reducible assumption | with_reducible apply Below.drew | with_reducible apply below_drewN | (with_reducible apply below_setp; (first | omega | (simp <;> omega))) | (with_reducible apply below_allocp; (first | omega | (simp <;> omega))) | (with_reducible refine below_viap (by assumption) ?_ ?_; (first | omega | (simp <;> omega)))))
  clear hB1
  go_wp2
  go_loopw [7] (fun v7 wr => ((v7 = .int .i64 0 ∧ Blk wr v1.heap.size 3 #[.int .i64 0, .int .i64 0, .int .i64 0, .int .i64 0, .int .i64 0, .int .i64 0, .int .i64 0, .int .i64 0]) ∨ (v7 = .int .i64 1 ∧ Blk wr v1.heap.size 3 #[.int .i64 (acA m k.a k.e), .int .i64 0, .int .i64 0, .int .i64 0, .int .i64 (acB m k.a k.e), .int .i64 0, .int .i64 0, .int .i64 0]) ∨ (v7 = .int .i64 2 ∧ Blk wr v1.heap.size 3 #[.int .i64 (acA m k.a k.e), .int .i64 (acA m k.b k.f), .int .i64 0, .int .i64 0, .int .i64 (acB m k.a k.e), .int .i64 (acB m k.b k.f), .int .i64 0, .int .i64 0]) ∨ (v7 = .int .i64 3 ∧ Blk wr v1.heap.size 3 #[.int .i64 (acA m k.a k.e), .int .i64 (acA m k.b k.f), .int .i64 (acA m k.c k.g), .int .i64 0, .int .i64 (acB m k.a k.e), .int .i64 (acB m k.b k.f), .int .i64 (acB m k.c k.g), .int .i64 0]) ∨ (v7 = .int .i64 4 ∧ Blk wr v1.heap.size 3 #[.int .i64 (acA m k.a k.e), .int .i64 (acA m k.b k.f), .int .i64 (acA m k.c k.g), .int .i64 (acA m k.d k.h), .int .i64 (acB m k.a k.e), .int .i64 (acB m k.b k.f), .int .i64 (acB m k.c k.g), .int .i64 (acB m k.d k.h)])) ∧ Below v1.heap.size v1 wr) (fun v7 _ => 4 - (intOf v7).toNat)
  case atStart => exact ⟨.inl ⟨rfl, Blk.new_at rfl⟩, (by repeat (first | with_reducible exact Below.refl _ _ | with_reducible assumption | with_reducible apply Below.drew | with_reducible apply below_drewN | (with_reducible apply below_setp; (first | omega | (simp <;> omega))) | (with_reducible apply below_allocp; (first | omega | (simp <;> omega))) | (with_reducible refine below_viap (by assumption) ?_ ?_; (first | omega | (simp <;> omega)))))⟩
  case round =>
    obtain ⟨hst, hb⟩ := hrel
    have zr := hb.size
    have hGr : Blk wr g 3 #[.int .i64 k.a, .int .i64 k.b, .int .i64 k.c, .int .i64 k.d, .int .i64 k.e, .int .i64 k.f, .int .i64 k.g, .int .i64 k.h] := hG.below hb lG
    have hMr := hM.below hb hM.lt
    have hRr := hR.below hb hR.lt
    have cG := hGr.cell; have fG := hGr.frozen; have lGr := hGr.lt
    have cM := hMr.cell; have fM := hMr.frozen; have lM := hMr.lt
    have cR := hRr.cell; have fR := hRr.frozen; have lR := hRr.lt
    have n1 : ¬ g = v1.heap.size := by omega
    have n2 : ¬ v1.heap.size = g := by omega
    have n3 : ¬ w.heap.size + 1 = v1.heap.size := by omega
    have n4 : ¬ v1.heap.size = w.heap.size + 1 := by omega
    have n5 : ¬ v1.heap.size = w.heap.size + 1 + 1 := by omega
    have n6 : ¬ w.heap.size + 1 + 1 = v1.heap.size := by omega
    rcases hst with ⟨rfl, hW⟩ | ⟨rfl, hW⟩ | ⟨rfl, hW⟩ | ⟨rfl, hW⟩ | ⟨rfl, hW⟩
    · have cW := hW.cell; have fW := hW.frozen; have lW := hW.lt
      go_wp2_with fail
      go_region_held3 (fun w' => w'.cell? ⟨g, 0, none⟩ = some (.int .i64 (k.a)) ∧ w'.cell? ⟨g, 1, none⟩ = some (.int .i64 (k.b)) ∧ w'.cell? ⟨g, 2, none⟩ = some (.int .i64 (k.c)) ∧ w'.cell? ⟨g, 3, none⟩ = some (.int .i64 (k.d)) ∧ w'.cell? ⟨g, 4, none⟩ = some (.int .i64 (k.e)) ∧ w'.cell? ⟨g, 5, none⟩ = some (.int .i64 (k.f)) ∧ w'.cell? ⟨g, 6, none⟩ = some (.int .i64 (k.g)) ∧ w'.cell? ⟨g, 7, none⟩ = some (.int .i64 (k.h)) ∧ w'.cell? ⟨w.heap.size + 1, 0, none⟩ = some (.int .i64 (m.p)) ∧ w'.cell? ⟨w.heap.size + 1, 1, none⟩ = some (.int .i64 (m.q)) ∧ w'.cell? ⟨w.heap.size + 1, 2, none⟩ = some (.int .i64 (m.r)) ∧ w'.cell? ⟨w.heap.size + 1, 3, none⟩ = some (.int .i64 (m.s))) (first | (go_keep; done) | (go_simp; done)) (fail)
      all_goals
        go_wp2_with fail
        go_region_held3 (fun w' => w'.cell? ⟨g, 0, none⟩ = some (.int .i64 (k.a)) ∧ w'.cell? ⟨g, 1, none⟩ = some (.int .i64 (k.b)) ∧ w'.cell? ⟨g, 2, none⟩ = some (.int .i64 (k.c)) ∧ w'.cell? ⟨g, 3, none⟩ = some (.int .i64 (k.d)) ∧ w'.cell? ⟨g, 4, none⟩ = some (.int .i64 (k.e)) ∧ w'.cell? ⟨g, 5, none⟩ = some (.int .i64 (k.f)) ∧ w'.cell? ⟨g, 6, none⟩ = some (.int .i64 (k.g)) ∧ w'.cell? ⟨g, 7, none⟩ = some (.int .i64 (k.h)) ∧ w'.cell? ⟨w.heap.size + 1, 0, none⟩ = some (.int .i64 (m.p)) ∧ w'.cell? ⟨w.heap.size + 1, 1, none⟩ = some (.int .i64 (m.q)) ∧ w'.cell? ⟨w.heap.size + 1, 2, none⟩ = some (.int .i64 (m.r)) ∧ w'.cell? ⟨w.heap.size + 1, 3, none⟩ = some (.int .i64 (m.s))) (first | (go_keep; done) | (go_simp; done)) (fail)
        all_goals
          go_wp2
          go_roundw
          case rel => exact ⟨.inr (.inl ⟨rfl, Blk.put2 hW 0 4 _ _ rfl⟩), (by repeat (first | with_reducible exact Below.refl _ _ | with_reducible assumption | with_reducible apply Below.drew | with_reducible apply below_drewN | (with_reducible apply below_setp; (first | omega | (simp <;> omega))) | (with_reducible apply below_allocp; (first | omega | (simp <;> omega))) | (with_reducible refine below_viap (by assumption) ?_ ?_; (first | omega | (simp <;> omega)))))⟩
          case measure => (first | (simp [intOf]; done) | (simp [intOf]; omega))
    · have cW := hW.cell; have fW := hW.frozen; have lW := hW.lt
      go_wp2_with fail
      go_region_held3 (fun w' => w'.cell? ⟨g, 0, none⟩ = some (.int .i64 (k.a)) ∧ w'.cell? ⟨g, 1, none⟩ = some (.int .i64 (k.b)) ∧ w'.cell? ⟨g, 2, none⟩ = some (.int .i64 (k.c)) ∧ w'.cell? ⟨g, 3, none⟩ = some (.int .i64 (k.d)) ∧ w'.cell? ⟨g, 4, none⟩ = some (.int .i64 (k.e)) ∧ w'.cell? ⟨g, 5, none⟩ = some (.int .i64 (k.f)) ∧ w'.cell? ⟨g, 6, none⟩ = some (.int .i64 (k.g)) ∧ w'.cell? ⟨g, 7, none⟩ = some (.int .i64 (k.h)) ∧ w'.cell? ⟨w.heap.size + 1, 0, none⟩ = some (.int .i64 (m.p)) ∧ w'.cell? ⟨w.heap.size + 1, 1, none⟩ = some (.int .i64 (m.q)) ∧ w'.cell? ⟨w.heap.size + 1, 2, none⟩ = some (.int .i64 (m.r)) ∧ w'.cell? ⟨w.heap.size + 1, 3, none⟩ = some (.int .i64 (m.s))) (first | (go_keep; done) | (go_simp; done)) (fail)
      all_goals
        go_wp2_with fail
        go_region_held3 (fun w' => w'.cell? ⟨g, 0, none⟩ = some (.int .i64 (k.a)) ∧ w'.cell? ⟨g, 1, none⟩ = some (.int .i64 (k.b)) ∧ w'.cell? ⟨g, 2, none⟩ = some (.int .i64 (k.c)) ∧ w'.cell? ⟨g, 3, none⟩ = some (.int .i64 (k.d)) ∧ w'.cell? ⟨g, 4, none⟩ = some (.int .i64 (k.e)) ∧ w'.cell? ⟨g, 5, none⟩ = some (.int .i64 (k.f)) ∧ w'.cell? ⟨g, 6, none⟩ = some (.int .i64 (k.g)) ∧ w'.cell? ⟨g, 7, none⟩ = some (.int .i64 (k.h)) ∧ w'.cell? ⟨w.heap.size + 1, 0, none⟩ = some (.int .i64 (m.p)) ∧ w'.cell? ⟨w.heap.size + 1, 1, none⟩ = some (.int .i64 (m.q)) ∧ w'.cell? ⟨w.heap.size + 1, 2, none⟩ = some (.int .i64 (m.r)) ∧ w'.cell? ⟨w.heap.size + 1, 3, none⟩ = some (.int .i64 (m.s))) (first | (go_keep; done) | (go_simp; done)) (fail)
        all_goals
          go_wp2
          go_roundw
          case rel => exact ⟨.inr (.inr (.inl ⟨rfl, Blk.put2 hW 1 5 _ _ rfl⟩)), (by repeat (first | with_reducible exact Below.refl _ _ | with_reducible assumption | with_reducible apply Below.drew | with_reducible apply below_drewN | (with_reducible apply below_setp; (first | omega | (simp <;> omega))) | (with_reducible apply below_allocp; (first | omega | (simp <;> omega))) | (with_reducible refine below_viap (by assumption) ?_ ?_; (first | omega | (simp <;> omega)))))⟩
          case measure => (first | (simp [intOf]; done) | (simp [intOf]; omega))
    · have cW := hW.cell; have fW := hW.frozen; have lW := hW.lt
      go_wp2_with fail
      go_region_held3 (fun w' => w'.cell? ⟨g, 0, none⟩ = some (.int .i64 (k.a)) ∧ w'.cell? ⟨g, 1, none⟩ = some (.int .i64 (k.b)) ∧ w'.cell? ⟨g, 2, none⟩ = some (.int .i64 (k.c)) ∧ w'.cell? ⟨g, 3, none⟩ = some (.int .i64 (k.d)) ∧ w'.cell? ⟨g, 4, none⟩ = some (.int .i64 (k.e)) ∧ w'.cell? ⟨g, 5, none⟩ = some (.int .i64 (k.f)) ∧ w'.cell? ⟨g, 6, none⟩ = some (.int .i64 (k.g)) ∧ w'.cell? ⟨g, 7, none⟩ = some (.int .i64 (k.h)) ∧ w'.cell? ⟨w.heap.size + 1, 0, none⟩ = some (.int .i64 (m.p)) ∧ w'.cell? ⟨w.heap.size + 1, 1, none⟩ = some (.int .i64 (m.q)) ∧ w'.cell? ⟨w.heap.size + 1, 2, none⟩ = some (.int .i64 (m.r)) ∧ w'.cell? ⟨w.heap.size + 1, 3, none⟩ = some (.int .i64 (m.s))) (first | (go_keep; done) | (go_simp; done)) (fail)
      all_goals
        go_wp2_with fail
        go_region_held3 (fun w' => w'.cell? ⟨g, 0, none⟩ = some (.int .i64 (k.a)) ∧ w'.cell? ⟨g, 1, none⟩ = some (.int .i64 (k.b)) ∧ w'.cell? ⟨g, 2, none⟩ = some (.int .i64 (k.c)) ∧ w'.cell? ⟨g, 3, none⟩ = some (.int .i64 (k.d)) ∧ w'.cell? ⟨g, 4, none⟩ = some (.int .i64 (k.e)) ∧ w'.cell? ⟨g, 5, none⟩ = some (.int .i64 (k.f)) ∧ w'.cell? ⟨g, 6, none⟩ = some (.int .i64 (k.g)) ∧ w'.cell? ⟨g, 7, none⟩ = some (.int .i64 (k.h)) ∧ w'.cell? ⟨w.heap.size + 1, 0, none⟩ = some (.int .i64 (m.p)) ∧ w'.cell? ⟨w.heap.size + 1, 1, none⟩ = some (.int .i64 (m.q)) ∧ w'.cell? ⟨w.heap.size + 1, 2, none⟩ = some (.int .i64 (m.r)) ∧ w'.cell? ⟨w.heap.size + 1, 3, none⟩ = some (.int .i64 (m.s))) (first | (go_keep; done) | (go_simp; done)) (fail)
        all_goals
          go_wp2
          go_roundw
          case rel => exact ⟨.inr (.inr (.inr (.inl ⟨rfl, Blk.put2 hW 2 6 _ _ rfl⟩))), (by repeat (first | with_reducible exact Below.refl _ _ | with_reducible assumption | with_reducible apply Below.drew | with_reducible apply below_drewN | (with_reducible apply below_setp; (first | omega | (simp <;> omega))) | (with_reducible apply below_allocp; (first | omega | (simp <;> omega))) | (with_reducible refine below_viap (by assumption) ?_ ?_; (first | omega | (simp <;> omega)))))⟩
          case measure => (first | (simp [intOf]; done) | (simp [intOf]; omega))
    · have cW := hW.cell; have fW := hW.frozen; have lW := hW.lt
      go_wp2_with fail
      go_region_held3 (fun w' => w'.cell? ⟨g, 0, none⟩ = some (.int .i64 (k.a)) ∧ w'.cell? ⟨g, 1, none⟩ = some (.int .i64 (k.b)) ∧ w'.cell? ⟨g, 2, none⟩ = some (.int .i64 (k.c)) ∧ w'.cell? ⟨g, 3, none⟩ = some (.int .i64 (k.d)) ∧ w'.cell? ⟨g, 4, none⟩ = some (.int .i64 (k.e)) ∧ w'.cell? ⟨g, 5, none⟩ = some (.int .i64 (k.f)) ∧ w'.cell? ⟨g, 6, none⟩ = some (.int .i64 (k.g)) ∧ w'.cell? ⟨g, 7, none⟩ = some (.int .i64 (k.h)) ∧ w'.cell? ⟨w.heap.size + 1, 0, none⟩ = some (.int .i64 (m.p)) ∧ w'.cell? ⟨w.heap.size + 1, 1, none⟩ = some (.int .i64 (m.q)) ∧ w'.cell? ⟨w.heap.size + 1, 2, none⟩ = some (.int .i64 (m.r)) ∧ w'.cell? ⟨w.heap.size + 1, 3, none⟩ = some (.int .i64 (m.s))) (first | (go_keep; done) | (go_simp; done)) (fail)
      all_goals
        go_wp2_with fail
        go_region_held3 (fun w' => w'.cell? ⟨g, 0, none⟩ = some (.int .i64 (k.a)) ∧ w'.cell? ⟨g, 1, none⟩ = some (.int .i64 (k.b)) ∧ w'.cell? ⟨g, 2, none⟩ = some (.int .i64 (k.c)) ∧ w'.cell? ⟨g, 3, none⟩ = some (.int .i64 (k.d)) ∧ w'.cell? ⟨g, 4, none⟩ = some (.int .i64 (k.e)) ∧ w'.cell? ⟨g, 5, none⟩ = some (.int .i64 (k.f)) ∧ w'.cell? ⟨g, 6, none⟩ = some (.int .i64 (k.g)) ∧ w'.cell? ⟨g, 7, none⟩ = some (.int .i64 (k.h)) ∧ w'.cell? ⟨w.heap.size + 1, 0, none⟩ = some (.int .i64 (m.p)) ∧ w'.cell? ⟨w.heap.size + 1, 1, none⟩ = some (.int .i64 (m.q)) ∧ w'.cell? ⟨w.heap.size + 1, 2, none⟩ = some (.int .i64 (m.r)) ∧ w'.cell? ⟨w.heap.size + 1, 3, none⟩ = some (.int .i64 (m.s))) (first | (go_keep; done) | (go_simp; done)) (fail)
        all_goals
          go_wp2
          go_roundw
          case rel => exact ⟨.inr (.inr (.inr (.inr (⟨rfl, Blk.put2 hW 3 7 _ _ rfl⟩)))), (by repeat (first | with_reducible exact Below.refl _ _ | with_reducible assumption | with_reducible apply Below.drew | with_reducible apply below_drewN | (with_reducible apply below_setp; (first | omega | (simp <;> omega))) | (with_reducible apply below_allocp; (first | omega | (simp <;> omega))) | (with_reducible refine below_viap (by assumption) ?_ ?_; (first | omega | (simp <;> omega)))))⟩
          case measure => (first | (simp [intOf]; done) | (simp [intOf]; omega))
    · have cW := hW.cell; have fW := hW.frozen; have lW := hW.lt
      go_wp2_with (go_at_call 54; (with_reducible refine (hO.out _ _ hW).mono ?_); rintro e v2 ⟨rfl, hB2⟩; have hZ2 := hB2.size; have hR2 := hRr.call hB2; have cR2 := hR2.cell; have fR2 := hR2.frozen; have lR2 := hR2.lt)
      exact bodyPost_ret (v := .agg #[.int .i64 ((cuFst k m).a), .int .i64 ((cuFst k m).b), .int .i64 ((cuFst k m).c), .int .i64 ((cuFst k m).d), .int .i64 ((cuFst k m).e), .int .i64 ((cuFst k m).f), .int .i64 ((cuFst k m).g), .int .i64 ((cuFst k m).h)]) (by simp [results, Tryz.results66, go_sem, *]) rfl ⟨rfl, (by repeat (first | with_reducible exact Below.refl _ _ | with_reducible assumption | with_reducible apply Below.drew | with_reducible apply below_drewN | (with_reducible apply below_setp; (first | omega | (simp <;> omega))) | (with_reducible apply below_allocp; (first | omega | (simp <;> omega))) | (with_reducible refine below_viap (by assumption) ?_ ?_; (first | omega | (simp <;> omega)))))⟩
end Go.Proofs.YtlcegkafagdcjaaGreatDoor
