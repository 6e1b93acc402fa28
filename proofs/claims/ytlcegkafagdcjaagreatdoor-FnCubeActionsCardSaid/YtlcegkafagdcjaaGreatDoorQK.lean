/- Contracts: a matrix acts on a cube, the identity cube, the cube of two forms, of the reference (written by gen_QK.py). -/
import Derived.Test.YtlcegkafagdcjaaGreatDoorQJ
import Derived.Test.YtlcegkafagdcjaaGreatDoorUB
import Derived.Test.YtlcegkafagdcjaaGreatDoorR2
namespace Go.Proofs.YtlcegkafagdcjaaGreatDoor
open Go.RowKit

/-- A cube turned t times. -/
def tn : Nat → Cu → Cu
  | 0, k => k
  | t + 1, k => cuT (tn t k)
/-- A matrix acts in the direction n + 1. -/
def cuActF (k : Cu) (n : Nat) (m : M4) : Cu := tn (3 - n) (cuFst (tn n k) m)
theorem Blk.put8 {w : World} {g : Nat} {t : TypeId} {cs : Array Value} {a b c d e f u v : Value} (h : Blk w g t cs) (hs : cs.size = 8) :
    Blk ((((((((w.setCell ⟨g, 0, none⟩ a).setCell ⟨g, 1, none⟩ b).setCell ⟨g, 2, none⟩ c).setCell ⟨g, 3, none⟩ d).setCell ⟨g, 4, none⟩ e).setCell ⟨g, 5, none⟩ f).setCell ⟨g, 6, none⟩ u).setCell ⟨g, 7, none⟩ v) g t #[a, b, c, d, e, f, u, v] := by
  match cs, hs with
  | ⟨[x0, x1, x2, x3, x4, x5, x6, x7]⟩, _ =>
    have h0 : Blk (w.setCell ⟨g, 0, none⟩ a) g t #[a, x1, x2, x3, x4, x5, x6, x7] := h.set_ 0 a
    have h1 : Blk ((w.setCell ⟨g, 0, none⟩ a).setCell ⟨g, 1, none⟩ b) g t #[a, b, x2, x3, x4, x5, x6, x7] := h0.set_ 1 b
    have h2 : Blk (((w.setCell ⟨g, 0, none⟩ a).setCell ⟨g, 1, none⟩ b).setCell ⟨g, 2, none⟩ c) g t #[a, b, c, x3, x4, x5, x6, x7] := h1.set_ 2 c
    have h3 : Blk ((((w.setCell ⟨g, 0, none⟩ a).setCell ⟨g, 1, none⟩ b).setCell ⟨g, 2, none⟩ c).setCell ⟨g, 3, none⟩ d) g t #[a, b, c, d, x4, x5, x6, x7] := h2.set_ 3 d
    have h4 : Blk (((((w.setCell ⟨g, 0, none⟩ a).setCell ⟨g, 1, none⟩ b).setCell ⟨g, 2, none⟩ c).setCell ⟨g, 3, none⟩ d).setCell ⟨g, 4, none⟩ e) g t #[a, b, c, d, e, x5, x6, x7] := h3.set_ 4 e
    have h5 : Blk ((((((w.setCell ⟨g, 0, none⟩ a).setCell ⟨g, 1, none⟩ b).setCell ⟨g, 2, none⟩ c).setCell ⟨g, 3, none⟩ d).setCell ⟨g, 4, none⟩ e).setCell ⟨g, 5, none⟩ f) g t #[a, b, c, d, e, f, x6, x7] := h4.set_ 5 f
    have h6 : Blk (((((((w.setCell ⟨g, 0, none⟩ a).setCell ⟨g, 1, none⟩ b).setCell ⟨g, 2, none⟩ c).setCell ⟨g, 3, none⟩ d).setCell ⟨g, 4, none⟩ e).setCell ⟨g, 5, none⟩ f).setCell ⟨g, 6, none⟩ u) g t #[a, b, c, d, e, f, u, x7] := h5.set_ 6 u
    have h7 : Blk ((((((((w.setCell ⟨g, 0, none⟩ a).setCell ⟨g, 1, none⟩ b).setCell ⟨g, 2, none⟩ c).setCell ⟨g, 3, none⟩ d).setCell ⟨g, 4, none⟩ e).setCell ⟨g, 5, none⟩ f).setCell ⟨g, 6, none⟩ u).setCell ⟨g, 7, none⟩ v) g t #[a, b, c, d, e, f, u, v] := h6.set_ 7 v
    exact h7
set_option maxRecDepth 100000 in
set_option maxHeartbeats 6400000 in
theorem cuAct_any (k : Cu) (n : Nat) (m : M4) (w : World) (hn : n ≤ 2) : Calls Tryz.prog 32 #[.agg #[.int .i64 k.a, .int .i64 k.b, .int .i64 k.c, .int .i64 k.d, .int .i64 k.e, .int .i64 k.f, .int .i64 k.g, .int .i64 k.h], .int .i64 (n + 1), .agg #[.int .i64 m.p, .int .i64 m.q, .int .i64 m.r, .int .i64 m.s]] w fun e w' => e = .returned (.agg #[.int .i64 ((cuActF k n m).a), .int .i64 ((cuActF k n m).b), .int .i64 ((cuActF k n m).c), .int .i64 ((cuActF k n m).d), .int .i64 ((cuActF k n m).e), .int .i64 ((cuActF k n m).f), .int .i64 ((cuActF k n m).g), .int .i64 ((cuActF k n m).h)]) ∧ Below w.heap.size w w' := by
  have hT := Lib.hid (fun k w => cuTurn_any k w)
  have hF := Lib.hid (fun k w => cuFirst_any k m w)
  obtain ⟨V, hV⟩ : ∃ V, cuActF k n m = V := ⟨_, rfl⟩
  rw [hV]
  have HV := Lib.hid hV
  clear hV
  go_enter Tryz.func32, Tryz.ntmps32
  go_wp2
  go_loopw [7] (fun v7 wr => ∃ t : Nat, v7 = .int .i64 (t + 1) ∧ t ≤ n ∧ Blk wr w.heap.size 25 #[.int .i64 ((tn t k).a), .int .i64 ((tn t k).b), .int .i64 ((tn t k).c), .int .i64 ((tn t k).d), .int .i64 ((tn t k).e), .int .i64 ((tn t k).f), .int .i64 ((tn t k).g), .int .i64 ((tn t k).h)] ∧ Blk wr (w.heap.size + 1) 27 #[.int .i64 m.p, .int .i64 m.q, .int .i64 m.r, .int .i64 m.s] ∧ Blk wr (w.heap.size + 1 + 1) 25 #[.int .i64 0, .int .i64 0, .int .i64 0, .int .i64 0, .int .i64 0, .int .i64 0, .int .i64 0, .int .i64 0] ∧ Below w.heap.size w wr) (fun v7 _ => n + 1 - (intOf v7).toNat)
  case atStart => exact ⟨0, rfl, by omega, by show Blk _ w.heap.size 25 #[.int .i64 k.a, .int .i64 k.b, .int .i64 k.c, .int .i64 k.d, .int .i64 k.e, .int .i64 k.f, .int .i64 k.g, .int .i64 k.h]; (repeat (first | with_reducible assumption | (with_reducible apply Blk.new_at; (first | rfl | (simp; done))) | with_reducible apply Blk.store3 | with_reducible apply Blk.store4 | (with_reducible apply Blk.farp; (first | omega | (simp <;> omega))) | with_reducible apply Blk.allocp | with_reducible apply Blk.drew | with_reducible apply Blk.drewN)), by (repeat (first | with_reducible assumption | (with_reducible apply Blk.new_at; (first | rfl | (simp; done))) | with_reducible apply Blk.store3 | with_reducible apply Blk.store4 | (with_reducible apply Blk.farp; (first | omega | (simp <;> omega))) | with_reducible apply Blk.allocp | with_reducible apply Blk.drew | with_reducible apply Blk.drewN)), by (repeat (first | with_reducible assumption | (with_reducible apply Blk.new_at; (first | rfl | (simp; done))) | with_reducible apply Blk.store3 | with_reducible apply Blk.store4 | (with_reducible apply Blk.farp; (first | omega | (simp <;> omega))) | with_reducible apply Blk.allocp | with_reducible apply Blk.drew | with_reducible apply Blk.drewN)), (by repeat (first | with_reducible exact Below.refl _ _ | with_reducible assumption | with_reducible apply Below.drew | with_reducible apply below_drewN | (with_reducible apply below_setp; (first | omega | (simp <;> omega))) | (with_reducible apply below_allocp; (first | omega | (simp <;> omega))) | (with_reducible refine below_viap (by assumption) ?_ ?_; (first | omega | (simp <;> omega)))))⟩
  case round =>
    obtain ⟨t, rfl, ht, hX, hM, hR, hb⟩ := hrel
    have cX := hX.cell; have fX := hX.frozen; have lX := hX.lt; have mX := Nat.ne_of_gt lX; have nX := Nat.ne_of_lt lX
    have cM := hM.cell; have fM := hM.frozen; have lM := hM.lt; have mM := Nat.ne_of_gt lM; have nM := Nat.ne_of_lt lM
    have cR := hR.cell; have fR := hR.frozen; have lR := hR.lt; have mR := Nat.ne_of_gt lR; have nR := Nat.ne_of_lt lR
    have zr := hb.size
    by_cases hlt : t < n
    · have kI : (t : Int) + 1 < (n : Int) + 1 := by omega
      have w1 : wrap64 ((t : Int) + 1 + 1) = (t : Int) + 1 + 1 := IntWalk.wrap64_in _ (by omega)
      have W1 := Lib.hid w1
      clear w1
      have HT := Lib.hid (fun w => hT.out (tn t k) w)
      have hs : cuT (tn t k) = tn (t + 1) k := rfl
      rw [hs] at HT
      obtain ⟨q1, hq1⟩ : ∃ q1, tn (t + 1) k = q1 := ⟨_, rfl⟩
      rw [hq1] at HT
      have HQ := Lib.hid hq1
      clear hs hq1
      generalize tn t k = q at *
      go_wp2_with fail
      refine (HT.out _).mono ?_
      rintro e v2 ⟨rfl, hB2⟩
      have hZ2 := hB2.size
      have hX2 := hX.call hB2; have hM2 := hM.call hB2; have hR2 := hR.call hB2
      have hb2 : Below w.heap.size w v2 := (by repeat (first | with_reducible exact Below.refl _ _ | with_reducible assumption | with_reducible apply Below.drew | with_reducible apply below_drewN | (with_reducible apply below_setp; (first | omega | (simp <;> omega))) | (with_reducible apply below_allocp; (first | omega | (simp <;> omega))) | (with_reducible refine below_viap (by assumption) ?_ ?_; (first | omega | (simp <;> omega)))))
      have cX2 := hX2.cell; have fX2 := hX2.frozen; have lX2 := hX2.lt; have mX2 := Nat.ne_of_gt lX2; have nX2 := Nat.ne_of_lt lX2; have cM2 := hM2.cell; have fM2 := hM2.frozen; have lM2 := hM2.lt; have mM2 := Nat.ne_of_gt lM2; have nM2 := Nat.ne_of_lt lM2; have cR2 := hR2.cell; have fR2 := hR2.frozen; have lR2 := hR2.lt; have mR2 := Nat.ne_of_gt lR2; have nR2 := Nat.ne_of_lt lR2
      have w1 := W1.out
      clear hX hM hR hB2 hb cX fX lX cM fM lM cR fR lR mX nX mM nM mR nR
      go_wp2
      clear w1
      go_roundw
      case rel => exact ⟨t + 1, by go_num, by omega, by rw [HQ.out]; exact hX2.put8 rfl, by repeat (first | with_reducible exact hM2 | (with_reducible apply Blk.farp; (first | omega | (simp <;> omega)))), by repeat (first | with_reducible exact hR2 | (with_reducible apply Blk.farp; (first | omega | (simp <;> omega)))), (by repeat (first | with_reducible exact Below.refl _ _ | with_reducible assumption | with_reducible apply Below.drew | with_reducible apply below_drewN | (with_reducible apply below_setp; (first | omega | (simp <;> omega))) | (with_reducible apply below_allocp; (first | omega | (simp <;> omega))) | (with_reducible refine below_viap (by assumption) ?_ ?_; (first | omega | (simp <;> omega)))))⟩
      case measure => (first | (simp [intOf]; done) | (simp [intOf]; omega))
    · obtain rfl : t = n := by omega
      have kI : ¬ (t : Int) + 1 < (t : Int) + 1 := by omega
      have HF := Lib.hid (fun w => hF.out (tn t k) w)
      obtain ⟨K, hK⟩ : ∃ K, cuFst (tn t k) m = K := ⟨_, rfl⟩
      rw [hK] at HF
      have HRs := Lib.hid (show tn (3 - t) K = V by rw [← HV.out]; unfold cuActF; rw [hK])
      clear hK hF
      generalize tn t k = q at *
      go_wp2_with fail
      refine (HF.out _).mono ?_
      rintro e v2 ⟨rfl, hB2⟩
      have hZ2 := hB2.size
      have hX2 := hX.call hB2; have hM2 := hM.call hB2; have hR2 := hR.call hB2
      have hb2 : Below w.heap.size w v2 := (by repeat (first | with_reducible exact Below.refl _ _ | with_reducible assumption | with_reducible apply Below.drew | with_reducible apply below_drewN | (with_reducible apply below_setp; (first | omega | (simp <;> omega))) | (with_reducible apply below_allocp; (first | omega | (simp <;> omega))) | (with_reducible refine below_viap (by assumption) ?_ ?_; (first | omega | (simp <;> omega)))))
      have cX2 := hX2.cell; have fX2 := hX2.frozen; have lX2 := hX2.lt; have mX2 := Nat.ne_of_gt lX2; have nX2 := Nat.ne_of_lt lX2; have cM2 := hM2.cell; have fM2 := hM2.frozen; have lM2 := hM2.lt; have mM2 := Nat.ne_of_gt lM2; have nM2 := Nat.ne_of_lt lM2; have cR2 := hR2.cell; have fR2 := hR2.frozen; have lR2 := hR2.lt; have mR2 := Nat.ne_of_gt lR2; have nR2 := Nat.ne_of_lt lR2
      clear hX hM hR hB2 hb cX fX lX cM fM lM cR fR lR mX nX mM nM mR nR HF
      have hX3 := hX2.put8 (a := .int .i64 K.a) (b := .int .i64 K.b) (c := .int .i64 K.c) (d := .int .i64 K.d) (e := .int .i64 K.e) (f := .int .i64 K.f) (u := .int .i64 K.g) (v := .int .i64 K.h) rfl
      go_wp2
      go_loopw [8] (fun v8 wr => ∃ s : Nat, v8 = .int .i64 (t + 1 + s) ∧ t + s ≤ 3 ∧ Blk wr w.heap.size 25 #[.int .i64 ((tn s K).a), .int .i64 ((tn s K).b), .int .i64 ((tn s K).c), .int .i64 ((tn s K).d), .int .i64 ((tn s K).e), .int .i64 ((tn s K).f), .int .i64 ((tn s K).g), .int .i64 ((tn s K).h)] ∧ Blk wr (w.heap.size + 1 + 1) 25 #[.int .i64 0, .int .i64 0, .int .i64 0, .int .i64 0, .int .i64 0, .int .i64 0, .int .i64 0, .int .i64 0] ∧ Below w.heap.size w wr) (fun v8 _ => 4 - (intOf v8).toNat)
      case atStart => exact ⟨0, by go_num, by omega, hX3, by repeat (first | with_reducible exact hR2 | (with_reducible apply Blk.farp; (first | omega | (simp <;> omega)))), (by repeat (first | with_reducible exact Below.refl _ _ | with_reducible assumption | with_reducible apply Below.drew | with_reducible apply below_drewN | (with_reducible apply below_setp; (first | omega | (simp <;> omega))) | (with_reducible apply below_allocp; (first | omega | (simp <;> omega))) | (with_reducible refine below_viap (by assumption) ?_ ?_; (first | omega | (simp <;> omega)))))⟩
      case round =>
        clear hX2 cX2 fX2 lX2 mX2 nX2 hX3 hM2 cM2 fM2 lM2 mM2 nM2 hR2 cR2 fR2 lR2 mR2 nR2 hb2
        obtain ⟨s, rfl, hs, hX, hR, hb⟩ := hrel
        have cX := hX.cell; have fX := hX.frozen; have lX := hX.lt; have mX := Nat.ne_of_gt lX; have nX := Nat.ne_of_lt lX
        have cR := hR.cell; have fR := hR.frozen; have lR := hR.lt; have mR := Nat.ne_of_gt lR; have nR := Nat.ne_of_lt lR
        have zr := hb.size
        by_cases hlt : t + s < 3
        · have kI : (t : Int) + 1 + s ≤ 3 := by omega
          have W1 := Lib.hid (show wrap64 ((t : Int) + 1 + s + 1) = (t : Int) + 1 + s + 1 from IntWalk.wrap64_in _ (by omega))
          have HT := Lib.hid (fun w => hT.out (tn s K) w)
          have he : cuT (tn s K) = tn (s + 1) K := rfl
          rw [he] at HT
          obtain ⟨q1, hq1⟩ : ∃ q1, tn (s + 1) K = q1 := ⟨_, rfl⟩
          rw [hq1] at HT
          have HQ := Lib.hid hq1
          clear he hq1
          generalize tn s K = q2 at *
          go_wp2_with fail
          refine (HT.out _).mono ?_
          rintro e v3 ⟨rfl, hB3⟩
          have hZ3 := hB3.size
          have hX3 := hX.call hB3; have hR3 := hR.call hB3
          have hb3 : Below w.heap.size w v3 := (by repeat (first | with_reducible exact Below.refl _ _ | with_reducible assumption | with_reducible apply Below.drew | with_reducible apply below_drewN | (with_reducible apply below_setp; (first | omega | (simp <;> omega))) | (with_reducible apply below_allocp; (first | omega | (simp <;> omega))) | (with_reducible refine below_viap (by assumption) ?_ ?_; (first | omega | (simp <;> omega)))))
          have cX3 := hX3.cell; have fX3 := hX3.frozen; have lX3 := hX3.lt; have mX3 := Nat.ne_of_gt lX3; have nX3 := Nat.ne_of_lt lX3
          have cR3 := hR3.cell; have fR3 := hR3.frozen; have lR3 := hR3.lt; have mR3 := Nat.ne_of_gt lR3; have nR3 := Nat.ne_of_lt lR3
          have w1 := W1.out
          clear hX hR hB3 hb cX fX lX cR fR lR mX nX mR nR
          go_wp2
          clear w1
          go_roundw
          case rel => exact ⟨s + 1, by go_num, by omega, by rw [HQ.out]; exact hX3.put8 rfl, by repeat (first | with_reducible exact hR3 | (with_reducible apply Blk.farp; (first | omega | (simp <;> omega)))), (by repeat (first | with_reducible exact Below.refl _ _ | with_reducible assumption | with_reducible apply Below.drew | with_reducible apply below_drewN | (with_reducible apply below_setp; (first | omega | (simp <;> omega))) | (with_reducible apply below_allocp; (first | omega | (simp <;> omega))) | (with_reducible refine below_viap (by assumption) ?_ ?_; (first | omega | (simp <;> omega)))))⟩
          case measure => (first | (simp [intOf]; done) | (simp [intOf]; omega))
        · obtain rfl : s = 3 - t := by omega
          have kI : ¬ (t : Int) + 1 + ((3 - t : Nat) : Int) ≤ 3 := by omega
          rw [HRs.out] at cX hX
          go_wp2
          exact bodyPost_ret (v := .agg #[.int .i64 V.a, .int .i64 V.b, .int .i64 V.c, .int .i64 V.d, .int .i64 V.e, .int .i64 V.f, .int .i64 V.g, .int .i64 V.h]) (by simp [results, Tryz.results32, go_sem, *]) rfl ⟨rfl, (by repeat (first | with_reducible exact Below.refl _ _ | with_reducible assumption | with_reducible apply Below.drew | with_reducible apply below_drewN | (with_reducible apply below_setp; (first | omega | (simp <;> omega))) | (with_reducible apply below_allocp; (first | omega | (simp <;> omega))) | (with_reducible refine below_viap (by assumption) ?_ ?_; (first | omega | (simp <;> omega)))))⟩
end Go.Proofs.YtlcegkafagdcjaaGreatDoor
