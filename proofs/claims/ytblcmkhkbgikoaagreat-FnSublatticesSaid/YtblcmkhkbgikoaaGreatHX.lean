/- Contract: the shortest points, of the reference (written by gen_HX.py). -/
import Derived.Test.YtblcmkhkbgikoaaGreatHW
namespace Go.Proofs.YtblcmkhkbgikoaaGreat
open Go.RowKit

theorem box9_at {i j : Nat} (hi : i < 3) (hj : j < 3) : ∃ h : 3 * i + j < box9.length, box9[3 * i + j] = (-1 + (i : Int), -1 + (j : Int)) := by
  rcases (show i = 0 ∨ i = 1 ∨ i = 2 by omega) with rfl | rfl | rfl <;> rcases (show j = 0 ∨ j = 1 ∨ j = 2 by omega) with rfl | rfl | rfl <;> exact ⟨by decide, rfl⟩
/-- What ShortestPoints gives. -/
def RetSp (r : Fm) (m : M4) (A B D : Int) (w : World) (e : Ending) (w' : World) : Prop := ∃ K v, e = .returned (.tuple #[.int .i64 r.a, v, .bool true]) ∧ BxS r m A B D 9 K ∧ w'.ownsRow w.heap.size 51 2 v K.length (cellsP K) ∧ Below w.heap.size w w'
set_option maxRecDepth 100000 in
set_option maxHeartbeats 12800000 in
theorem specSP_no (f : Fm) (A B D : Int) (w : World) (h : laA f A B D = false) : Calls Tryz.prog 12 #[.agg #[.int .i64 f.a, .int .i64 f.b, .int .i64 f.c], .agg #[.int .i64 A, .int .i64 B, .int .i64 D]] w fun e w' => e = .returned (.tuple #[.int .i64 0, .slice none 0 0, .bool false]) ∧ Below w.heap.size w w' := by
  have hA := Lib.hid (fun w => laAsked_any f A B D w)
  rw [h] at hA
  clear h
  go_enter Tryz.func12, Tryz.ntmps12
  go_wp2_with (go_at_call 32; (with_reducible refine (hA.out _).mono ?_); rintro e v1 ⟨rfl, hB1⟩; have hZ1 := hB1.size; (try simp at hZ1); (try have zl1 : w.heap.size < v1.heap.size := by omega); (try have ze1 : w.heap.size ≤ v1.heap.size := by omega); (try have zn1 : ¬ w.heap.size = v1.heap.size := by omega); (try have zm1 : ¬ v1.heap.size = w.heap.size := by omega); have hX1 : Blk v1 (w.heap.size) 36 #[.int .i64 f.a, .int .i64 f.b, .int .i64 f.c] := Blk.call (by (repeat (first | with_reducible assumption | (with_reducible apply Blk.new_at; (first | rfl | (simp; done))) | with_reducible apply Blk.store3 | with_reducible apply Blk.store4 | (with_reducible apply Blk.farp; (first | omega | (simp <;> omega))) | with_reducible apply Blk.allocp | with_reducible apply Blk.drew | with_reducible apply Blk.drewN))) hB1; have cX1 := hX1.cell; have fX1 := hX1.frozen; have lX1 := hX1.lt; have mX1 := Nat.ne_of_gt lX1; have nX1 := Nat.ne_of_lt lX1; have hL1 : Blk v1 (w.heap.size + 1) 32 #[.int .i64 A, .int .i64 B, .int .i64 D] := Blk.call (by (repeat (first | with_reducible assumption | (with_reducible apply Blk.new_at; (first | rfl | (simp; done))) | with_reducible apply Blk.store3 | with_reducible apply Blk.store4 | (with_reducible apply Blk.farp; (first | omega | (simp <;> omega))) | with_reducible apply Blk.allocp | with_reducible apply Blk.drew | with_reducible apply Blk.drewN))) hB1; have cL1 := hL1.cell; have fL1 := hL1.frozen; have lL1 := hL1.lt; have mL1 := Nat.ne_of_gt lL1; have nL1 := Nat.ne_of_lt lL1)
  go_ret3
  exact ⟨rfl, (by repeat (first | with_reducible exact Below.refl _ _ | with_reducible assumption | with_reducible apply Below.drew | with_reducible apply below_drewN | (with_reducible apply below_setp; (first | omega | (simp <;> omega))) | (with_reducible apply below_allocp; (first | omega | (simp <;> omega))) | (with_reducible refine below_viap (by assumption) ?_ ?_; (first | omega | (simp <;> omega)))))⟩
set_option maxRecDepth 100000 in
set_option maxHeartbeats 12800000 in
theorem specSP_yes (f : Fm) (A B D : Int) (r : Fm) (m : M4) (w : World) (h : laA f A B D = true) (S : SpV f A B D r m) : Calls Tryz.prog 12 #[.agg #[.int .i64 f.a, .int .i64 f.b, .int .i64 f.c], .agg #[.int .i64 A, .int .i64 B, .int .i64 D]] w (RetSp r m A B D w) := by
  have hA := Lib.hid (fun w => laAsked_any f A B D w)
  rw [h] at hA
  obtain ⟨hD, hV, hf⟩ := laDef h
  have hF := Lib.hid (fun w => laForm_any f A B D w hf hV)
  have hR := Lib.hid (fun w => reReduce_m (laF f A B D) w hD)
  rw [← S.hr, ← S.hm] at hR
  unfold RetRM at hR
  have HS := Lib.hid S
  have HV := Lib.hid hV
  have hP := Lib.hid (fun i j w hi hj => laPoint_any A B D i j w hV hi hj)
  clear h hD hV hf S
  generalize laF f A B D = g at *
  go_enter Tryz.func12, Tryz.ntmps12
  go_wp2_with (first | (go_at_call 32; (with_reducible refine (hA.out _).mono ?_); rintro e v1 ⟨rfl, hB1⟩; have hZ1 := hB1.size; (try simp at hZ1); (try have zl1 : w.heap.size < v1.heap.size := by omega); (try have ze1 : w.heap.size ≤ v1.heap.size := by omega); (try have zn1 : ¬ w.heap.size = v1.heap.size := by omega); (try have zm1 : ¬ v1.heap.size = w.heap.size := by omega); have hX1 : Blk v1 (w.heap.size) 36 #[.int .i64 f.a, .int .i64 f.b, .int .i64 f.c] := Blk.call (by (repeat (first | with_reducible assumption | (with_reducible apply Blk.new_at; (first | rfl | (simp; done))) | with_reducible apply Blk.store3 | with_reducible apply Blk.store4 | (with_reducible apply Blk.farp; (first | omega | (simp <;> omega))) | with_reducible apply Blk.allocp | with_reducible apply Blk.drew | with_reducible apply Blk.drewN))) hB1; have cX1 := hX1.cell; have fX1 := hX1.frozen; have lX1 := hX1.lt; have mX1 := Nat.ne_of_gt lX1; have nX1 := Nat.ne_of_lt lX1; have hL1 : Blk v1 (w.heap.size + 1) 32 #[.int .i64 A, .int .i64 B, .int .i64 D] := Blk.call (by (repeat (first | with_reducible assumption | (with_reducible apply Blk.new_at; (first | rfl | (simp; done))) | with_reducible apply Blk.store3 | with_reducible apply Blk.store4 | (with_reducible apply Blk.farp; (first | omega | (simp <;> omega))) | with_reducible apply Blk.allocp | with_reducible apply Blk.drew | with_reducible apply Blk.drewN))) hB1; have cL1 := hL1.cell; have fL1 := hL1.frozen; have lL1 := hL1.lt; have mL1 := Nat.ne_of_gt lL1; have nL1 := Nat.ne_of_lt lL1) | (go_at_call 34; (with_reducible refine (hF.out _).mono ?_); rintro e v2 ⟨rfl, hB2⟩; have hZ2 := hB2.size; (try simp at hZ2); (try have zl2 : w.heap.size < v2.heap.size := by omega); (try have ze2 : w.heap.size ≤ v2.heap.size := by omega); (try have zn2 : ¬ w.heap.size = v2.heap.size := by omega); (try have zm2 : ¬ v2.heap.size = w.heap.size := by omega); have hL2 : Blk v2 (w.heap.size + 1) 32 #[.int .i64 A, .int .i64 B, .int .i64 D] := Blk.call (by (repeat (first | with_reducible assumption | (with_reducible apply Blk.new_at; (first | rfl | (simp; done))) | with_reducible apply Blk.store3 | with_reducible apply Blk.store4 | (with_reducible apply Blk.farp; (first | omega | (simp <;> omega))) | with_reducible apply Blk.allocp | with_reducible apply Blk.drew | with_reducible apply Blk.drewN))) hB2; have cL2 := hL2.cell; have fL2 := hL2.frozen; have lL2 := hL2.lt; have mL2 := Nat.ne_of_gt lL2; have nL2 := Nat.ne_of_lt lL2) | (go_at_call 33; (with_reducible refine (hR.out _).mono ?_); rintro e v3 ⟨rfl, hB3⟩; have hZ3 := hB3.size; (try simp at hZ3); (try have zl3 : w.heap.size < v3.heap.size := by omega); (try have ze3 : w.heap.size ≤ v3.heap.size := by omega); (try have zn3 : ¬ w.heap.size = v3.heap.size := by omega); (try have zm3 : ¬ v3.heap.size = w.heap.size := by omega); have hL3 : Blk v3 (w.heap.size + 1) 32 #[.int .i64 A, .int .i64 B, .int .i64 D] := Blk.call (by (repeat (first | with_reducible assumption | (with_reducible apply Blk.new_at; (first | rfl | (simp; done))) | with_reducible apply Blk.store3 | with_reducible apply Blk.store4 | (with_reducible apply Blk.farp; (first | omega | (simp <;> omega))) | with_reducible apply Blk.allocp | with_reducible apply Blk.drew | with_reducible apply Blk.drewN))) hB3; have cL3 := hL3.cell; have fL3 := hL3.frozen; have lL3 := hL3.lt; have mL3 := Nat.ne_of_gt lL3; have nL3 := Nat.ne_of_lt lL3))
  have hL3' : Blk ((v3.alloc (.cells #[.int .i64 r.a, .int .i64 r.b, .int .i64 r.c] 36)).alloc (.cells #[.int .i64 m.p, .int .i64 m.q, .int .i64 m.r, .int .i64 m.s] 46)) (w.heap.size + 1) 32 #[.int .i64 A, .int .i64 B, .int .i64 D] := by (repeat (first | with_reducible assumption | (with_reducible apply Blk.new_at; (first | rfl | (simp; done))) | with_reducible apply Blk.store3 | with_reducible apply Blk.store4 | (with_reducible apply Blk.farp; (first | omega | (simp <;> omega))) | with_reducible apply Blk.allocp | with_reducible apply Blk.drew | with_reducible apply Blk.drewN))
  have hR3' : Blk ((v3.alloc (.cells #[.int .i64 r.a, .int .i64 r.b, .int .i64 r.c] 36)).alloc (.cells #[.int .i64 m.p, .int .i64 m.q, .int .i64 m.r, .int .i64 m.s] 46)) v3.heap.size 36 #[.int .i64 r.a, .int .i64 r.b, .int .i64 r.c] := (Blk.new_at rfl).alloc _
  have hM3' : Blk ((v3.alloc (.cells #[.int .i64 r.a, .int .i64 r.b, .int .i64 r.c] 36)).alloc (.cells #[.int .i64 m.p, .int .i64 m.q, .int .i64 m.r, .int .i64 m.s] 46)) (v3.heap.size + 1) 46 #[.int .i64 m.p, .int .i64 m.q, .int .i64 m.r, .int .i64 m.s] := Blk.new_at (by simp)
  have hb3' : Below w.heap.size w ((v3.alloc (.cells #[.int .i64 r.a, .int .i64 r.b, .int .i64 r.c] 36)).alloc (.cells #[.int .i64 m.p, .int .i64 m.q, .int .i64 m.r, .int .i64 m.s] 46)) := (by repeat (first | with_reducible exact Below.refl _ _ | with_reducible assumption | with_reducible apply Below.drew | with_reducible apply below_drewN | (with_reducible apply below_setp; (first | omega | (simp <;> omega))) | (with_reducible apply below_allocp; (first | omega | (simp <;> omega))) | (with_reducible refine below_viap (by assumption) ?_ ?_; (first | omega | (simp <;> omega)))))
  have hz4 : v3.heap.size + 1 < ((v3.alloc (.cells #[.int .i64 r.a, .int .i64 r.b, .int .i64 r.c] 36)).alloc (.cells #[.int .i64 m.p, .int .i64 m.q, .int .i64 m.r, .int .i64 m.s] 46)).heap.size := by simp
  generalize (v3.alloc (.cells #[.int .i64 r.a, .int .i64 r.b, .int .i64 r.c] 36)).alloc (.cells #[.int .i64 m.p, .int .i64 m.q, .int .i64 m.r, .int .i64 m.s] 46) = v4 at *
  have zw4 := hb3'.size
  clear hL3 cL3 fL3 lL3 mL3 nL3 hL2 cL2 fL2 lL2 mL2 nL2 hL1 cL1 fL1 lL1 mL1 nL1 hB1 hB2 hB3 hA hF hR
  go_loopw [9, 10] (fun v9 v10 wr => ∃ (i : Nat) (K : List (Int × Int)), v10 = .int .i64 (-1 + i) ∧ i ≤ 3 ∧ Hid (BxS r m A B D (3 * i) K) ∧ Hid (K.length ≤ 3 * i) ∧ wr.ownsRow v4.heap.size 51 2 v9 K.length (cellsP K) ∧ Below v4.heap.size v4 wr) (fun _ v10 _ => (2 - intOf v10).toNat)
  case atStart => exact ⟨0, [], rfl, by omega, Lib.hid (bxS_zero r m A B D), Lib.hid (by simp), ⟨by simp [cellsP], .inl ⟨rfl, rfl⟩⟩, Below.refl _ _⟩
  case round =>
    obtain ⟨i, K, rfl, hi, HB, HL, hown, hbel⟩ := hrel
    have hzr := hbel.size
    by_cases hlt : i < 3
    · have kI : (-1 : Int) + i ≤ 1 := by omega
      go_wp2
      obtain ⟨wo, rfl⟩ : ∃ wo : World, wo = wr := ⟨_, rfl⟩
      obtain ⟨x, hx⟩ : ∃ x : Int, -1 + (i : Int) = x := ⟨_, rfl⟩
      have HX := Lib.hid hx
      rw [hx]
      clear kI hx
      go_loopw [9, 11] (fun v9 v11 wr => ∃ (j : Nat) (K : List (Int × Int)), v11 = .int .i64 (-1 + j) ∧ j ≤ 3 ∧ Hid (BxS r m A B D (3 * i + j) K) ∧ Hid (K.length ≤ 3 * i + j) ∧ wr.ownsRow v4.heap.size 51 2 v9 K.length (cellsP K) ∧ Below v4.heap.size v4 wr) (fun _ v11 _ => (2 - intOf v11).toNat)
      case atStart => exact ⟨0, K, rfl, by omega, HB, HL, hown, hbel⟩
      case round =>
        clear HB HL hown hbel hzr
        obtain ⟨j, K, rfl, hj, HB, HL, hown, hbel⟩ := hrel
        have hzr := hbel.size
        have hRr := hR3'.below hbel (by omega); have hMr := hM3'.below hbel (by omega); have hLr := hL3'.below hbel (by omega)
        have cR := hRr.cell; have fR := hRr.frozen; have lR := hRr.lt; have cM := hMr.cell; have fM := hMr.frozen; have lM := hMr.lt; have cL := hLr.cell; have fL := hLr.frozen; have lL := hLr.lt
        by_cases hjt : j < 3
        · have kJ : (-1 : Int) + j ≤ 1 := by omega
          obtain ⟨y, hy⟩ : ∃ y : Int, -1 + (j : Int) = y := ⟨_, rfl⟩
          have HY := Lib.hid (show -1 + ((j + 1 : Nat) : Int) = y + 1 by omega)
          have HW1 := Lib.hid (show wrap64 (y + 1) = y + 1 from IntWalk.wrap64_in _ (by omega))
          obtain ⟨hbx, hbe⟩ := box9_at hlt hjt
          rw [HX.out, hy] at hbe
          have xb : -1 ≤ x ∧ x ≤ 1 := by have := HX.out; omega
          have yb : -1 ≤ y ∧ y ≤ 1 := by omega
          have s1 := HS.out.ra; have s2 := HS.out.rb; have s3 := HS.out.rc
          have hFo := Lib.hid (fun w => foValue_any r.a r.b r.c x y w (atL_bd (by omega) (by omega) (by omega) (by omega) (by omega)))
          obtain ⟨t, ht⟩ : ∃ t, atF r.a r.b r.c x y = t := ⟨_, rfl⟩
          rw [ht] at hFo
          rw [hy] at kJ ⊢
          clear s1 s2 s3 hy
          go_wp2
          refine wp_region_calm 7 (Below (wr.heap.size) _) (by kernel_rfl) (by kernel_rfl) ((Below.refl _ _).drew) ?_
          simp only [List.take_succ_cons, List.take_zero, List.drop_succ_cons, List.drop_zero]
          repeat (first | (apply wpCalm_go; go_simp; (intro w' hw' hcc hff; go_simp; first | exact rfl | ((with_reducible refine (hFo.out _).mono ?_); rintro ee w1 ⟨rfl, hb⟩; exact ⟨rfl, calm_call (by simp <;> omega) hw' hb⟩)); (intro K hK; go_simp; refine hK _ ?_; clear hK K)) | (apply wpCalm_skip; go_simp; (try (focus (simp [undef]; done))); (intro K hK; go_simp; refine hK _ ?_; clear hK K)))
          refine wpCalm_nil ?_
          intro w1 hw1
          have hcc := (calm_cells hw1).1
          have hff := (calm_cells hw1).2
          have hss := calm_size hw1
          have hsz := hw1.size
          (try simp at hsz)
          have hb1 : Below v4.heap.size v4 w1 := hbel.trans (hw1.mono hzr)
          have hz1 := hb1.size
          have ho1 := own_call hw1 hown
          have hR1 := hRr.call hw1; have hM1 := hMr.call hw1; have hL1 := hLr.call hw1
          have cR1 := hR1.cell; have fR1 := hR1.frozen; have lR1 := hR1.lt; have cM1 := hM1.cell; have fM1 := hM1.frozen; have lM1 := hM1.lt; have cL1 := hL1.cell; have fL1 := hL1.frozen; have lL1 := hL1.lt
          clear hcc hff hss hRr hMr hLr cR fR lR cM fM lM cL fL lL hown hbel hw1
          by_cases hv : t = r.a
          · have hq : (t == r.a) = true := by rw [beq_iff_eq]; exact hv
            have hval : r.a * (x, y).1 * (x, y).1 + r.b * (x, y).1 * (x, y).2 + r.c * (x, y).2 * (x, y).2 = r.a := by show atF r.a r.b r.c x y = r.a; rw [ht]; exact hv
            obtain ⟨⟨mb1, mb2⟩, ⟨mb3, mb4⟩, ⟨mb5, mb6⟩, ⟨mb7, mb8⟩⟩ := HS.out.mb
            have p1 := mul_bd (a := m.p) (x := x) (A := 1200) (X := 1) (by omega) (by omega) (by omega) (by omega)
            have p2 := mul_bd (a := m.q) (x := y) (A := 1200) (X := 1) (by omega) (by omega) (by omega) (by omega)
            have p3 := mul_bd (a := m.r) (x := x) (A := 1200) (X := 1) (by omega) (by omega) (by omega) (by omega)
            have p4 := mul_bd (a := m.s) (x := y) (A := 1200) (X := 1) (by omega) (by omega) (by omega) (by omega)
            have K1 := Lib.hid (show wrap64 (m.p * x) = m.p * x from IntWalk.wrap64_in _ (by omega))
            have K2 := Lib.hid (show wrap64 (m.q * y) = m.q * y from IntWalk.wrap64_in _ (by omega))
            have K3 := Lib.hid (show wrap64 (m.r * x) = m.r * x from IntWalk.wrap64_in _ (by omega))
            have K4 := Lib.hid (show wrap64 (m.s * y) = m.s * y from IntWalk.wrap64_in _ (by omega))
            have K5 := Lib.hid (show wrap64 (m.p * x + m.q * y) = m.p * x + m.q * y from IntWalk.wrap64_in _ (by omega))
            have K6 := Lib.hid (show wrap64 (m.r * x + m.s * y) = m.r * x + m.s * y from IntWalk.wrap64_in _ (by omega))
            have hPt := Lib.hid (fun w => hP.out (m.p * x + m.q * y) (m.r * x + m.s * y) w (by omega) (by omega))
            have hVp := Lib.hid (fun v B0 w h => vaPutS_any v B0 K ((m.p * x + m.q * y) * A + (m.r * x + m.s * y) * B) ((m.r * x + m.s * y) * D) w (by have := HL.out; omega) h)
            have hyes := Lib.hid (fun k hk (hp : PosP K (laPt m A B D (x, y)) k) => bxS_yes (i := k) HB.out HS.out.det (by have := HV.out.a1; omega) (by have := HV.out.d1; omega) hbx (by rw [hbe]; exact hval) hk (by rw [hbe]; exact hp))
            rw [hbe] at hyes
            have hlp : laPt m A B D (x, y) = ((m.p * x + m.q * y) * A + (m.r * x + m.s * y) * B, (m.r * x + m.s * y) * D) := rfl
            rw [hlp] at hyes
            generalize (m.p * x + m.q * y) * A + (m.r * x + m.s * y) * B = X1 at *
            generalize (m.r * x + m.s * y) * D = Y1 at *
            clear hv ht hbx hbe hval mb1 mb2 mb3 mb4 mb5 mb6 mb7 mb8 p1 p2 p3 p4 hlp xb yb
            have k1 := K1.out; have k2 := K2.out; have k3 := K3.out; have k4 := K4.out; have k5 := K5.out; have k6 := K6.out
            go_wp2_with fail
            clear k1 k2 k3 k4 k5 k6
            refine (hPt.out _).mono ?_
            rintro e v6 ⟨rfl, hB6⟩
            have hz6 := hB6.size
            have ho6 := own_call hB6 ho1
            have hb6 : Below v4.heap.size v4 v6 := hb1.trans (hB6.mono hz1)
            clear hB6 ho1 hb1
            go_wp2_with fail
            refine (hVp.out _ _ _ ho6).mono ?_
            rintro e v7 ⟨k, hk, hpos, vl, rfl, ho7, hB7⟩
            have hz7 := hB7.size
            have hb7 : Below v4.heap.size v4 v7 := hb6.trans (hB7.mono (by omega))
            have ho8 := own_base (show v4.heap.size ≤ v6.heap.size by omega) ho7
            have hN := Lib.hid (hyes.out k hk hpos)
            have k1 := HW1.out
            clear hpos ho7 hB7 ho6 hb6
            go_wp2
            clear k1
            go_roundw
            case rel => exact ⟨j + 1, insP K (X1, Y1) k, by rw [HW1.out, HY.out], by omega, hN, Lib.hid (by rw [insP_len]; have := HL.out; omega), ho8, hb7⟩
            case measure => (first | (simp [intOf, HW1.out]; done) | (simp [intOf, HW1.out]; omega))
          · have hq : (t == r.a) = false := by rw [beq_eq_false_iff_ne]; exact hv
            have hno := Lib.hid (bxS_no HB.out hbx (by rw [hbe]; show ¬ atF r.a r.b r.c x y = r.a; rw [ht]; exact hv))
            clear hv ht hbx hbe
            have k1 := HW1.out
            go_wp2
            clear k1
            go_roundw
            case rel => exact ⟨j + 1, K, by rw [HY.out], by omega, hno, Lib.hid (by have := HL.out; omega), ho1, hb1⟩
            case measure => (first | (simp [intOf]; done) | (simp [intOf]; omega))
        · obtain rfl : j = 3 := by omega
          have HW1 := Lib.hid (show wrap64 (x + 1) = x + 1 from IntWalk.wrap64_in _ (by have := HX.out; omega))
          have k1 := HW1.out
          go_wp2
          clear k1
          go_roundw
          case rel => exact ⟨i + 1, K, by rw [HW1.out, show -1 + ((i + 1 : Nat) : Int) = x + 1 by have := HX.out; omega], by omega, HB, HL, hown, hbel⟩
          case measure => (first | (simp [intOf]; done) | (simp [intOf, HW1.out]; have := HX.out; omega))
    · obtain rfl : i = 3 := by omega
      have hRr := hR3'.below hbel (by omega)
      have cR := hRr.cell; have fR := hRr.frozen; have lR := hRr.lt
      have hb9 : Below w.heap.size w wr := below_via hb3' hbel zw4
      go_wp2
      go_ret3
      exact ⟨K, _, rfl, HB.out, own_base zw4 hown, hb9⟩
end Go.Proofs.YtblcmkhkbgikoaaGreat
