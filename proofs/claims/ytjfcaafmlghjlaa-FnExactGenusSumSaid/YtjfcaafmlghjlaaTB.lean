/- Contract: the theta series of a reduced form, of the reference. -/
import Derived.Test.YtjfcaafmlghjlaaTA
import Derived.Test.YtjfcaafmlghjlaaTC
import Derived.Test.YtjfcaafmlghjlaaTZ
import Derived.Deep.OwnRows
namespace Go.Proofs.Ytjfcaafmlghjlaa
open Go.RowKit

theorem cntV_len (f : Fm) (L : List (Int × Int)) (m : Int) : cntV f L m ≤ L.length := List.length_filter_le _ _
theorem cntV_snoc (f : Fm) (L : List (Int × Int)) (p : Int × Int) (m : Int) : cntV f (L ++ [p]) m = if valP f p = m then cntV f L m + 1 else cntV f L m := by
  rw [cntV_app]
  unfold cntV
  by_cases h : valP f p = m
  · rw [if_pos h]; simp [h]
  · rw [if_neg h]; simp [h]
theorem sgP_len (x y : Int) (s : Nat) : (sgP x y s).length ≤ 1 := by unfold sgP; split <;> simp
theorem sgK_len (x y : Int) : ∀ k, (sgK x y k).length ≤ k
  | 0 => by simp [sgK]
  | k + 1 => by rw [sgK_next, List.length_append]; have := sgK_len x y k; have := sgP_len x y k; omega
theorem colK_len (x : Int) : ∀ k, (colK x k).length ≤ 4 * k
  | 0 => by simp [colK]
  | k + 1 => by rw [colK_next, List.length_append]; have := colK_len x k; have := sgK_len x k 4; omega
theorem boxK_len (Y : Nat) : ∀ k, (boxK Y k).length ≤ 4 * Y * k
  | 0 => by simp [boxK]
  | k + 1 => by rw [boxK_next, List.length_append, Nat.mul_add]; have := boxK_len Y k; have := colK_len k Y; omega
theorem lpN_le {a : Int} {n : Nat} (ha : 0 < a) (hn : n ≤ 100) : lpN a n ≤ 15 := by
  apply Nat.not_lt.1
  intro h
  have h2 := (lpN_lt ha (show (0 : Int) ≤ n by omega) 15).1 h
  have : 1 * (15 : Nat) * (15 : Nat) ≤ a * (15 : Nat) * (15 : Nat) := by omega
  omega
theorem val_nn {d : Int} {f : Fm} (D : Dsc d) (hf : f ∈ clsL d) (p : Int × Int) : 0 ≤ valP f p := by
  have ha : 0 < f.a := (cf_self D hf).df.a0
  have hc : 0 < f.c := (cf_self D hf).df.c0
  have h1 := val_lo (u := p.1) (v := p.2) ha (red_bac D hf)
  obtain ⟨h2, _⟩ := sq_ab (u := p.1) ha
  obtain ⟨h4, _⟩ := sq_ab (u := p.2) hc
  unfold valP
  omega
/-- The state of the counting: the points P are counted. -/
def ThW (f : Fm) (N : Nat) (P : List (Int × Int)) (w wr : World) : Prop :=
  Hid (wr.rowIs (w.heap.size + 1) 3 N (fun k => .int .i64 (cntV f P k : Nat))) ∧ Blk wr w.heap.size 35 #[.int .i64 f.a, .int .i64 f.b, .int .i64 f.c] ∧ w.heap.size + 1 < wr.heap.size ∧ Below w.heap.size w wr
theorem ThW.count {f : Fm} {N k : Nat} {P : List (Int × Int)} {p : Int × Int} {w wr : World} (h : ThW f N P w wr) (hv : valP f p = k) (_hk : k < N) : ThW f N (P ++ [p]) w (wr.setCell ⟨w.heap.size + 1, k, none⟩ (.int .i64 ((cntV f P k : Nat) + 1))) := by
  obtain ⟨hR, hA, hsz, hbel⟩ := h
  refine ⟨Lib.hid ((hR.out.set k _).congr (fun j _ => ?_)), Blk.farp (by simp) hA, by simp; exact hsz, below_setp (by simp) hbel⟩
  rw [cntV_snoc, hv]
  by_cases e : j = k
  · subst e; simp
  · have : ¬ (k : Int) = (j : Int) := by omega
    simp [e, this]
theorem ThW.skip {f : Fm} {N k : Nat} {P : List (Int × Int)} {p : Int × Int} {w wr : World} (h : ThW f N P w wr) (hv : valP f p = k) (hk : N ≤ k) : ThW f N (P ++ [p]) w wr := by
  obtain ⟨hR, hA, hsz, hbel⟩ := h
  refine ⟨Lib.hid (hR.out.congr (fun j hj => ?_)), hA, hsz, hbel⟩
  rw [cntV_snoc, hv, if_neg (by omega)]
theorem ThW.below {f : Fm} {N : Nat} {P : List (Int × Int)} {w wr w' : World} (h : ThW f N P w wr) (hb : Below wr.heap.size wr w') : ThW f N P w w' := by
  obtain ⟨hR, hA, hsz, hbel⟩ := h
  have hz := hb.size
  have hz2 := hbel.size
  exact ⟨Lib.hid (hR.out.of_block (hb.block _ hsz)), hA.call hb, by omega, below_via hbel hb hz2⟩
theorem mul_bd2 {a b A B : Int} (ha : -A ≤ a ∧ a ≤ A) (hb : -B ≤ b ∧ b ≤ B) : -(A * B) ≤ a * b ∧ a * b ≤ A * B := by
  have hA : 0 ≤ A := by omega
  have hB : 0 ≤ B := by omega
  have h1 : (a * b).natAbs = a.natAbs * b.natAbs := Int.natAbs_mul _ _
  have h2 := Nat.mul_le_mul (show a.natAbs ≤ A.toNat by omega) (show b.natAbs ≤ B.toNat by omega)
  have h3 : ((A.toNat * B.toNat : Nat) : Int) = A * B := by rw [Int.natCast_mul, Int.toNat_of_nonneg hA, Int.toNat_of_nonneg hB]
  omega
theorem at_small3 {a b c x y : Int} (ha : 1 ≤ a ∧ a ≤ 26) (hb : -26 ≤ b ∧ b ≤ 26) (hc : 1 ≤ c ∧ c ≤ 1000) (hx : -15 ≤ x ∧ x ≤ 15) (hy : -15 ≤ y ∧ y ≤ 15) : AtOK a b c x y := by
  have p1 := mul_bd2 (a := a) (A := 26) (b := x) (B := 15) ⟨by omega, by omega⟩ hx
  have p2 := mul_bd2 (a := a * x) (A := 26 * 15) (b := x) (B := 15) p1 hx
  have p3 := mul_bd2 (a := b) (A := 26) (b := x) (B := 15) hb hx
  have p4 := mul_bd2 (a := b * x) (A := 26 * 15) (b := y) (B := 15) p3 hy
  have p5 := mul_bd2 (a := c) (A := 1000) (b := y) (B := 15) ⟨by omega, by omega⟩ hy
  have p6 := mul_bd2 (a := c * y) (A := 1000 * 15) (b := y) (B := 15) p5 hy
  exact ⟨by unfold Far; omega, by unfold Far; omega, by unfold Far; omega, by unfold Far; omega, by unfold Far; omega, by unfold Far; omega⟩

set_option maxRecDepth 100000 in
set_option maxHeartbeats 12800000 in
theorem thSeries_any (d : Int) (n : Nat) (f : Fm) (w : World) (D : Dsc d) (hf : f ∈ clsL d) (hn : n ≤ 100) :
    Calls Try.prog 293 #[.agg #[.int .i64 f.a, .int .i64 f.b, .int .i64 f.c], .int .i64 n] w (RetI (thL d f (n + 1)) w) := by
  have cf := cf_self D hf
  have hR := Lib.hid (fun w => reClass_any f.a f.b f.c f.a f.b f.c w cf.df cf.rd)
  obtain ⟨⟨a1, a2⟩, ⟨b1, b2⟩, ⟨c1, c2⟩⟩ := cls_bd D.lo hf
  have hmk := run_make_row' (P := Try.prog) 31 3 (.int .i64 0) 8 Try.underlying31 infoInt rfl .i64 .i64 (n + 1) (by omega) (by omega)
  rw [show ((n + 1 : Nat) : Int) = (n : Int) + 1 by omega] at hmk
  obtain ⟨N, hNe⟩ : ∃ N, n + 1 = N := ⟨_, rfl⟩
  rw [hNe] at hmk
  have HNe := Lib.hid hNe
  rw [hNe]
  have hNn : N ≤ n + 1 := by omega
  have hnN : n < N := by omega
  clear hNe
  have hw0 : wrap64 ((n : Int) + 1) = (n : Int) + 1 := IntWalk.wrap64_in _ (by omega)
  have hval := Lib.hid (fun p => val_nn D hf p)
  have hX := lpN_le (n := n) (show 0 < f.a by omega) hn
  have hY := lpN_le (n := n) (show 0 < f.c by omega) hn
  have HX := Lib.hid (fun k => lpN_lt (show 0 < f.a by omega) (show (0 : Int) ≤ n by omega) k)
  have HY := Lib.hid (fun k => lpN_lt (show 0 < f.c by omega) (show (0 : Int) ≤ n by omega) k)
  have Hbox := Lib.hid (fun (m : Nat) (hm : m ≤ n) => cnt_box (m := m) D hf (show (0 : Int) ≤ n by omega) (by omega) (by omega))
  obtain ⟨X, hXe⟩ : ∃ X, lpN f.a n = X := ⟨_, rfl⟩
  obtain ⟨Y, hYe⟩ : ∃ Y, lpN f.c n = Y := ⟨_, rfl⟩
  rw [hXe] at hX HX Hbox
  rw [hYe] at hY HY Hbox
  have hw2 : wrap64 (2 * (n : Int)) = 2 * n := IntWalk.wrap64_in _ (by omega)
  clear cf D hf hXe hYe
  go_enter Try.func293, Try.ntmps293
  go_wp2_with (go_at_call 135; (with_reducible refine (hR.out _).mono ?_); rintro e v1 ⟨rfl, hB1⟩; have hZ1 := hB1.size; (try simp at hZ1); (try have zl1 : w.heap.size < v1.heap.size := by omega); (try have ze1 : w.heap.size ≤ v1.heap.size := by omega); (try have zn1 : ¬ w.heap.size = v1.heap.size := by omega); (try have zm1 : ¬ v1.heap.size = w.heap.size := by omega); have hC1_0 := fun o => (calm_cells hB1).1 (w.heap.size) o (by first | omega | (simp <;> omega)); have hF1_0 := fun o => (calm_cells hB1).2 (w.heap.size) o (by first | omega | (simp <;> omega)); (try have hl1_0 : w.heap.size < v1.heap.size := by omega); (try have hm1_0 : ¬ w.heap.size = v1.heap.size := by omega); (try have hn1_0 : ¬ v1.heap.size = w.heap.size := by omega))
  have hb1 : Below w.heap.size w v1 := (by repeat (first | with_reducible exact Below.refl _ _ | with_reducible assumption | with_reducible apply Below.drew | with_reducible apply below_drewN | (with_reducible apply below_setp; (first | omega | (simp <;> omega))) | (with_reducible apply below_allocp; (first | omega | (simp <;> omega))) | (with_reducible refine below_viap (by assumption) ?_ ?_; (first | omega | (simp <;> omega)))))
  have hrm : v1.rowIs (w.heap.size + 1) 3 N (fun _ => .int .i64 0) := by
    have h := World.rowIs_made (w.alloc (.cells #[.int .i64 f.a, .int .i64 f.b, .int .i64 f.c] 35)) (.int .i64 0) N 3
    rw [show (w.alloc (.cells #[.int .i64 f.a, .int .i64 f.b, .int .i64 f.c] 35)).heap.size = w.heap.size + 1 by simp] at h
    exact h.of_block (hB1.block _ (by simp))
  have hW0 : ThW f N (boxK Y 0) w (((v1.setCell ⟨w.heap.size, 0, none⟩ (.int .i64 f.a)).setCell ⟨w.heap.size, 1, none⟩ (.int .i64 f.b)).setCell ⟨w.heap.size, 2, none⟩ (.int .i64 f.c)) := by
    have hA1 : Blk v1 w.heap.size 35 #[.int .i64 f.a, .int .i64 f.b, .int .i64 f.c] := Blk.call (by (repeat (first | with_reducible assumption | (with_reducible apply Blk.new_at; (first | rfl | (simp; done))) | with_reducible apply Blk.store3 | with_reducible apply Blk.store4 | (with_reducible apply Blk.farp; (first | omega | (simp <;> omega))) | with_reducible apply Blk.allocp | with_reducible apply Blk.drew | with_reducible apply Blk.drewN))) hB1
    refine ⟨Lib.hid ?_, hA1.store3, by simp; omega, (by repeat (first | with_reducible exact Below.refl _ _ | with_reducible assumption | with_reducible apply Below.drew | with_reducible apply below_drewN | (with_reducible apply below_setp; (first | omega | (simp <;> omega))) | (with_reducible apply below_allocp; (first | omega | (simp <;> omega))) | (with_reducible refine below_viap (by assumption) ?_ ?_; (first | omega | (simp <;> omega)))))⟩
    have h0 : v1.rowIs (w.heap.size + 1) 3 N (fun k => .int .i64 (cntV f (boxK Y 0) k : Nat)) := hrm.congr (fun j _ => by simp [cntV, boxK])
    refine h0.of_block ?_
    have hne : ∀ o : Nat, w.heap.size + 1 ≠ (⟨w.heap.size, o, none⟩ : Addr).block := fun o => by show w.heap.size + 1 ≠ w.heap.size; omega
    exact (heap_setCell_other _ _ _ _ (hne 2)).trans ((heap_setCell_other _ _ _ _ (hne 1)).trans (heap_setCell_other _ _ _ _ (hne 0)))
  go_loopw [6] (fun vx wr => ∃ x : Nat, vx = .int .i64 x ∧ x ≤ X ∧ ThW f N (boxK Y x) w wr) (fun vx _ => X + 1 - (intOf vx).toNat)
  case atStart => exact ⟨0, rfl, Nat.zero_le _, hW0⟩
  case round =>
    clear hW0
    obtain ⟨x, rfl, hx, hR, hA, hsz, hbel⟩ := hrel
    have cA := hA.cell; have fA := hA.frozen; have lA := hA.lt
    have hz := hbel.size
    have hx15 : (x : Int) ≤ 15 := by omega
    obtain ⟨p1, p2⟩ := mul_bd2 (a := f.a) (A := 26) (b := x) (B := 15) ⟨by omega, by omega⟩ ⟨by omega, by omega⟩
    have hw3 : wrap64 (f.a * (x : Int)) = f.a * x := IntWalk.wrap64_in _ (by omega)
    obtain ⟨p3, p4⟩ := mul_bd2 (a := f.a * x) (A := 26 * 15) (b := x) (B := 15) ⟨by omega, by omega⟩ ⟨by omega, by omega⟩
    have hw4 : wrap64 (f.a * (x : Int) * x) = f.a * x * x := IntWalk.wrap64_in _ (by omega)
    have hXx := HX.out x
    by_cases hlt : x < X
    · have hle := hXx.1 hlt
      clear hXx
      go_wp2
      have hW0 : ThW f N (boxK Y x ++ colK x 0) w wr := by
        rw [show boxK Y x ++ colK x 0 = boxK Y x by simp [colK]]
        exact ⟨hR, hA, hsz, hbel⟩
      clear hR hA cA fA lA hz hbel hsz
      obtain ⟨wo, rfl⟩ : ∃ wo : World, wo = wr := ⟨_, rfl⟩
      go_loopw [7] (fun vy wr => ∃ y : Nat, vy = .int .i64 y ∧ y ≤ Y ∧ ThW f N (boxK Y x ++ colK x y) w wr) (fun vy _ => Y + 1 - (intOf vy).toNat)
      case atStart => exact ⟨0, rfl, Nat.zero_le _, hW0⟩
      case round =>
        clear hW0
        obtain ⟨y, rfl, hy, hR, hA, hsz, hbel⟩ := hrel
        have cA := hA.cell; have fA := hA.frozen; have lA := hA.lt
        have hz := hbel.size
        have hy15 : (y : Int) ≤ 15 := by omega
        obtain ⟨p1, p2⟩ := mul_bd2 (a := f.c) (A := 1000) (b := y) (B := 15) ⟨by omega, by omega⟩ ⟨by omega, by omega⟩
        have hw3 : wrap64 (f.c * (y : Int)) = f.c * y := IntWalk.wrap64_in _ (by omega)
        obtain ⟨p3, p4⟩ := mul_bd2 (a := f.c * y) (A := 1000 * 15) (b := y) (B := 15) ⟨by omega, by omega⟩ ⟨by omega, by omega⟩
        have hw4 : wrap64 (f.c * (y : Int) * y) = f.c * y * y := IntWalk.wrap64_in _ (by omega)
        have hYy := HY.out y
        by_cases hlt2 : y < Y
        · have hle2 := hYy.1 hlt2
          clear hYy
          go_wp2
          have hW0 : ThW f N (boxK Y x ++ (colK x y ++ sgK x y 0)) w wr := by
            rw [show sgK (x : Int) (y : Int) 0 = [] by rfl, List.append_nil]
            exact ⟨hR, hA, hsz, hbel⟩
          have hPl : (boxK Y x ++ colK x y).length ≤ 2000 := by
            rw [List.length_append]
            have h1 := boxK_len Y x
            have h2 := colK_len x y
            have h3 : 4 * Y * x ≤ 4 * 15 * 15 := Nat.mul_le_mul (by omega) (by omega)
            omega
          clear hR hA cA fA lA hz hbel hsz
          obtain ⟨wq, rfl⟩ : ∃ wq : World, wq = wr := ⟨_, rfl⟩
          go_loopw [8] (fun vs wr => ∃ s : Nat, vs = .int .i64 s ∧ s ≤ 4 ∧ ThW f N (boxK Y x ++ (colK x y ++ sgK x y s)) w wr) (fun vs _ => 5 - (intOf vs).toNat)
          case atStart => exact ⟨0, rfl, by omega, hW0⟩
          case round =>
            clear hW0
            obtain ⟨s, rfl, hs, hW⟩ := hrel
            have hWh := Lib.hid hW
            obtain ⟨hR, hA, hsz, hbel⟩ := hW
            have cA := hA.cell; have fA := hA.frozen; have lA := hA.lt
            have hz := hbel.size
            have hwx : wrap64 (-(x : Int)) = -x := IntWalk.wrap64_in _ (by omega)
            have hwy : wrap64 (-(y : Int)) = -y := IntWalk.wrap64_in _ (by omega)
            rcases (by omega : s = 0 ∨ s = 1 ∨ s = 2 ∨ s = 3 ∨ s = 4) with rfl | rfl | rfl | rfl | rfl
            · rw [show ((0 : Nat) : Int) = 0 from rfl]
              have hnx : boxK Y x ++ (colK x y ++ sgK x y 1) = (boxK Y x ++ (colK x y ++ sgK x y 0)) ++ [((x : Int), (y : Int))] := by
                rw [sgK_next, show sgP (x : Int) (y : Int) 0 = [((x : Int), (y : Int))] by unfold sgP; rw [if_neg (by omega)]; rfl]
                simp only [List.append_assoc]
              have hPl2 : (boxK Y x ++ (colK x y ++ sgK x y 0)).length ≤ 2004 := by
                rw [← List.append_assoc, List.length_append]
                have := sgK_len x y 0
                omega
              have Hnx := Lib.hid hnx
              generalize boxK Y x ++ (colK x y ++ sgK x y 0) = P at *
              have HF := Lib.hid (fun w => foValue_any f.a f.b f.c (x : Int) (y : Int) w (at_small3 ⟨by omega, by omega⟩ ⟨by omega, by omega⟩ ⟨by omega, by omega⟩ ⟨by omega, by omega⟩ ⟨by omega, by omega⟩))
              have hv0 : 0 ≤ atF f.a f.b f.c (x : Int) (y : Int) := hval.out ((x : Int), (y : Int))
              have hvP : valP f ((x : Int), (y : Int)) = atF f.a f.b f.c (x : Int) (y : Int) := rfl
              have HvP := Lib.hid hvP
              generalize atF f.a f.b f.c (x : Int) (y : Int) = m at HF hv0 hvP HvP
              clear hnx hvP
              obtain ⟨m, rfl⟩ : ∃ k : Nat, m = k := ⟨m.toNat, by omega⟩
              go_wp2_with fail
              refine (HF.out _).mono ?_
              rintro e v2 ⟨rfl, hB2⟩
              have hW2 := ThW.below hWh.out hB2
              have HW2 := Lib.hid hW2
              clear hR hA cA fA lA hz hbel hsz hB2 hWh
              obtain ⟨hR, hA, hsz, hbel⟩ := hW2
              by_cases hmn : m ≤ n
              · have hmn2 : (m : Int) ≤ n := by omega
                have hm1 : m < N := by omega
                have cR := hR.out.cell hm1
                have fR := hR.out.frozen m
                have hCl := cntV_len f P m
                have hWn := ThW.count HW2.out HvP.out hm1
                rw [← Hnx.out] at hWn
                have HWn := Lib.hid hWn
                generalize cntV f P m = C at *
                have hwC : wrap64 ((C : Int) + 1) = C + 1 := IntWalk.wrap64_in _ (by omega)
                clear hR hWn hv0 hmn hPl2 hCl hPl
                go_wp2
                exact ⟨⟨1, by simp, by omega, HWn.out⟩, by simp [intOf]⟩
              · have hmn2 : ¬ (m : Int) ≤ n := by omega
                have hmd : decide ((m : Int) ≤ n) = false := decide_eq_false hmn2
                have hWn := ThW.skip HW2.out HvP.out (by omega)
                rw [← Hnx.out] at hWn
                have HWn := Lib.hid hWn
                clear hR hWn
                go_wp2
                exact ⟨⟨1, by simp, by omega, HWn.out⟩, by simp [intOf]⟩
            · by_cases hx0 : (x : Int) = 0
              · rw [show ((1 : Nat) : Int) = 1 from rfl]
                have hnx : boxK Y x ++ (colK x y ++ sgK x y 2) = boxK Y x ++ (colK x y ++ sgK x y 1) := by
                  rw [sgK_next, show sgP (x : Int) (y : Int) 1 = [] by unfold sgP; rw [if_pos (by omega)], List.append_nil]
                rw [← hnx] at hWh
                clear hnx hR
                go_wp2
                exact ⟨⟨2, by simp, by omega, hWh.out⟩, by simp [intOf]⟩
              · have hx1 : ((x : Int) == 0) = false := beq_eq_false_iff_ne.2 hx0
                rw [show ((1 : Nat) : Int) = 1 from rfl]
                have hnx : boxK Y x ++ (colK x y ++ sgK x y 2) = (boxK Y x ++ (colK x y ++ sgK x y 1)) ++ [((-x : Int), (y : Int))] := by
                  rw [sgK_next, show sgP (x : Int) (y : Int) 1 = [((-x : Int), (y : Int))] by unfold sgP; rw [if_neg (by omega)]; rfl]
                  simp only [List.append_assoc]
                have hPl2 : (boxK Y x ++ (colK x y ++ sgK x y 1)).length ≤ 2004 := by
                  rw [← List.append_assoc, List.length_append]
                  have := sgK_len x y 1
                  omega
                have Hnx := Lib.hid hnx
                generalize boxK Y x ++ (colK x y ++ sgK x y 1) = P at *
                have HF := Lib.hid (fun w => foValue_any f.a f.b f.c (-x : Int) (y : Int) w (at_small3 ⟨by omega, by omega⟩ ⟨by omega, by omega⟩ ⟨by omega, by omega⟩ ⟨by omega, by omega⟩ ⟨by omega, by omega⟩))
                have hv0 : 0 ≤ atF f.a f.b f.c (-x : Int) (y : Int) := hval.out ((-x : Int), (y : Int))
                have hvP : valP f ((-x : Int), (y : Int)) = atF f.a f.b f.c (-x : Int) (y : Int) := rfl
                have HvP := Lib.hid hvP
                generalize atF f.a f.b f.c (-x : Int) (y : Int) = m at HF hv0 hvP HvP
                clear hnx hvP
                obtain ⟨m, rfl⟩ : ∃ k : Nat, m = k := ⟨m.toNat, by omega⟩
                go_wp2_with fail
                refine (HF.out _).mono ?_
                rintro e v2 ⟨rfl, hB2⟩
                have hW2 := ThW.below hWh.out hB2
                have HW2 := Lib.hid hW2
                clear hR hA cA fA lA hz hbel hsz hB2 hWh
                obtain ⟨hR, hA, hsz, hbel⟩ := hW2
                by_cases hmn : m ≤ n
                · have hmn2 : (m : Int) ≤ n := by omega
                  have hm1 : m < N := by omega
                  have cR := hR.out.cell hm1
                  have fR := hR.out.frozen m
                  have hCl := cntV_len f P m
                  have hWn := ThW.count HW2.out HvP.out hm1
                  rw [← Hnx.out] at hWn
                  have HWn := Lib.hid hWn
                  generalize cntV f P m = C at *
                  have hwC : wrap64 ((C : Int) + 1) = C + 1 := IntWalk.wrap64_in _ (by omega)
                  clear hR hWn hv0 hmn hPl2 hCl hPl
                  go_wp2
                  exact ⟨⟨2, by simp, by omega, HWn.out⟩, by simp [intOf]⟩
                · have hmn2 : ¬ (m : Int) ≤ n := by omega
                  have hmd : decide ((m : Int) ≤ n) = false := decide_eq_false hmn2
                  have hWn := ThW.skip HW2.out HvP.out (by omega)
                  rw [← Hnx.out] at hWn
                  have HWn := Lib.hid hWn
                  clear hR hWn
                  go_wp2
                  exact ⟨⟨2, by simp, by omega, HWn.out⟩, by simp [intOf]⟩
            · by_cases hy0 : (y : Int) = 0
              · rw [show ((2 : Nat) : Int) = 2 from rfl]
                have hnx : boxK Y x ++ (colK x y ++ sgK x y 3) = boxK Y x ++ (colK x y ++ sgK x y 2) := by
                  rw [sgK_next, show sgP (x : Int) (y : Int) 2 = [] by unfold sgP; rw [if_pos (by omega)], List.append_nil]
                rw [← hnx] at hWh
                clear hnx hR
                go_wp2
                exact ⟨⟨3, by simp, by omega, hWh.out⟩, by simp [intOf]⟩
              · have hy1 : ((y : Int) == 0) = false := beq_eq_false_iff_ne.2 hy0
                rw [show ((2 : Nat) : Int) = 2 from rfl]
                have hnx : boxK Y x ++ (colK x y ++ sgK x y 3) = (boxK Y x ++ (colK x y ++ sgK x y 2)) ++ [((x : Int), (-y : Int))] := by
                  rw [sgK_next, show sgP (x : Int) (y : Int) 2 = [((x : Int), (-y : Int))] by unfold sgP; rw [if_neg (by omega)]; rfl]
                  simp only [List.append_assoc]
                have hPl2 : (boxK Y x ++ (colK x y ++ sgK x y 2)).length ≤ 2004 := by
                  rw [← List.append_assoc, List.length_append]
                  have := sgK_len x y 2
                  omega
                have Hnx := Lib.hid hnx
                generalize boxK Y x ++ (colK x y ++ sgK x y 2) = P at *
                have HF := Lib.hid (fun w => foValue_any f.a f.b f.c (x : Int) (-y : Int) w (at_small3 ⟨by omega, by omega⟩ ⟨by omega, by omega⟩ ⟨by omega, by omega⟩ ⟨by omega, by omega⟩ ⟨by omega, by omega⟩))
                have hv0 : 0 ≤ atF f.a f.b f.c (x : Int) (-y : Int) := hval.out ((x : Int), (-y : Int))
                have hvP : valP f ((x : Int), (-y : Int)) = atF f.a f.b f.c (x : Int) (-y : Int) := rfl
                have HvP := Lib.hid hvP
                generalize atF f.a f.b f.c (x : Int) (-y : Int) = m at HF hv0 hvP HvP
                clear hnx hvP
                obtain ⟨m, rfl⟩ : ∃ k : Nat, m = k := ⟨m.toNat, by omega⟩
                go_wp2_with fail
                refine (HF.out _).mono ?_
                rintro e v2 ⟨rfl, hB2⟩
                have hW2 := ThW.below hWh.out hB2
                have HW2 := Lib.hid hW2
                clear hR hA cA fA lA hz hbel hsz hB2 hWh
                obtain ⟨hR, hA, hsz, hbel⟩ := hW2
                by_cases hmn : m ≤ n
                · have hmn2 : (m : Int) ≤ n := by omega
                  have hm1 : m < N := by omega
                  have cR := hR.out.cell hm1
                  have fR := hR.out.frozen m
                  have hCl := cntV_len f P m
                  have hWn := ThW.count HW2.out HvP.out hm1
                  rw [← Hnx.out] at hWn
                  have HWn := Lib.hid hWn
                  generalize cntV f P m = C at *
                  have hwC : wrap64 ((C : Int) + 1) = C + 1 := IntWalk.wrap64_in _ (by omega)
                  clear hR hWn hv0 hmn hPl2 hCl hPl
                  go_wp2
                  exact ⟨⟨3, by simp, by omega, HWn.out⟩, by simp [intOf]⟩
                · have hmn2 : ¬ (m : Int) ≤ n := by omega
                  have hmd : decide ((m : Int) ≤ n) = false := decide_eq_false hmn2
                  have hWn := ThW.skip HW2.out HvP.out (by omega)
                  rw [← Hnx.out] at hWn
                  have HWn := Lib.hid hWn
                  clear hR hWn
                  go_wp2
                  exact ⟨⟨3, by simp, by omega, HWn.out⟩, by simp [intOf]⟩
            · by_cases hx0 : (x : Int) = 0
              · rw [show ((3 : Nat) : Int) = 3 from rfl]
                have hnx : boxK Y x ++ (colK x y ++ sgK x y 4) = boxK Y x ++ (colK x y ++ sgK x y 3) := by
                  rw [sgK_next, show sgP (x : Int) (y : Int) 3 = [] by unfold sgP; rw [if_pos (by omega)], List.append_nil]
                rw [← hnx] at hWh
                clear hnx hR
                go_wp2
                exact ⟨⟨4, by simp, by omega, hWh.out⟩, by simp [intOf]⟩
              · have hx1 : ((x : Int) == 0) = false := beq_eq_false_iff_ne.2 hx0
                by_cases hy0 : (y : Int) = 0
                · rw [show ((3 : Nat) : Int) = 3 from rfl]
                  have hnx : boxK Y x ++ (colK x y ++ sgK x y 4) = boxK Y x ++ (colK x y ++ sgK x y 3) := by
                    rw [sgK_next, show sgP (x : Int) (y : Int) 3 = [] by unfold sgP; rw [if_pos (by omega)], List.append_nil]
                  rw [← hnx] at hWh
                  clear hnx hR
                  go_wp2
                  exact ⟨⟨4, by simp, by omega, hWh.out⟩, by simp [intOf]⟩
                · have hy1 : ((y : Int) == 0) = false := beq_eq_false_iff_ne.2 hy0
                  rw [show ((3 : Nat) : Int) = 3 from rfl]
                  have hnx : boxK Y x ++ (colK x y ++ sgK x y 4) = (boxK Y x ++ (colK x y ++ sgK x y 3)) ++ [((-x : Int), (-y : Int))] := by
                    rw [sgK_next, show sgP (x : Int) (y : Int) 3 = [((-x : Int), (-y : Int))] by unfold sgP; rw [if_neg (by omega)]; rfl]
                    simp only [List.append_assoc]
                  have hPl2 : (boxK Y x ++ (colK x y ++ sgK x y 3)).length ≤ 2004 := by
                    rw [← List.append_assoc, List.length_append]
                    have := sgK_len x y 3
                    omega
                  have Hnx := Lib.hid hnx
                  generalize boxK Y x ++ (colK x y ++ sgK x y 3) = P at *
                  have HF := Lib.hid (fun w => foValue_any f.a f.b f.c (-x : Int) (-y : Int) w (at_small3 ⟨by omega, by omega⟩ ⟨by omega, by omega⟩ ⟨by omega, by omega⟩ ⟨by omega, by omega⟩ ⟨by omega, by omega⟩))
                  have hv0 : 0 ≤ atF f.a f.b f.c (-x : Int) (-y : Int) := hval.out ((-x : Int), (-y : Int))
                  have hvP : valP f ((-x : Int), (-y : Int)) = atF f.a f.b f.c (-x : Int) (-y : Int) := rfl
                  have HvP := Lib.hid hvP
                  generalize atF f.a f.b f.c (-x : Int) (-y : Int) = m at HF hv0 hvP HvP
                  clear hnx hvP
                  obtain ⟨m, rfl⟩ : ∃ k : Nat, m = k := ⟨m.toNat, by omega⟩
                  go_wp2_with fail
                  refine (HF.out _).mono ?_
                  rintro e v2 ⟨rfl, hB2⟩
                  have hW2 := ThW.below hWh.out hB2
                  have HW2 := Lib.hid hW2
                  clear hR hA cA fA lA hz hbel hsz hB2 hWh
                  obtain ⟨hR, hA, hsz, hbel⟩ := hW2
                  by_cases hmn : m ≤ n
                  · have hmn2 : (m : Int) ≤ n := by omega
                    have hm1 : m < N := by omega
                    have cR := hR.out.cell hm1
                    have fR := hR.out.frozen m
                    have hCl := cntV_len f P m
                    have hWn := ThW.count HW2.out HvP.out hm1
                    rw [← Hnx.out] at hWn
                    have HWn := Lib.hid hWn
                    generalize cntV f P m = C at *
                    have hwC : wrap64 ((C : Int) + 1) = C + 1 := IntWalk.wrap64_in _ (by omega)
                    clear hR hWn hv0 hmn hPl2 hCl hPl
                    go_wp2
                    exact ⟨⟨4, by simp, by omega, HWn.out⟩, by simp [intOf]⟩
                  · have hmn2 : ¬ (m : Int) ≤ n := by omega
                    have hmd : decide ((m : Int) ≤ n) = false := decide_eq_false hmn2
                    have hWn := ThW.skip HW2.out HvP.out (by omega)
                    rw [← Hnx.out] at hWn
                    have HWn := Lib.hid hWn
                    clear hR hWn
                    go_wp2
                    exact ⟨⟨4, by simp, by omega, HWn.out⟩, by simp [intOf]⟩
            · rw [← colK_next] at hR
              go_wp2
              exact ⟨⟨y + 1, by simp, hlt2, hR, hA, hsz, hbel⟩, by simp [intOf]; omega⟩
        · have hle2 : ¬ f.c * (y : Int) * y ≤ 2 * n := fun h => hlt2 (hYy.2 h)
          have hld2 : decide (f.c * (y : Int) * y ≤ 2 * n) = false := decide_eq_false hle2
          have ey : y = Y := by omega
          subst ey
          rw [← boxK_next] at hR
          go_wp2
          exact ⟨⟨x + 1, by simp, hlt, hR, hA, hsz, hbel⟩, by simp [intOf]; omega⟩
    · have hle : ¬ f.a * (x : Int) * x ≤ 2 * n := fun h => hlt (hXx.2 h)
      have hld : decide (f.a * (x : Int) * x ≤ 2 * n) = false := decide_eq_false hle
      have ex : x = X := by omega
      subst ex
      go_wp2
      go_ret
      have hown := rowIs_own (xs := cellsI (thL d f N)) (B := w.heap.size) hR.out (by rw [cellsI_len, thL_len]) (fun m hm => by rw [Hbox.out m (by omega)]; simp [cellsI, thL, hm]) (by omega) (by unfold maxLen; omega)
      exact ⟨_, rfl, by rw [thL_len]; exact hown, hbel⟩
end Go.Proofs.Ytjfcaafmlghjlaa
