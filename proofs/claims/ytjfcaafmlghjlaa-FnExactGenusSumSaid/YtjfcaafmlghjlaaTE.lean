/- Contracts of GenusSum, of the program and of the reference. -/
import Derived.Test.YtjfcaafmlghjlaaTD
namespace Go.Proofs.Ytjfcaafmlghjlaa
open Go.RowKit

/-- A list of integers in new memory comes back, and a truth value. -/
def RetI3 (L : List Int) (ok : Bool) (w : World) (e : Ending) (w' : World) : Prop := ∃ v, e = .returned (.tuple #[v, .bool ok]) ∧ w'.ownsRow w.heap.size 3 1 v L.length (cellsI L) ∧ Below w.heap.size w w'
/-- The number of terms in range. -/
def tmB (n : Int) : Bool := decide (0 ≤ n) && decide (n ≤ 100)
/-- What GenusSum gives. -/
def GsL (a b c n : Int) (S : List Int) (ok : Bool) : Prop :=
  (isCls a b c = false ∧ S = [] ∧ ok = false) ∨
  (isCls a b c = true ∧ tmB n = false ∧ S = [] ∧ ok = false) ∨
  (isCls a b c = true ∧ ∃ m : Nat, n = m ∧ m ≤ 100 ∧ S = smL (disc ⟨a, b, c⟩) ((clsL (disc ⟨a, b, c⟩)).filter (gnP (disc ⟨a, b, c⟩) (gnL (disc ⟨a, b, c⟩) (red ⟨a, b, c⟩)))) (m + 1) ∧ ok = true)
theorem gsL_ex (a b c n : Int) : ∃ S ok, GsL a b c n S ok ∧ S.length ≤ 10000000 := by
  cases hc : isCls a b c with
  | false => exact ⟨_, _, .inl ⟨hc, rfl, rfl⟩, by simp⟩
  | true =>
    cases ht : tmB n with
    | false => exact ⟨_, _, .inr (.inl ⟨hc, ht, rfl, rfl⟩), by simp⟩
    | true =>
      simp [tmB] at ht
      exact ⟨_, _, .inr (.inr ⟨hc, n.toNat, by omega, by omega, rfl, rfl⟩), by rw [smL_len]; omega⟩

set_option maxRecDepth 100000 in
theorem isTerms_any (n : Int) (w : World) : Calls Try.prog 201 #[.int .i64 n] w fun e w' => e = .returned (.bool (tmB n)) ∧ w = w' := by
  unfold tmB
  go_enter Try.func201, Try.ntmps201
  by_cases h1 : 0 ≤ n <;> by_cases h2 : n ≤ 100 <;> simp only [h1, h2, decide_true, decide_false, Bool.and_true, Bool.and_false] <;> (go_wp2; go_ret; try simp_all)

set_option maxRecDepth 100000 in
theorem thTerms_any (n : Int) (w : World) : Calls Try.prog 196 #[.int .i64 n] w fun e w' => e = .returned (.bool (tmB n)) ∧ w = w' := by
  go_enter Try.func196, Try.ntmps196
  go_wp2_with (go_at_call 217; refine (l1In_any n 0 100 _).mono ?_; rintro e v1 ⟨rfl, rfl⟩)
  go_ret
  exact ⟨rfl, rfl⟩

set_option maxRecDepth 100000 in
set_option maxHeartbeats 3200000 in
theorem implGS_any (a b c n : Int) (S : List Int) (ok : Bool) (w : World) (h : GsL a b c n S ok) :
    Calls Try.prog 83 #[.agg #[.int .i64 a, .int .i64 b, .int .i64 c], .int .i64 n] w (RetI3 S ok w) := by
  rcases h with ⟨hc, rfl, rfl⟩ | ⟨hc, ht, rfl, rfl⟩ | ⟨hc, m, rfl, hm, rfl, rfl⟩
  · have hG := Lib.hid (fun w => implGO_any a b c [] false w (.inl ⟨hc, rfl, rfl⟩))
    go_enter Try.func83, Try.ntmps83
    go_wp2_with (go_at_call 200; refine (hG.out _).mono ?_; rintro e v3 ⟨vg, rfl, howg, hB3⟩; have hZ3 := hB3.size; (try simp at hZ3))
    go_ret2
    exact ⟨_, rfl, own_empty (by omega), (by repeat (first | with_reducible exact Below.refl _ _ | with_reducible assumption | with_reducible apply Below.drew | with_reducible apply below_drewN | (with_reducible apply below_setp; (first | omega | (simp <;> omega))) | (with_reducible apply below_allocp; (first | omega | (simp <;> omega))) | (with_reducible refine below_viap (by assumption) ?_ ?_; (first | omega | (simp <;> omega)))))⟩
  · obtain ⟨G, hGe⟩ : ∃ G, (clsL (disc ⟨a, b, c⟩)).filter (gnP (disc ⟨a, b, c⟩) (gnL (disc ⟨a, b, c⟩) (red ⟨a, b, c⟩))) = G := ⟨_, rfl⟩
    have hG := Lib.hid (fun w => implGO_any a b c G true w (.inr ⟨hc, hGe.symm, rfl⟩))
    have hT := Lib.hid (fun w => isTerms_any n w)
    rw [ht] at hT
    clear hGe
    go_enter Try.func83, Try.ntmps83
    go_wp2_with (first
      | (go_at_call 200; refine (hG.out _).mono ?_; rintro e v3 ⟨vg, rfl, howg, hB3⟩; have hZ3 := hB3.size; (try simp at hZ3))
      | (go_at_call 201; (with_reducible refine (hT.out _).mono ?_); rintro e v ⟨rfl, rfl⟩))
    go_ret2
    exact ⟨_, rfl, own_empty (by omega), (by repeat (first | with_reducible exact Below.refl _ _ | with_reducible assumption | with_reducible apply Below.drew | with_reducible apply below_drewN | (with_reducible apply below_setp; (first | omega | (simp <;> omega))) | (with_reducible apply below_allocp; (first | omega | (simp <;> omega))) | (with_reducible refine below_viap (by assumption) ?_ ?_; (first | omega | (simp <;> omega)))))⟩
  · have cf := CF.of_cls hc
    have D := cf.D
    obtain ⟨G, hGe⟩ : ∃ G, (clsL (disc ⟨a, b, c⟩)).filter (gnP (disc ⟨a, b, c⟩) (gnL (disc ⟨a, b, c⟩) (red ⟨a, b, c⟩))) = G := ⟨_, rfl⟩
    have hG := Lib.hid (fun w => implGO_any a b c G true w (.inr ⟨hc, hGe.symm, rfl⟩))
    have hT := Lib.hid (fun w => isTerms_any (m : Int) w)
    rw [show tmB (m : Int) = true by simp [tmB]; omega] at hT
    have hGm : ∀ f ∈ G, f ∈ clsL (disc ⟨a, b, c⟩) := fun f hf => by rw [← hGe] at hf; exact (List.mem_filter.mp hf).1
    have hGl : G.length ≤ 2000 := by rw [← hGe]; exact Nat.le_trans (List.length_filter_le _ _) (Nat.le_trans (clsL_len _) (by decide))
    have hS := Lib.hid (fun v B w ho => thetaSum_any (disc ⟨a, b, c⟩) m G v B w D hGm hGl hm ho)
    rw [hGe]
    clear hGe cf D hGm
    generalize smL (disc ⟨a, b, c⟩) G (m + 1) = S at *
    go_enter Try.func83, Try.ntmps83
    go_wp2_with (first
      | (go_at_call 200; refine (hG.out _).mono ?_; rintro e v3 ⟨vg, rfl, howg, hB3⟩; have hZ3 := hB3.size; (try simp at hZ3))
      | (go_at_call 201; (with_reducible refine (hT.out _).mono ?_); rintro e v ⟨rfl, rfl⟩)
      | (go_at_call 202; refine (hS.out _ _ _ howg).mono ?_; rintro e v4 ⟨vl, rfl, howl, hB4⟩; have hZ4 := hB4.size))
    go_ret2
    exact ⟨_, rfl, own_base (by omega) howl, (by repeat (first | with_reducible exact Below.refl _ _ | with_reducible assumption | with_reducible apply Below.drew | with_reducible apply below_drewN | (with_reducible apply below_setp; (first | omega | (simp <;> omega))) | (with_reducible apply below_allocp; (first | omega | (simp <;> omega))) | (with_reducible refine below_viap (by assumption) ?_ ?_; (first | omega | (simp <;> omega)))))⟩

set_option maxRecDepth 100000 in
set_option maxHeartbeats 3200000 in
theorem specGS_any (a b c n : Int) (S : List Int) (ok : Bool) (w : World) (h : GsL a b c n S ok) :
    Calls Try.prog 81 #[.agg #[.int .i64 a, .int .i64 b, .int .i64 c], .int .i64 n] w (RetI3 S ok w) := by
  rcases h with ⟨hc, rfl, rfl⟩ | ⟨hc, ht, rfl, rfl⟩ | ⟨hc, m, rfl, hm, rfl, rfl⟩
  · go_enter Try.func81, Try.ntmps81
    go_wp2_with (go_at_call 195; (with_reducible refine (scls_any a b c _).mono ?_); rw [hc]; rintro e v1 ⟨rfl, hB1⟩; have hZ1 := hB1.size; (try simp at hZ1); (try have zl1 : w.heap.size < v1.heap.size := by omega); (try have ze1 : w.heap.size ≤ v1.heap.size := by omega); (try have zn1 : ¬ w.heap.size = v1.heap.size := by omega); (try have zm1 : ¬ v1.heap.size = w.heap.size := by omega); have hC1_0 := fun o => (calm_cells hB1).1 (w.heap.size) o (by first | omega | (simp <;> omega)); have hF1_0 := fun o => (calm_cells hB1).2 (w.heap.size) o (by first | omega | (simp <;> omega)); (try have hl1_0 : w.heap.size < v1.heap.size := by omega); (try have hm1_0 : ¬ w.heap.size = v1.heap.size := by omega); (try have hn1_0 : ¬ v1.heap.size = w.heap.size := by omega))
    go_ret2
    exact ⟨_, rfl, World.ownsRow_nil _ _ _ _, (by repeat (first | with_reducible exact Below.refl _ _ | with_reducible assumption | with_reducible apply Below.drew | with_reducible apply below_drewN | (with_reducible apply below_setp; (first | omega | (simp <;> omega))) | (with_reducible apply below_allocp; (first | omega | (simp <;> omega))) | (with_reducible refine below_viap (by assumption) ?_ ?_; (first | omega | (simp <;> omega)))))⟩
  · have hT := Lib.hid (fun w => thTerms_any n w)
    rw [ht] at hT
    go_enter Try.func81, Try.ntmps81
    go_wp2_with (first
      | (go_at_call 195; (with_reducible refine (scls_any a b c _).mono ?_); rw [hc]; rintro e v1 ⟨rfl, hB1⟩; have hZ1 := hB1.size; (try simp at hZ1); (try have zl1 : w.heap.size < v1.heap.size := by omega); (try have ze1 : w.heap.size ≤ v1.heap.size := by omega); (try have zn1 : ¬ w.heap.size = v1.heap.size := by omega); (try have zm1 : ¬ v1.heap.size = w.heap.size := by omega); have hC1_0 := fun o => (calm_cells hB1).1 (w.heap.size) o (by first | omega | (simp <;> omega)); have hF1_0 := fun o => (calm_cells hB1).2 (w.heap.size) o (by first | omega | (simp <;> omega)); (try have hl1_0 : w.heap.size < v1.heap.size := by omega); (try have hm1_0 : ¬ w.heap.size = v1.heap.size := by omega); (try have hn1_0 : ¬ v1.heap.size = w.heap.size := by omega))
      | (go_at_call 196; (with_reducible refine (hT.out _).mono ?_); rintro e v ⟨rfl, rfl⟩))
    go_ret2
    exact ⟨_, rfl, World.ownsRow_nil _ _ _ _, (by repeat (first | with_reducible exact Below.refl _ _ | with_reducible assumption | with_reducible apply Below.drew | with_reducible apply below_drewN | (with_reducible apply below_setp; (first | omega | (simp <;> omega))) | (with_reducible apply below_allocp; (first | omega | (simp <;> omega))) | (with_reducible refine below_viap (by assumption) ?_ ?_; (first | omega | (simp <;> omega)))))⟩
  · have cf := CF.of_cls hc
    have D := cf.D
    have hT := Lib.hid (fun w => thTerms_any (m : Int) w)
    rw [show tmB (m : Int) = true by simp [tmB]; omega] at hT
    obtain ⟨r, hr⟩ : ∃ r, red ⟨a, b, c⟩ = r := ⟨_, rfl⟩
    obtain ⟨d, hd⟩ : ∃ d, disc ⟨a, b, c⟩ = d := ⟨_, rfl⟩
    rw [hr, hd] at cf
    rw [hr, hd]
    rw [hd] at D
    have hDc := Lib.hid (fun w => foDisc_cf d ⟨a, b, c⟩ r w cf)
    have hG := Lib.hid (fun w => chOf_gn d ⟨a, b, c⟩ r w cf)
    have hgl := gn_len cf.D cf.mem
    generalize gnL d r = V at *
    have hW := Lib.hid (fun v B2 w h => chWith_any d v B2 V w D hgl h)
    have hGm : ∀ f ∈ (clsL d).filter (gnP d V), f ∈ clsL d := fun f hf => (List.mem_filter.mp hf).1
    have hGl : ((clsL d).filter (gnP d V)).length ≤ 2000 := Nat.le_trans (List.length_filter_le _ _) (Nat.le_trans (clsL_len _) (by decide))
    generalize (clsL d).filter (gnP d V) = G at *
    have hS := Lib.hid (fun v B w ho => thSum_any d m G v B w D hGm hGl hm ho)
    clear cf D hGm hr hd hgl
    generalize smL d G (m + 1) = S at *
    go_enter Try.func81, Try.ntmps81
    go_wp2_with (first
      | (go_at_call 195; (with_reducible refine (scls_any a b c _).mono ?_); rw [hc]; rintro e v1 ⟨rfl, hB1⟩; have hZ1 := hB1.size; (try simp at hZ1); (try have zl1 : w.heap.size < v1.heap.size := by omega); (try have ze1 : w.heap.size ≤ v1.heap.size := by omega); (try have zn1 : ¬ w.heap.size = v1.heap.size := by omega); (try have zm1 : ¬ v1.heap.size = w.heap.size := by omega); have hA1 : Blk v1 (w.heap.size) 35 #[.int .i64 a, .int .i64 b, .int .i64 c] := Blk.call (by (repeat (first | with_reducible assumption | (with_reducible apply Blk.new_at; (first | rfl | (simp; done))) | with_reducible apply Blk.store3 | with_reducible apply Blk.store4 | (with_reducible apply Blk.farp; (first | omega | (simp <;> omega))) | with_reducible apply Blk.allocp | with_reducible apply Blk.drew | with_reducible apply Blk.drewN))) hB1; have cA1 := hA1.cell; have fA1 := hA1.frozen; have lA1 := hA1.lt; have mA1 := Nat.ne_of_gt lA1; have nA1 := Nat.ne_of_lt lA1)
      | (go_at_call 196; (with_reducible refine (hT.out _).mono ?_); rintro e v ⟨rfl, rfl⟩))
    go_region_with (first
      | (go_at_call 132; (with_reducible refine (hDc.out _).mono ?_); rintro e v2 ⟨rfl, hB2⟩; have hZ2 := hB2.size; (try simp at hZ2); (try have zl2 : w.heap.size < v2.heap.size := by omega); (try have ze2 : w.heap.size ≤ v2.heap.size := by omega); (try have zn2 : ¬ w.heap.size = v2.heap.size := by omega); (try have zm2 : ¬ v2.heap.size = w.heap.size := by omega); have hA2 : Blk v2 (w.heap.size) 35 #[.int .i64 a, .int .i64 b, .int .i64 c] := Blk.call (by (repeat (first | with_reducible assumption | (with_reducible apply Blk.new_at; (first | rfl | (simp; done))) | with_reducible apply Blk.store3 | with_reducible apply Blk.store4 | (with_reducible apply Blk.farp; (first | omega | (simp <;> omega))) | with_reducible apply Blk.allocp | with_reducible apply Blk.drew | with_reducible apply Blk.drewN))) hB2; have cA2 := hA2.cell; have fA2 := hA2.frozen; have lA2 := hA2.lt; have mA2 := Nat.ne_of_gt lA2; have nA2 := Nat.ne_of_lt lA2)
      | (go_at_call 199; refine (hG.out _).mono ?_; rintro e v3 ⟨vg, rfl, howg, hB3⟩; have hZ3 := hB3.size; have hA3 : Blk v3 w.heap.size 35 #[.int .i64 a, .int .i64 b, .int .i64 c] := Blk.call (by (repeat (first | with_reducible assumption | (with_reducible apply Blk.new_at; (first | rfl | (simp; done))) | with_reducible apply Blk.store3 | with_reducible apply Blk.store4 | (with_reducible apply Blk.farp; (first | omega | (simp <;> omega))) | with_reducible apply Blk.allocp | with_reducible apply Blk.drew | with_reducible apply Blk.drewN))) hB3; have cA3 := hA3.cell; have fA3 := hA3.frozen; have lA3 := hA3.lt)
      | (go_at_call 198; (first | refine (hW.out _ _ _ howg).mono ?_ | refine (hW.out _ _ _ (own_call hB2 howg)).mono ?_); rintro e v4 ⟨vl, rfl, howl, hB4⟩; have hZ4 := hB4.size)
      | (go_at_call 197; refine (hS.out _ _ _ howl).mono ?_; rintro e v5 ⟨vm, rfl, howm, hB5⟩; have hZ5 := hB5.size))
    all_goals (go_wp2; go_ret2; exact ⟨_, rfl, own_base (by omega) howm, (by repeat (first | with_reducible exact Below.refl _ _ | with_reducible assumption | with_reducible apply Below.drew | with_reducible apply below_drewN | (with_reducible apply below_setp; (first | omega | (simp <;> omega))) | (with_reducible apply below_allocp; (first | omega | (simp <;> omega))) | (with_reducible refine below_viap (by assumption) ?_ ?_; (first | omega | (simp <;> omega)))))⟩)
end Go.Proofs.Ytjfcaafmlghjlaa
