/- Contracts of ClassLogarithm, of both sides. -/
import Derived.Test.YtkkamlhpappebaaBG
import Derived.Test.YtkkamlhpappebaaSI
import Derived.Test.YtkkamlhpappebaaKX
namespace Go.Proofs.Ytkkamlhpappebaa
open Go.RowKit Go.Maps

/-- What ClassLogarithm gives. -/
def LgL (a b c : Int) (L : List Int) (ok : Bool) : Prop :=
  (isCls a b c = false ∧ L = [] ∧ ok = false) ∨ (isCls a b c = true ∧ L = nats (lgN (disc ⟨a, b, c⟩) (gix (clsL (disc ⟨a, b, c⟩)) (red ⟨a, b, c⟩)).toNat) ∧ ok = true)
theorem lgL_ex (a b c : Int) : ∃ L ok, LgL a b c L ok ∧ L.length ≤ 100000 := by
  cases hc : isCls a b c with
  | false => exact ⟨_, _, .inl ⟨hc, rfl, rfl⟩, by simp⟩
  | true =>
    refine ⟨_, _, .inr ⟨hc, rfl, rfl⟩, ?_⟩
    have D := (CF.of_cls hc).D
    rw [nats_len, lgN_eq D, logN_len, facN_len]
    exact Nat.le_trans (inv_len20 D) (by decide)

set_option maxRecDepth 100000 in
set_option maxHeartbeats 3200000 in
theorem specLg_any (a b c : Int) (R : List Int) (ok : Bool) (w : World) (h : LgL a b c R ok) :
    Calls Try.prog 68 #[.agg #[.int .i64 a, .int .i64 b, .int .i64 c]] w (RetIb R ok w) := by
  rcases h with ⟨hc, rfl, rfl⟩ | ⟨hc, rfl, rfl⟩
  · go_enter Try.func68, Try.ntmps68
    go_wp2_with (go_at_call 148; (with_reducible refine (scls_any a b c _).mono ?_); rw [hc]; rintro e v1 ⟨rfl, hB1⟩; have hZ1 := hB1.size; (try simp at hZ1); (try have zl1 : w.heap.size < v1.heap.size := by omega); (try have ze1 : w.heap.size ≤ v1.heap.size := by omega); (try have zn1 : ¬ w.heap.size = v1.heap.size := by omega); (try have zm1 : ¬ v1.heap.size = w.heap.size := by omega); have hC1_0 := fun o => (calm_cells hB1).1 (w.heap.size) o (by first | omega | (simp <;> omega)); have hF1_0 := fun o => (calm_cells hB1).2 (w.heap.size) o (by first | omega | (simp <;> omega)); (try have hl1_0 : w.heap.size < v1.heap.size := by omega); (try have hm1_0 : ¬ w.heap.size = v1.heap.size := by omega); (try have hn1_0 : ¬ v1.heap.size = w.heap.size := by omega))
    go_ret2
    exact ⟨_, rfl, World.ownsRow_nil _ _ _ _, (by repeat (first | with_reducible exact Below.refl _ _ | with_reducible assumption | with_reducible apply Below.drew | with_reducible apply below_drewN | (with_reducible apply below_setp; (first | omega | (simp <;> omega))) | (with_reducible apply below_allocp; (first | omega | (simp <;> omega))) | (with_reducible refine below_viap (by assumption) ?_ ?_; (first | omega | (simp <;> omega)))))⟩
  · have cf := CF.of_cls hc
    obtain ⟨r, hr⟩ : ∃ r, red ⟨a, b, c⟩ = r := ⟨_, rfl⟩
    obtain ⟨d, hd⟩ : ∃ d, disc ⟨a, b, c⟩ = d := ⟨_, rfl⟩
    rw [hr, hd] at cf
    rw [hr, hd]
    have D := cf.D
    have hR := Lib.hid (fun w => reClass_cf d ⟨a, b, c⟩ r w cf)
    have hDc := Lib.hid (fun w => foDisc_cf d ⟨a, b, c⟩ r w cf)
    have hT := Lib.hid (fun w => grTable_any d w D)
    have hRe := Lib.hid (fun w => reList_any d w D.lo D.hi)
    obtain ⟨L, hL⟩ : ∃ L, clsL d = L := ⟨_, rfl⟩
    have hl : L.length ≤ 100000 := by rw [← hL]; exact Nat.le_trans (clsL_len d) (by decide)
    have hm := cf.mem
    rw [hL] at hT hRe hm ⊢
    obtain ⟨n, hn, hnr, hng⟩ := gix_mem hm
    have hLo := Lib.hid (fun (B : Nat) (base : Option Addr) (cap : Nat) (w : World) ht => grLog_any d L B base cap n w D hL hn ht)
    have hGi := Lib.hid (fun (v : Value) (B : Nat) (w : World) h => (show Calls Try.prog 150 #[v, .agg #[.int .i64 r.a, .int .i64 r.b, .int .i64 r.c]] w (fun e w' => e = .returned (.int .i64 (n : Int)) ∧ Below w.heap.size w w') from by
      have h := grIndex_any v B L r w hl h
      rwa [hng] at h))
    rw [hng, Int.toNat_natCast]
    generalize lgN d n = T at *
    clear hr hd hL cf D hm hnr hng
    go_enter Try.func68, Try.ntmps68
    go_wp2_with (first
      | (go_at_call 148; (with_reducible refine (scls_any a b c _).mono ?_); rw [hc]; rintro e v1 ⟨rfl, hB1⟩; have hZ1 := hB1.size; (try simp at hZ1); (try have zl1 : w.heap.size < v1.heap.size := by omega); (try have ze1 : w.heap.size ≤ v1.heap.size := by omega); (try have zn1 : ¬ w.heap.size = v1.heap.size := by omega); (try have zm1 : ¬ v1.heap.size = w.heap.size := by omega); have hA1 : Blk v1 (w.heap.size) 35 #[.int .i64 a, .int .i64 b, .int .i64 c] := Blk.call (by (repeat (first | with_reducible assumption | (with_reducible apply Blk.new_at; (first | rfl | (simp; done))) | with_reducible apply Blk.store3 | with_reducible apply Blk.store4 | (with_reducible apply Blk.farp; (first | omega | (simp <;> omega))) | with_reducible apply Blk.allocp | with_reducible apply Blk.drew | with_reducible apply Blk.drewN))) hB1; have cA1 := hA1.cell; have fA1 := hA1.frozen; have lA1 := hA1.lt; have mA1 := Nat.ne_of_gt lA1; have nA1 := Nat.ne_of_lt lA1)
      | (go_at_call 92; (with_reducible refine (hDc.out _).mono ?_); rintro e v2 ⟨rfl, hB2⟩; have hZ2 := hB2.size; (try simp at hZ2); (try have zl2 : w.heap.size < v2.heap.size := by omega); (try have ze2 : w.heap.size ≤ v2.heap.size := by omega); (try have zn2 : ¬ w.heap.size = v2.heap.size := by omega); (try have zm2 : ¬ v2.heap.size = w.heap.size := by omega); have hA2 : Blk v2 (w.heap.size) 35 #[.int .i64 a, .int .i64 b, .int .i64 c] := Blk.call (by (repeat (first | with_reducible assumption | (with_reducible apply Blk.new_at; (first | rfl | (simp; done))) | with_reducible apply Blk.store3 | with_reducible apply Blk.store4 | (with_reducible apply Blk.farp; (first | omega | (simp <;> omega))) | with_reducible apply Blk.allocp | with_reducible apply Blk.drew | with_reducible apply Blk.drewN))) hB2; have cA2 := hA2.cell; have fA2 := hA2.frozen; have lA2 := hA2.lt; have mA2 := Nat.ne_of_gt lA2; have nA2 := Nat.ne_of_lt lA2))
    go_region_with (first
      | (go_at_call 139; refine (hT.out _).mono ?_; rintro e v3 ⟨base, cap, rfl, ht3, hB3⟩; have hZ3 := hB3.size; (try simp at hZ3); have hA3 : Blk v3 w.heap.size 35 #[.int .i64 a, .int .i64 b, .int .i64 c] := Blk.call (by (repeat (first | with_reducible assumption | (with_reducible apply Blk.new_at; (first | rfl | (simp; done))) | with_reducible apply Blk.store3 | with_reducible apply Blk.store4 | (with_reducible apply Blk.farp; (first | omega | (simp <;> omega))) | with_reducible apply Blk.allocp | with_reducible apply Blk.drew | with_reducible apply Blk.drewN))) hB3; have cA3 := hA3.cell; have fA3 := hA3.frozen; have lA3 := hA3.lt)
      | (go_at_call 75; refine (hRe.out _).mono ?_; rintro e v4 ⟨vl, rfl, howl, hB4⟩; have hZ4 := hB4.size; have hA4 : Blk v4 w.heap.size 35 #[.int .i64 a, .int .i64 b, .int .i64 c] := Blk.call (by (repeat (first | with_reducible assumption | (with_reducible apply Blk.new_at; (first | rfl | (simp; done))) | with_reducible apply Blk.store3 | with_reducible apply Blk.store4 | (with_reducible apply Blk.farp; (first | omega | (simp <;> omega))) | with_reducible apply Blk.allocp | with_reducible apply Blk.drew | with_reducible apply Blk.drewN))) hB4; have cA4 := hA4.cell; have fA4 := hA4.frozen; have lA4 := hA4.lt; have ht4 := ht3.call hB4)
      | (go_at_call 96; (with_reducible refine (hR.out _).mono ?_); rintro e v5 ⟨rfl, hB5⟩; have hZ5 := hB5.size; (try simp at hZ5); (try have zl5 : w.heap.size < v5.heap.size := by omega); (try have ze5 : w.heap.size ≤ v5.heap.size := by omega); (try have zn5 : ¬ w.heap.size = v5.heap.size := by omega); (try have zm5 : ¬ v5.heap.size = w.heap.size := by omega); have hA5 : Blk v5 (w.heap.size) 35 #[.int .i64 a, .int .i64 b, .int .i64 c] := Blk.call (by (repeat (first | with_reducible assumption | (with_reducible apply Blk.new_at; (first | rfl | (simp; done))) | with_reducible apply Blk.store3 | with_reducible apply Blk.store4 | (with_reducible apply Blk.farp; (first | omega | (simp <;> omega))) | with_reducible apply Blk.allocp | with_reducible apply Blk.drew | with_reducible apply Blk.drewN))) hB5; have cA5 := hA5.cell; have fA5 := hA5.frozen; have lA5 := hA5.lt; have mA5 := Nat.ne_of_gt lA5; have nA5 := Nat.ne_of_lt lA5)
      | (go_at_call 150; refine (hGi.out _ _ _ (own_call hB5 howl)).mono ?_; rintro e v6 ⟨rfl, hB6⟩; have hZ6 := hB6.size)
      | (go_at_call 149; refine (hLo.out _ _ _ _ ((ht4.call hB5).call hB6)).mono ?_; rintro e v7 ⟨vr, rfl, hor, hB7⟩; have hZ7 := hB7.size))
    all_goals (go_wp2; go_ret2; exact ⟨_, rfl, own_base (by omega) hor, (by repeat (first | with_reducible exact Below.refl _ _ | with_reducible assumption | with_reducible apply Below.drew | with_reducible apply below_drewN | (with_reducible apply below_setp; (first | omega | (simp <;> omega))) | (with_reducible apply below_allocp; (first | omega | (simp <;> omega))) | (with_reducible refine below_viap (by assumption) ?_ ?_; (first | omega | (simp <;> omega)))))⟩)
end Go.Proofs.Ytkkamlhpappebaa
