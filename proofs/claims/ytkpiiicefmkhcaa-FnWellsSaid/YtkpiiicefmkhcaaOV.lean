/- Parts OG OJ OK laid together by tp.py. -/
import Derived.Test.YtkpiiicefmkhcaaOY
import Derived.Test.YtkpiiicefmkhcaaOE
import Derived.Test.YtkpiiicefmkhcaaVC
import Derived.Deep.RegionHeld3
import Derived.Deep.DeepCutAuto
import Derived.Test.YtkpiiicefmkhcaaAN
import Derived.Test.YtkpiiicefmkhcaaWQ
namespace Go.Proofs.Ytkpiiicefmkhcaa
section
open Go.RowKit

theorem ltP_eq {p q : Int × Int} (h1 : ltP p q = false) (h2 : ltP q p = false) : p = q := by
  obtain ⟨a, b⟩ := p; obtain ⟨c, d⟩ := q
  rw [ltP_f] at h1 h2
  rw [Prod.mk.injEq]; omega
theorem ltP_tr {p q r : Int × Int} (h1 : ltP p q = true) (h2 : ltP q r = true) : ltP p r = true := by
  obtain ⟨a, b⟩ := p; obtain ⟨c, d⟩ := q; obtain ⟨e, f⟩ := r
  rw [ltP_t] at h1 h2 ⊢
  omega
/-- Two sorted insertions give the three points in their order. -/
theorem ins_srt (a1 a2 b1 b2 c1 c2 : Int) (k1 k2 : Nat) (h1 : k1 ≤ 1) (p1 : PosP [(a1, a2)] (b1, b2) k1) (h2 : k2 ≤ 2) (p2 : PosP (insP [(a1, a2)] (b1, b2) k1) (c1, c2) k2) :
    insP (insP [(a1, a2)] (b1, b2) k1) (c1, c2) k2 = [(srt3 (a1, a2) (b1, b2) (c1, c2)).u, (srt3 (a1, a2) (b1, b2) (c1, c2)).v, (srt3 (a1, a2) (b1, b2) (c1, c2)).w] := by
  have key : ∀ (L : List (Int × Int)) p k, PosP L p k → (∀ j (h : j < L.length), j < k → ltP L[j] p = true) ∧ ∀ h : k < L.length, ltP L[k] p = false := fun L p k h => h
  obtain ⟨u1, u2⟩ := key _ _ _ p1
  obtain ⟨v1, v2⟩ := key _ _ _ p2
  have ek : k1 = 0 ∨ k1 = 1 := by omega
  have ek2 : k2 = 0 ∨ k2 = 1 ∨ k2 = 2 := by omega
  unfold srt3
  rcases ek with rfl | rfl <;> rcases ek2 with rfl | rfl | rfl
  · have f1 := u2 (by simp); have f2 := v2 (by simp [insP])
    simp [insP, ltP_f, ltP_t] at *
    repeat' split
    all_goals simp_all <;> omega
  · have f1 := u2 (by simp); have f2 := v2 (by simp [insP]); have f3 := v1 0 (by simp [insP]) (by omega)
    simp [insP, ltP_f, ltP_t] at *
    repeat' split
    all_goals simp_all <;> omega
  · have f1 := u2 (by simp); have f2 := v1 1 (by simp [insP]) (by omega); have f3 := v1 0 (by simp [insP]) (by omega)
    simp [insP, ltP_f, ltP_t] at *
    repeat' split
    all_goals simp_all <;> omega
  · have f1 := u1 0 (by simp) (by omega); have f2 := v2 (by simp [insP])
    simp [insP, ltP_f, ltP_t] at *
    repeat' split
    all_goals simp_all <;> omega
  · have f1 := u1 0 (by simp) (by omega); have f2 := v2 (by simp [insP]); have f3 := v1 0 (by simp [insP]) (by omega)
    simp [insP, ltP_f, ltP_t] at *
    repeat' split
    all_goals simp_all <;> omega
  · have f1 := u1 0 (by simp) (by omega); have f2 := v1 1 (by simp [insP]) (by omega); have f3 := v1 0 (by simp [insP]) (by omega)
    simp [insP, ltP_t] at *
    repeat' split
    all_goals simp_all <;> omega
theorem own_blk2 {w : World} {g : Nat} {e : TypeId} {a b : Value} (h : Blk w g e #[a, b]) : w.ownsRow g e 2 (.slice (some ⟨g, 0, none⟩) 1 1) 1 [a, b] :=
  ⟨rfl, .inr ⟨g, 1, #[a, b], rfl, Nat.le_refl _, h, Nat.le_refl _, by decide, rfl, rfl⟩⟩
set_option maxRecDepth 100000 in
set_option maxHeartbeats 3200000 in
theorem tpSplit_any (i : Nat) (a1 a2 b1 b2 c1 c2 p1 p2 q1 q2 o1 o2 : Int) (w : World) (hi : i = 1 ∨ i = 2 ∨ i = 3) (hp : spP ⟨(a1, a2), (b1, b2), (c1, c2)⟩ i = (p1, p2)) (hq : spQ ⟨(a1, a2), (b1, b2), (c1, c2)⟩ i = (q1, q2)) (ho : spO ⟨(a1, a2), (b1, b2), (c1, c2)⟩ i = (o1, o2)) :
    Calls Try.prog 153 #[.agg #[.int .i64 a1, .int .i64 a2, .int .i64 b1, .int .i64 b2, .int .i64 c1, .int .i64 c2], .int .i64 i] w fun e w' => e = .returned (.tuple #[.agg #[.int .i64 o1, .int .i64 o2], .agg #[.int .i64 p1, .int .i64 p2], .agg #[.int .i64 q1, .int .i64 q2]]) ∧ Below w.heap.size w w' := by
  unfold spP at hp; unfold spQ at hq; unfold spO at ho
  rcases hi with rfl | rfl | rfl
  all_goals
    simp at hp hq ho
    obtain ⟨rfl, rfl⟩ := hp
    obtain ⟨rfl, rfl⟩ := hq
    obtain ⟨rfl, rfl⟩ := ho
    go_enter Try.func153, Try.ntmps153
    go_wp2
    go_region
    go_wp2
    exact bodyPost_ret (v := .tuple #[.agg #[_, _], .agg #[_, _], .agg #[_, _]]) (by simp [results, Try.results153, go_sem, *] <;> rfl) rfl ⟨rfl, (by repeat (first | with_reducible exact Below.refl _ _ | with_reducible assumption | with_reducible apply Below.drew | with_reducible apply below_drewN | (with_reducible apply below_setp; (first | omega | (simp <;> omega))) | (with_reducible apply below_allocp; (first | omega | (simp <;> omega))) | (with_reducible refine below_viap (by assumption) ?_ ?_; (first | omega | (simp <;> omega)))))⟩
set_option maxRecDepth 100000 in
set_option maxHeartbeats 6400000 in
theorem tpMake_any (a1 a2 b1 b2 c1 c2 r1 r2 s1 s2 t1 t2 : Int) (w : World) (hN : srt3 (a1, a2) (b1, b2) (c1, c2) = ⟨(r1, r2), (s1, s2), (t1, t2)⟩) :
    Calls Try.prog 138 #[.agg #[.int .i64 a1, .int .i64 a2], .agg #[.int .i64 b1, .int .i64 b2], .agg #[.int .i64 c1, .int .i64 c2]] w fun e w' => e = .returned (.agg #[.int .i64 r1, .int .i64 r2, .int .i64 s1, .int .i64 s2, .int .i64 t1, .int .i64 t2]) ∧ Below w.heap.size w w' := by
  have hV1 := Lib.hid (fun g w (h : Blk w g 37 #[.int .i64 a1, .int .i64 a2]) => (show Calls Try.prog 112 #[.slice (some ⟨g, 0, none⟩) 1 1, .agg #[.int .i64 b1, .int .i64 b2]] w (fun e w' => ∃ k, k ≤ 1 ∧ PosP [(a1, a2)] (b1, b2) k ∧ RetPs (insP [(a1, a2)] (b1, b2) k) w e w') from vaPutS_any (.slice (some ⟨g, 0, none⟩) 1 1) g [(a1, a2)] b1 b2 w (by simp) (own_blk2 h)))
  have hV2 := Lib.hid (fun v B k w h => vaPutS_any v B (insP [(a1, a2)] (b1, b2) k) c1 c2 w (by rw [insP_len]; simp) h)
  have hI := Lib.hid (fun k1 k2 h1 p1 h2 p2 => ins_srt a1 a2 b1 b2 c1 c2 k1 k2 h1 p1 h2 p2)
  rw [hN] at hI
  clear hN
  go_enter Try.func138, Try.ntmps138
  go_wp2
  go_region_held3 (fun w' => w'.cell? ⟨w.heap.size, 0, none⟩ = some (.int .i64 a1) ∧ w'.cell? ⟨w.heap.size, 1, none⟩ = some (.int .i64 a2) ∧ w'.cell? ⟨w.heap.size + 1, 0, none⟩ = some (.int .i64 b1) ∧ w'.cell? ⟨w.heap.size + 1, 1, none⟩ = some (.int .i64 b2) ∧ w'.cell? ⟨w.heap.size + 1 + 1, 0, none⟩ = some (.int .i64 c1) ∧ w'.cell? ⟨w.heap.size + 1 + 1, 1, none⟩ = some (.int .i64 c2)) (first | (go_keep; done) | (go_simp; done)) (first
    | (go_at_call 112; (with_reducible refine (hV1.out _ _ ?_).mono ?_); (exact Blk.new_at (by simp)); rintro e v1 ⟨k1, hk1, hp1, vl, rfl, ho1, hB1⟩; have hZ1 := hB1.size; (try simp at hZ1); have hP1 : Blk v1 w.heap.size 37 #[.int .i64 a1, .int .i64 a2] := Blk.call (by (repeat (first | with_reducible assumption | (with_reducible apply Blk.new_at; (first | rfl | (simp; done))) | with_reducible apply Blk.store3 | with_reducible apply Blk.store4 | (with_reducible apply Blk.farp; (first | omega | (simp <;> omega))) | with_reducible apply Blk.allocp | with_reducible apply Blk.drew | with_reducible apply Blk.drewN))) hB1; have cP1 := hP1.cell; have hQ1 : Blk v1 (w.heap.size + 1) 37 #[.int .i64 b1, .int .i64 b2] := Blk.call (by (repeat (first | with_reducible assumption | (with_reducible apply Blk.new_at; (first | rfl | (simp; done))) | with_reducible apply Blk.store3 | with_reducible apply Blk.store4 | (with_reducible apply Blk.farp; (first | omega | (simp <;> omega))) | with_reducible apply Blk.allocp | with_reducible apply Blk.drew | with_reducible apply Blk.drewN))) hB1; have cQ1 := hQ1.cell; have hR1 : Blk v1 (w.heap.size + 1 + 1) 37 #[.int .i64 c1, .int .i64 c2] := Blk.call (by (repeat (first | with_reducible assumption | (with_reducible apply Blk.new_at; (first | rfl | (simp; done))) | with_reducible apply Blk.store3 | with_reducible apply Blk.store4 | (with_reducible apply Blk.farp; (first | omega | (simp <;> omega))) | with_reducible apply Blk.allocp | with_reducible apply Blk.drew | with_reducible apply Blk.drewN))) hB1; have cR1 := hR1.cell; have hS1 : Blk v1 (w.heap.size + 1 + 1 + 1) 39 #[.int .i64 0, .int .i64 0, .int .i64 0, .int .i64 0, .int .i64 0, .int .i64 0] := Blk.call (by (repeat (first | with_reducible assumption | (with_reducible apply Blk.new_at; (first | rfl | (simp; done))) | with_reducible apply Blk.store3 | with_reducible apply Blk.store4 | (with_reducible apply Blk.farp; (first | omega | (simp <;> omega))) | with_reducible apply Blk.allocp | with_reducible apply Blk.drew | with_reducible apply Blk.drewN))) hB1; have lS1 := hS1.lt)
    | (go_at_call 112; (with_reducible refine (hV2.out _ _ k1 _ ho1).mono ?_); rintro e v2 ⟨k2, hk2, hp2, vm, rfl, ho2, hB2⟩; have hZ2 := hB2.size; (try simp at hZ2); have hP2 : Blk v2 w.heap.size 37 #[.int .i64 a1, .int .i64 a2] := Blk.call (by (repeat (first | with_reducible assumption | (with_reducible apply Blk.new_at; (first | rfl | (simp; done))) | with_reducible apply Blk.store3 | with_reducible apply Blk.store4 | (with_reducible apply Blk.farp; (first | omega | (simp <;> omega))) | with_reducible apply Blk.allocp | with_reducible apply Blk.drew | with_reducible apply Blk.drewN))) hB2; have cP2 := hP2.cell; have hQ2 : Blk v2 (w.heap.size + 1) 37 #[.int .i64 b1, .int .i64 b2] := Blk.call (by (repeat (first | with_reducible assumption | (with_reducible apply Blk.new_at; (first | rfl | (simp; done))) | with_reducible apply Blk.store3 | with_reducible apply Blk.store4 | (with_reducible apply Blk.farp; (first | omega | (simp <;> omega))) | with_reducible apply Blk.allocp | with_reducible apply Blk.drew | with_reducible apply Blk.drewN))) hB2; have cQ2 := hQ2.cell; have hR2 : Blk v2 (w.heap.size + 1 + 1) 37 #[.int .i64 c1, .int .i64 c2] := Blk.call (by (repeat (first | with_reducible assumption | (with_reducible apply Blk.new_at; (first | rfl | (simp; done))) | with_reducible apply Blk.store3 | with_reducible apply Blk.store4 | (with_reducible apply Blk.farp; (first | omega | (simp <;> omega))) | with_reducible apply Blk.allocp | with_reducible apply Blk.drew | with_reducible apply Blk.drewN))) hB2; have cR2 := hR2.cell; have hS2 : Blk v2 (w.heap.size + 1 + 1 + 1) 39 #[.int .i64 0, .int .i64 0, .int .i64 0, .int .i64 0, .int .i64 0, .int .i64 0] := Blk.call (by (repeat (first | with_reducible assumption | (with_reducible apply Blk.new_at; (first | rfl | (simp; done))) | with_reducible apply Blk.store3 | with_reducible apply Blk.store4 | (with_reducible apply Blk.farp; (first | omega | (simp <;> omega))) | with_reducible apply Blk.allocp | with_reducible apply Blk.drew | with_reducible apply Blk.drewN))) hB2; have cS2 := hS2.cell; have fS2 := hS2.frozen; have lS2 := hS2.lt))
  all_goals
    have e9 := hI.out k1 k2 hk1 hp1 (by rw [insP_len] at hk2; exact hk2) hp2
    rw [e9] at ho2
    (try dsimp only at ho2)
    obtain ⟨g, hcap, rfl, hg1, hg2, hg3⟩ := own_some ho2 (by simp)
    have hc := row_cells ho2
    have d0 := hc 0 (.int .i64 r1) rfl; have d1 := hc 1 (.int .i64 r2) rfl; have d2 := hc 2 (.int .i64 s1) rfl; have d3 := hc 3 (.int .i64 s2) rfl; have d4 := hc 4 (.int .i64 t1) rfl; have d5 := hc 5 (.int .i64 t2) rfl
    clear hc hP1 cP1 hQ1 cQ1 hR1 cR1 hS1 lS1 hP2 cP2 hQ2 cQ2 hR2 cR2 hp1 hp2 e9 hV1 hV2 hI
    go_wp2
    go_region
    go_wp2
    exact bodyPost_ret (v := .agg #[.int .i64 r1, .int .i64 r2, .int .i64 s1, .int .i64 s2, .int .i64 t1, .int .i64 t2]) (by simp [results, Try.results138, go_sem, *]) rfl ⟨rfl, (by repeat (first | with_reducible exact Below.refl _ _ | with_reducible assumption | with_reducible apply Below.drew | with_reducible apply below_drewN | (with_reducible apply below_setp; (first | omega | (simp <;> omega))) | (with_reducible apply below_allocp; (first | omega | (simp <;> omega))) | (with_reducible refine below_viap (by assumption) ?_ ?_; (first | omega | (simp <;> omega)))))⟩
set_option maxRecDepth 100000 in
set_option maxHeartbeats 6400000 in
theorem specStep_any (i : Nat) (a1 a2 b1 b2 c1 c2 s1 s2 t1 t2 u1 u2 p1 p2 q1 q2 o1 o2 r1 r2 : Int) (w : World) (h : StD i ⟨(a1, a2), (b1, b2), (c1, c2)⟩ ⟨(s1, s2), (t1, t2), (u1, u2)⟩ p1 p2 q1 q2 o1 o2 r1 r2) :
    Calls Try.prog 73 #[.agg #[.int .i64 a1, .int .i64 a2, .int .i64 b1, .int .i64 b2, .int .i64 c1, .int .i64 c2], .int .i64 i] w fun e w' => e = .returned (.agg #[.int .i64 s1, .int .i64 s2, .int .i64 t1, .int .i64 t2, .int .i64 u1, .int .i64 u2]) ∧ Below w.heap.size w w' := by
  have hW := Lib.hid (fun w => tpSplit_any i a1 a2 b1 b2 c1 c2 p1 p2 q1 q2 o1 o2 w h.i3 h.hp h.hq h.ho)
  have hO := Lib.hid (fun w => tpMake_any p1 p2 q1 q2 r1 r2 s1 s2 t1 t2 u1 u2 w h.hm)
  obtain ⟨⟨bp1, bp2⟩, bp3, bp4⟩ := h.bp
  obtain ⟨⟨bq1, bq2⟩, bq3, bq4⟩ := h.bq
  have w1 : IntKind.i64.wrap (p1 + q1) = p1 + q1 := IntWalk.i64_in _ (by omega)
  have w2 : IntKind.i64.wrap (p2 + q2) = p2 + q2 := IntWalk.i64_in _ (by omega)
  have w3 : IntKind.i64.wrap (p1 - q1) = p1 - q1 := IntWalk.i64_in _ (by omega)
  have w4 : IntKind.i64.wrap (p2 - q2) = p2 - q2 := IntWalk.i64_in _ (by omega)
  obtain ⟨x1, x2, hx, hc⟩ := nw_split p1 p2 q1 q2 o1 o2 r1 r2 h.hr
  have hR := Lib.hid (fun w => tpOf_any (p1 + q1) (p2 + q2) x1 x2 w (by omega) (by omega) hx)
  rcases hc with ⟨rfl, rfl, hy⟩ | ⟨e1, rfl, rfl⟩ | ⟨rfl, e1, rfl, rfl⟩
  · have hS := Lib.hid (fun w => tpOf_any (p1 - q1) (p2 - q2) r1 r2 w (by omega) (by omega) hy)
    clear h hx hy bp1 bp2 bp3 bp4 bq1 bq2 bq3 bq4
    go_enter Try.func73, Try.ntmps73
    go_wp2_with (first | (go_at_call 153; (with_reducible refine (hW.out _).mono ?_); rintro e v1 ⟨rfl, hB1⟩; have hZ1 := hB1.size; (try simp at hZ1); have hN1 : Blk v1 (w.heap.size) 39 #[.int .i64 a1, .int .i64 a2, .int .i64 b1, .int .i64 b2, .int .i64 c1, .int .i64 c2] := Blk.call (by (repeat (first | with_reducible assumption | (with_reducible apply Blk.new_at; (first | rfl | (simp; done))) | with_reducible apply Blk.store2 | with_reducible apply Blk.store3 | with_reducible apply Blk.store4 | (with_reducible apply Blk.farp; (first | omega | (simp <;> omega))) | with_reducible apply Blk.allocp | with_reducible apply Blk.drew | with_reducible apply Blk.drewN))) hB1; have cN1 := hN1.cell; have fN1 := hN1.frozen; have lN1 := hN1.lt; have mN1 := Nat.ne_of_gt lN1; have nN1 := Nat.ne_of_lt lN1; have hR1 : Blk v1 (w.heap.size + 1) 39 #[.int .i64 0, .int .i64 0, .int .i64 0, .int .i64 0, .int .i64 0, .int .i64 0] := Blk.call (by (repeat (first | with_reducible assumption | (with_reducible apply Blk.new_at; (first | rfl | (simp; done))) | with_reducible apply Blk.store2 | with_reducible apply Blk.store3 | with_reducible apply Blk.store4 | (with_reducible apply Blk.farp; (first | omega | (simp <;> omega))) | with_reducible apply Blk.allocp | with_reducible apply Blk.drew | with_reducible apply Blk.drewN))) hB1; have cR1 := hR1.cell; have fR1 := hR1.frozen; have lR1 := hR1.lt; have mR1 := Nat.ne_of_gt lR1; have nR1 := Nat.ne_of_lt lR1) | (go_at_call 154; (with_reducible refine (hR.out _).mono ?_); rintro e v2 ⟨rfl, hB2⟩; have hZ2 := hB2.size; (try simp at hZ2); have hN2 : Blk v2 (w.heap.size) 39 #[.int .i64 a1, .int .i64 a2, .int .i64 b1, .int .i64 b2, .int .i64 c1, .int .i64 c2] := Blk.call (by (repeat (first | with_reducible assumption | (with_reducible apply Blk.new_at; (first | rfl | (simp; done))) | with_reducible apply Blk.store2 | with_reducible apply Blk.store3 | with_reducible apply Blk.store4 | (with_reducible apply Blk.farp; (first | omega | (simp <;> omega))) | with_reducible apply Blk.allocp | with_reducible apply Blk.drew | with_reducible apply Blk.drewN))) hB2; have cN2 := hN2.cell; have fN2 := hN2.frozen; have lN2 := hN2.lt; have mN2 := Nat.ne_of_gt lN2; have nN2 := Nat.ne_of_lt lN2; have hR2 : Blk v2 (w.heap.size + 1) 39 #[.int .i64 0, .int .i64 0, .int .i64 0, .int .i64 0, .int .i64 0, .int .i64 0] := Blk.call (by (repeat (first | with_reducible assumption | (with_reducible apply Blk.new_at; (first | rfl | (simp; done))) | with_reducible apply Blk.store2 | with_reducible apply Blk.store3 | with_reducible apply Blk.store4 | (with_reducible apply Blk.farp; (first | omega | (simp <;> omega))) | with_reducible apply Blk.allocp | with_reducible apply Blk.drew | with_reducible apply Blk.drewN))) hB2; have cR2 := hR2.cell; have fR2 := hR2.frozen; have lR2 := hR2.lt; have mR2 := Nat.ne_of_gt lR2; have nR2 := Nat.ne_of_lt lR2; have hP2 : Blk v2 (v1.heap.size + 1) 37 #[.int .i64 p1, .int .i64 p2] := Blk.call (by (repeat (first | with_reducible assumption | (with_reducible apply Blk.new_at; (first | rfl | (simp; done))) | with_reducible apply Blk.store2 | with_reducible apply Blk.store3 | with_reducible apply Blk.store4 | (with_reducible apply Blk.farp; (first | omega | (simp <;> omega))) | with_reducible apply Blk.allocp | with_reducible apply Blk.drew | with_reducible apply Blk.drewN))) hB2; have cP2 := hP2.cell; have fP2 := hP2.frozen; have lP2 := hP2.lt; have mP2 := Nat.ne_of_gt lP2; have nP2 := Nat.ne_of_lt lP2; have hQ2 : Blk v2 (v1.heap.size + 1 + 1) 37 #[.int .i64 q1, .int .i64 q2] := Blk.call (by (repeat (first | with_reducible assumption | (with_reducible apply Blk.new_at; (first | rfl | (simp; done))) | with_reducible apply Blk.store2 | with_reducible apply Blk.store3 | with_reducible apply Blk.store4 | (with_reducible apply Blk.farp; (first | omega | (simp <;> omega))) | with_reducible apply Blk.allocp | with_reducible apply Blk.drew | with_reducible apply Blk.drewN))) hB2; have cQ2 := hQ2.cell; have fQ2 := hQ2.frozen; have lQ2 := hQ2.lt; have mQ2 := Nat.ne_of_gt lQ2; have nQ2 := Nat.ne_of_lt lQ2; have hO2 : Blk v2 (v1.heap.size) 37 #[.int .i64 x1, .int .i64 x2] := Blk.call (by (repeat (first | with_reducible assumption | (with_reducible apply Blk.new_at; (first | rfl | (simp; done))) | with_reducible apply Blk.store2 | with_reducible apply Blk.store3 | with_reducible apply Blk.store4 | (with_reducible apply Blk.farp; (first | omega | (simp <;> omega))) | with_reducible apply Blk.allocp | with_reducible apply Blk.drew | with_reducible apply Blk.drewN))) hB2; have cO2 := hO2.cell; have fO2 := hO2.frozen; have lO2 := hO2.lt; have mO2 := Nat.ne_of_gt lO2; have nO2 := Nat.ne_of_lt lO2) | (go_at_call 154; (with_reducible refine (hS.out _).mono ?_); rintro e v3 ⟨rfl, hB3⟩; have hZ3 := hB3.size; (try simp at hZ3); have hN3 : Blk v3 (w.heap.size) 39 #[.int .i64 a1, .int .i64 a2, .int .i64 b1, .int .i64 b2, .int .i64 c1, .int .i64 c2] := Blk.call (by (repeat (first | with_reducible assumption | (with_reducible apply Blk.new_at; (first | rfl | (simp; done))) | with_reducible apply Blk.store2 | with_reducible apply Blk.store3 | with_reducible apply Blk.store4 | (with_reducible apply Blk.farp; (first | omega | (simp <;> omega))) | with_reducible apply Blk.allocp | with_reducible apply Blk.drew | with_reducible apply Blk.drewN))) hB3; have cN3 := hN3.cell; have fN3 := hN3.frozen; have lN3 := hN3.lt; have mN3 := Nat.ne_of_gt lN3; have nN3 := Nat.ne_of_lt lN3; have hR3 : Blk v3 (w.heap.size + 1) 39 #[.int .i64 0, .int .i64 0, .int .i64 0, .int .i64 0, .int .i64 0, .int .i64 0] := Blk.call (by (repeat (first | with_reducible assumption | (with_reducible apply Blk.new_at; (first | rfl | (simp; done))) | with_reducible apply Blk.store2 | with_reducible apply Blk.store3 | with_reducible apply Blk.store4 | (with_reducible apply Blk.farp; (first | omega | (simp <;> omega))) | with_reducible apply Blk.allocp | with_reducible apply Blk.drew | with_reducible apply Blk.drewN))) hB3; have cR3 := hR3.cell; have fR3 := hR3.frozen; have lR3 := hR3.lt; have mR3 := Nat.ne_of_gt lR3; have nR3 := Nat.ne_of_lt lR3; have hP3 : Blk v3 (v1.heap.size + 1) 37 #[.int .i64 p1, .int .i64 p2] := Blk.call (by (repeat (first | with_reducible assumption | (with_reducible apply Blk.new_at; (first | rfl | (simp; done))) | with_reducible apply Blk.store2 | with_reducible apply Blk.store3 | with_reducible apply Blk.store4 | (with_reducible apply Blk.farp; (first | omega | (simp <;> omega))) | with_reducible apply Blk.allocp | with_reducible apply Blk.drew | with_reducible apply Blk.drewN))) hB3; have cP3 := hP3.cell; have fP3 := hP3.frozen; have lP3 := hP3.lt; have mP3 := Nat.ne_of_gt lP3; have nP3 := Nat.ne_of_lt lP3; have hQ3 : Blk v3 (v1.heap.size + 1 + 1) 37 #[.int .i64 q1, .int .i64 q2] := Blk.call (by (repeat (first | with_reducible assumption | (with_reducible apply Blk.new_at; (first | rfl | (simp; done))) | with_reducible apply Blk.store2 | with_reducible apply Blk.store3 | with_reducible apply Blk.store4 | (with_reducible apply Blk.farp; (first | omega | (simp <;> omega))) | with_reducible apply Blk.allocp | with_reducible apply Blk.drew | with_reducible apply Blk.drewN))) hB3; have cQ3 := hQ3.cell; have fQ3 := hQ3.frozen; have lQ3 := hQ3.lt; have mQ3 := Nat.ne_of_gt lQ3; have nQ3 := Nat.ne_of_lt lQ3; have hO3 : Blk v3 (v1.heap.size) 37 #[.int .i64 x1, .int .i64 x2] := Blk.call (by (repeat (first | with_reducible assumption | (with_reducible apply Blk.new_at; (first | rfl | (simp; done))) | with_reducible apply Blk.store2 | with_reducible apply Blk.store3 | with_reducible apply Blk.store4 | (with_reducible apply Blk.farp; (first | omega | (simp <;> omega))) | with_reducible apply Blk.allocp | with_reducible apply Blk.drew | with_reducible apply Blk.drewN))) hB3; have cO3 := hO3.cell; have fO3 := hO3.frozen; have lO3 := hO3.lt; have mO3 := Nat.ne_of_gt lO3; have nO3 := Nat.ne_of_lt lO3; have hX3 : Blk v3 (v2.heap.size) 37 #[.int .i64 x1, .int .i64 x2] := Blk.call (by (repeat (first | with_reducible assumption | (with_reducible apply Blk.new_at; (first | rfl | (simp; done))) | with_reducible apply Blk.store2 | with_reducible apply Blk.store3 | with_reducible apply Blk.store4 | (with_reducible apply Blk.farp; (first | omega | (simp <;> omega))) | with_reducible apply Blk.allocp | with_reducible apply Blk.drew | with_reducible apply Blk.drewN))) hB3; have cX3 := hX3.cell; have fX3 := hX3.frozen; have lX3 := hX3.lt; have mX3 := Nat.ne_of_gt lX3; have nX3 := Nat.ne_of_lt lX3) | (go_at_call 138; (with_reducible refine (hO.out _).mono ?_); rintro e v5 ⟨rfl, hB5⟩; have hZ5 := hB5.size; (try simp at hZ5); have hN5 : Blk v5 (w.heap.size) 39 #[.int .i64 a1, .int .i64 a2, .int .i64 b1, .int .i64 b2, .int .i64 c1, .int .i64 c2] := Blk.call (by (repeat (first | with_reducible assumption | (with_reducible apply Blk.new_at; (first | rfl | (simp; done))) | with_reducible apply Blk.store2 | with_reducible apply Blk.store3 | with_reducible apply Blk.store4 | (with_reducible apply Blk.farp; (first | omega | (simp <;> omega))) | with_reducible apply Blk.allocp | with_reducible apply Blk.drew | with_reducible apply Blk.drewN))) hB5; have cN5 := hN5.cell; have fN5 := hN5.frozen; have lN5 := hN5.lt; have mN5 := Nat.ne_of_gt lN5; have nN5 := Nat.ne_of_lt lN5; have hR5 : Blk v5 (w.heap.size + 1) 39 #[.int .i64 0, .int .i64 0, .int .i64 0, .int .i64 0, .int .i64 0, .int .i64 0] := Blk.call (by (repeat (first | with_reducible assumption | (with_reducible apply Blk.new_at; (first | rfl | (simp; done))) | with_reducible apply Blk.store2 | with_reducible apply Blk.store3 | with_reducible apply Blk.store4 | (with_reducible apply Blk.farp; (first | omega | (simp <;> omega))) | with_reducible apply Blk.allocp | with_reducible apply Blk.drew | with_reducible apply Blk.drewN))) hB5; have cR5 := hR5.cell; have fR5 := hR5.frozen; have lR5 := hR5.lt; have mR5 := Nat.ne_of_gt lR5; have nR5 := Nat.ne_of_lt lR5))
    exact bodyPost_ret (v := .agg #[.int .i64 s1, .int .i64 s2, .int .i64 t1, .int .i64 t2, .int .i64 u1, .int .i64 u2]) (by simp [results, Try.results73, go_sem, *]) rfl ⟨rfl, (by repeat (first | with_reducible exact Below.refl _ _ | with_reducible assumption | with_reducible apply Below.drew | with_reducible apply below_drewN | (with_reducible apply below_setp; (first | omega | (simp <;> omega))) | (with_reducible apply below_allocp; (first | omega | (simp <;> omega))) | (with_reducible refine below_viap (by assumption) ?_ ?_; (first | omega | (simp <;> omega)))))⟩
  · clear h hx bp1 bp2 bp3 bp4 bq1 bq2 bq3 bq4
    go_enter Try.func73, Try.ntmps73
    go_wp2_with (first | (go_at_call 153; (with_reducible refine (hW.out _).mono ?_); rintro e v1 ⟨rfl, hB1⟩; have hZ1 := hB1.size; (try simp at hZ1); have hN1 : Blk v1 (w.heap.size) 39 #[.int .i64 a1, .int .i64 a2, .int .i64 b1, .int .i64 b2, .int .i64 c1, .int .i64 c2] := Blk.call (by (repeat (first | with_reducible assumption | (with_reducible apply Blk.new_at; (first | rfl | (simp; done))) | with_reducible apply Blk.store2 | with_reducible apply Blk.store3 | with_reducible apply Blk.store4 | (with_reducible apply Blk.farp; (first | omega | (simp <;> omega))) | with_reducible apply Blk.allocp | with_reducible apply Blk.drew | with_reducible apply Blk.drewN))) hB1; have cN1 := hN1.cell; have fN1 := hN1.frozen; have lN1 := hN1.lt; have mN1 := Nat.ne_of_gt lN1; have nN1 := Nat.ne_of_lt lN1; have hR1 : Blk v1 (w.heap.size + 1) 39 #[.int .i64 0, .int .i64 0, .int .i64 0, .int .i64 0, .int .i64 0, .int .i64 0] := Blk.call (by (repeat (first | with_reducible assumption | (with_reducible apply Blk.new_at; (first | rfl | (simp; done))) | with_reducible apply Blk.store2 | with_reducible apply Blk.store3 | with_reducible apply Blk.store4 | (with_reducible apply Blk.farp; (first | omega | (simp <;> omega))) | with_reducible apply Blk.allocp | with_reducible apply Blk.drew | with_reducible apply Blk.drewN))) hB1; have cR1 := hR1.cell; have fR1 := hR1.frozen; have lR1 := hR1.lt; have mR1 := Nat.ne_of_gt lR1; have nR1 := Nat.ne_of_lt lR1) | (go_at_call 154; (with_reducible refine (hR.out _).mono ?_); rintro e v2 ⟨rfl, hB2⟩; have hZ2 := hB2.size; (try simp at hZ2); have hN2 : Blk v2 (w.heap.size) 39 #[.int .i64 a1, .int .i64 a2, .int .i64 b1, .int .i64 b2, .int .i64 c1, .int .i64 c2] := Blk.call (by (repeat (first | with_reducible assumption | (with_reducible apply Blk.new_at; (first | rfl | (simp; done))) | with_reducible apply Blk.store2 | with_reducible apply Blk.store3 | with_reducible apply Blk.store4 | (with_reducible apply Blk.farp; (first | omega | (simp <;> omega))) | with_reducible apply Blk.allocp | with_reducible apply Blk.drew | with_reducible apply Blk.drewN))) hB2; have cN2 := hN2.cell; have fN2 := hN2.frozen; have lN2 := hN2.lt; have mN2 := Nat.ne_of_gt lN2; have nN2 := Nat.ne_of_lt lN2; have hR2 : Blk v2 (w.heap.size + 1) 39 #[.int .i64 0, .int .i64 0, .int .i64 0, .int .i64 0, .int .i64 0, .int .i64 0] := Blk.call (by (repeat (first | with_reducible assumption | (with_reducible apply Blk.new_at; (first | rfl | (simp; done))) | with_reducible apply Blk.store2 | with_reducible apply Blk.store3 | with_reducible apply Blk.store4 | (with_reducible apply Blk.farp; (first | omega | (simp <;> omega))) | with_reducible apply Blk.allocp | with_reducible apply Blk.drew | with_reducible apply Blk.drewN))) hB2; have cR2 := hR2.cell; have fR2 := hR2.frozen; have lR2 := hR2.lt; have mR2 := Nat.ne_of_gt lR2; have nR2 := Nat.ne_of_lt lR2; have hP2 : Blk v2 (v1.heap.size + 1) 37 #[.int .i64 p1, .int .i64 p2] := Blk.call (by (repeat (first | with_reducible assumption | (with_reducible apply Blk.new_at; (first | rfl | (simp; done))) | with_reducible apply Blk.store2 | with_reducible apply Blk.store3 | with_reducible apply Blk.store4 | (with_reducible apply Blk.farp; (first | omega | (simp <;> omega))) | with_reducible apply Blk.allocp | with_reducible apply Blk.drew | with_reducible apply Blk.drewN))) hB2; have cP2 := hP2.cell; have fP2 := hP2.frozen; have lP2 := hP2.lt; have mP2 := Nat.ne_of_gt lP2; have nP2 := Nat.ne_of_lt lP2; have hQ2 : Blk v2 (v1.heap.size + 1 + 1) 37 #[.int .i64 q1, .int .i64 q2] := Blk.call (by (repeat (first | with_reducible assumption | (with_reducible apply Blk.new_at; (first | rfl | (simp; done))) | with_reducible apply Blk.store2 | with_reducible apply Blk.store3 | with_reducible apply Blk.store4 | (with_reducible apply Blk.farp; (first | omega | (simp <;> omega))) | with_reducible apply Blk.allocp | with_reducible apply Blk.drew | with_reducible apply Blk.drewN))) hB2; have cQ2 := hQ2.cell; have fQ2 := hQ2.frozen; have lQ2 := hQ2.lt; have mQ2 := Nat.ne_of_gt lQ2; have nQ2 := Nat.ne_of_lt lQ2; have hO2 : Blk v2 (v1.heap.size) 37 #[.int .i64 o1, .int .i64 o2] := Blk.call (by (repeat (first | with_reducible assumption | (with_reducible apply Blk.new_at; (first | rfl | (simp; done))) | with_reducible apply Blk.store2 | with_reducible apply Blk.store3 | with_reducible apply Blk.store4 | (with_reducible apply Blk.farp; (first | omega | (simp <;> omega))) | with_reducible apply Blk.allocp | with_reducible apply Blk.drew | with_reducible apply Blk.drewN))) hB2; have cO2 := hO2.cell; have fO2 := hO2.frozen; have lO2 := hO2.lt; have mO2 := Nat.ne_of_gt lO2; have nO2 := Nat.ne_of_lt lO2) | (go_at_call 138; (with_reducible refine (hO.out _).mono ?_); rintro e v5 ⟨rfl, hB5⟩; have hZ5 := hB5.size; (try simp at hZ5); have hN5 : Blk v5 (w.heap.size) 39 #[.int .i64 a1, .int .i64 a2, .int .i64 b1, .int .i64 b2, .int .i64 c1, .int .i64 c2] := Blk.call (by (repeat (first | with_reducible assumption | (with_reducible apply Blk.new_at; (first | rfl | (simp; done))) | with_reducible apply Blk.store2 | with_reducible apply Blk.store3 | with_reducible apply Blk.store4 | (with_reducible apply Blk.farp; (first | omega | (simp <;> omega))) | with_reducible apply Blk.allocp | with_reducible apply Blk.drew | with_reducible apply Blk.drewN))) hB5; have cN5 := hN5.cell; have fN5 := hN5.frozen; have lN5 := hN5.lt; have mN5 := Nat.ne_of_gt lN5; have nN5 := Nat.ne_of_lt lN5; have hR5 : Blk v5 (w.heap.size + 1) 39 #[.int .i64 0, .int .i64 0, .int .i64 0, .int .i64 0, .int .i64 0, .int .i64 0] := Blk.call (by (repeat (first | with_reducible assumption | (with_reducible apply Blk.new_at; (first | rfl | (simp; done))) | with_reducible apply Blk.store2 | with_reducible apply Blk.store3 | with_reducible apply Blk.store4 | (with_reducible apply Blk.farp; (first | omega | (simp <;> omega))) | with_reducible apply Blk.allocp | with_reducible apply Blk.drew | with_reducible apply Blk.drewN))) hB5; have cR5 := hR5.cell; have fR5 := hR5.frozen; have lR5 := hR5.lt; have mR5 := Nat.ne_of_gt lR5; have nR5 := Nat.ne_of_lt lR5))
    exact bodyPost_ret (v := .agg #[.int .i64 s1, .int .i64 s2, .int .i64 t1, .int .i64 t2, .int .i64 u1, .int .i64 u2]) (by simp [results, Try.results73, go_sem, *]) rfl ⟨rfl, (by repeat (first | with_reducible exact Below.refl _ _ | with_reducible assumption | with_reducible apply Below.drew | with_reducible apply below_drewN | (with_reducible apply below_setp; (first | omega | (simp <;> omega))) | (with_reducible apply below_allocp; (first | omega | (simp <;> omega))) | (with_reducible refine below_viap (by assumption) ?_ ?_; (first | omega | (simp <;> omega)))))⟩
  · clear h hx bp1 bp2 bp3 bp4 bq1 bq2 bq3 bq4
    go_enter Try.func73, Try.ntmps73
    go_wp2_with (first | (go_at_call 153; (with_reducible refine (hW.out _).mono ?_); rintro e v1 ⟨rfl, hB1⟩; have hZ1 := hB1.size; (try simp at hZ1); have hN1 : Blk v1 (w.heap.size) 39 #[.int .i64 a1, .int .i64 a2, .int .i64 b1, .int .i64 b2, .int .i64 c1, .int .i64 c2] := Blk.call (by (repeat (first | with_reducible assumption | (with_reducible apply Blk.new_at; (first | rfl | (simp; done))) | with_reducible apply Blk.store2 | with_reducible apply Blk.store3 | with_reducible apply Blk.store4 | (with_reducible apply Blk.farp; (first | omega | (simp <;> omega))) | with_reducible apply Blk.allocp | with_reducible apply Blk.drew | with_reducible apply Blk.drewN))) hB1; have cN1 := hN1.cell; have fN1 := hN1.frozen; have lN1 := hN1.lt; have mN1 := Nat.ne_of_gt lN1; have nN1 := Nat.ne_of_lt lN1; have hR1 : Blk v1 (w.heap.size + 1) 39 #[.int .i64 0, .int .i64 0, .int .i64 0, .int .i64 0, .int .i64 0, .int .i64 0] := Blk.call (by (repeat (first | with_reducible assumption | (with_reducible apply Blk.new_at; (first | rfl | (simp; done))) | with_reducible apply Blk.store2 | with_reducible apply Blk.store3 | with_reducible apply Blk.store4 | (with_reducible apply Blk.farp; (first | omega | (simp <;> omega))) | with_reducible apply Blk.allocp | with_reducible apply Blk.drew | with_reducible apply Blk.drewN))) hB1; have cR1 := hR1.cell; have fR1 := hR1.frozen; have lR1 := hR1.lt; have mR1 := Nat.ne_of_gt lR1; have nR1 := Nat.ne_of_lt lR1) | (go_at_call 154; (with_reducible refine (hR.out _).mono ?_); rintro e v2 ⟨rfl, hB2⟩; have hZ2 := hB2.size; (try simp at hZ2); have hN2 : Blk v2 (w.heap.size) 39 #[.int .i64 a1, .int .i64 a2, .int .i64 b1, .int .i64 b2, .int .i64 c1, .int .i64 c2] := Blk.call (by (repeat (first | with_reducible assumption | (with_reducible apply Blk.new_at; (first | rfl | (simp; done))) | with_reducible apply Blk.store2 | with_reducible apply Blk.store3 | with_reducible apply Blk.store4 | (with_reducible apply Blk.farp; (first | omega | (simp <;> omega))) | with_reducible apply Blk.allocp | with_reducible apply Blk.drew | with_reducible apply Blk.drewN))) hB2; have cN2 := hN2.cell; have fN2 := hN2.frozen; have lN2 := hN2.lt; have mN2 := Nat.ne_of_gt lN2; have nN2 := Nat.ne_of_lt lN2; have hR2 : Blk v2 (w.heap.size + 1) 39 #[.int .i64 0, .int .i64 0, .int .i64 0, .int .i64 0, .int .i64 0, .int .i64 0] := Blk.call (by (repeat (first | with_reducible assumption | (with_reducible apply Blk.new_at; (first | rfl | (simp; done))) | with_reducible apply Blk.store2 | with_reducible apply Blk.store3 | with_reducible apply Blk.store4 | (with_reducible apply Blk.farp; (first | omega | (simp <;> omega))) | with_reducible apply Blk.allocp | with_reducible apply Blk.drew | with_reducible apply Blk.drewN))) hB2; have cR2 := hR2.cell; have fR2 := hR2.frozen; have lR2 := hR2.lt; have mR2 := Nat.ne_of_gt lR2; have nR2 := Nat.ne_of_lt lR2; have hP2 : Blk v2 (v1.heap.size + 1) 37 #[.int .i64 p1, .int .i64 p2] := Blk.call (by (repeat (first | with_reducible assumption | (with_reducible apply Blk.new_at; (first | rfl | (simp; done))) | with_reducible apply Blk.store2 | with_reducible apply Blk.store3 | with_reducible apply Blk.store4 | (with_reducible apply Blk.farp; (first | omega | (simp <;> omega))) | with_reducible apply Blk.allocp | with_reducible apply Blk.drew | with_reducible apply Blk.drewN))) hB2; have cP2 := hP2.cell; have fP2 := hP2.frozen; have lP2 := hP2.lt; have mP2 := Nat.ne_of_gt lP2; have nP2 := Nat.ne_of_lt lP2; have hQ2 : Blk v2 (v1.heap.size + 1 + 1) 37 #[.int .i64 q1, .int .i64 q2] := Blk.call (by (repeat (first | with_reducible assumption | (with_reducible apply Blk.new_at; (first | rfl | (simp; done))) | with_reducible apply Blk.store2 | with_reducible apply Blk.store3 | with_reducible apply Blk.store4 | (with_reducible apply Blk.farp; (first | omega | (simp <;> omega))) | with_reducible apply Blk.allocp | with_reducible apply Blk.drew | with_reducible apply Blk.drewN))) hB2; have cQ2 := hQ2.cell; have fQ2 := hQ2.frozen; have lQ2 := hQ2.lt; have mQ2 := Nat.ne_of_gt lQ2; have nQ2 := Nat.ne_of_lt lQ2; have hO2 : Blk v2 (v1.heap.size) 37 #[.int .i64 x1, .int .i64 o2] := Blk.call (by (repeat (first | with_reducible assumption | (with_reducible apply Blk.new_at; (first | rfl | (simp; done))) | with_reducible apply Blk.store2 | with_reducible apply Blk.store3 | with_reducible apply Blk.store4 | (with_reducible apply Blk.farp; (first | omega | (simp <;> omega))) | with_reducible apply Blk.allocp | with_reducible apply Blk.drew | with_reducible apply Blk.drewN))) hB2; have cO2 := hO2.cell; have fO2 := hO2.frozen; have lO2 := hO2.lt; have mO2 := Nat.ne_of_gt lO2; have nO2 := Nat.ne_of_lt lO2) | (go_at_call 138; (with_reducible refine (hO.out _).mono ?_); rintro e v5 ⟨rfl, hB5⟩; have hZ5 := hB5.size; (try simp at hZ5); have hN5 : Blk v5 (w.heap.size) 39 #[.int .i64 a1, .int .i64 a2, .int .i64 b1, .int .i64 b2, .int .i64 c1, .int .i64 c2] := Blk.call (by (repeat (first | with_reducible assumption | (with_reducible apply Blk.new_at; (first | rfl | (simp; done))) | with_reducible apply Blk.store2 | with_reducible apply Blk.store3 | with_reducible apply Blk.store4 | (with_reducible apply Blk.farp; (first | omega | (simp <;> omega))) | with_reducible apply Blk.allocp | with_reducible apply Blk.drew | with_reducible apply Blk.drewN))) hB5; have cN5 := hN5.cell; have fN5 := hN5.frozen; have lN5 := hN5.lt; have mN5 := Nat.ne_of_gt lN5; have nN5 := Nat.ne_of_lt lN5; have hR5 : Blk v5 (w.heap.size + 1) 39 #[.int .i64 0, .int .i64 0, .int .i64 0, .int .i64 0, .int .i64 0, .int .i64 0] := Blk.call (by (repeat (first | with_reducible assumption | (with_reducible apply Blk.new_at; (first | rfl | (simp; done))) | with_reducible apply Blk.store2 | with_reducible apply Blk.store3 | with_reducible apply Blk.store4 | (with_reducible apply Blk.farp; (first | omega | (simp <;> omega))) | with_reducible apply Blk.allocp | with_reducible apply Blk.drew | with_reducible apply Blk.drewN))) hB5; have cR5 := hR5.cell; have fR5 := hR5.frozen; have lR5 := hR5.lt; have mR5 := Nat.ne_of_gt lR5; have nR5 := Nat.ne_of_lt lR5))
    exact bodyPost_ret (v := .agg #[.int .i64 s1, .int .i64 s2, .int .i64 t1, .int .i64 t2, .int .i64 u1, .int .i64 u2]) (by simp [results, Try.results73, go_sem, *]) rfl ⟨rfl, (by repeat (first | with_reducible exact Below.refl _ _ | with_reducible assumption | with_reducible apply Below.drew | with_reducible apply below_drewN | (with_reducible apply below_setp; (first | omega | (simp <;> omega))) | (with_reducible apply below_allocp; (first | omega | (simp <;> omega))) | (with_reducible refine below_viap (by assumption) ?_ ?_; (first | omega | (simp <;> omega)))))⟩
set_option maxRecDepth 100000 in
set_option maxHeartbeats 12800000 in
theorem tpFall_any (a b c a1 a2 b1 b2 c1 c2 : Int) (w : World) (ha : -1000000 ≤ a ∧ a ≤ 1000000) (hb : -1000000 ≤ b ∧ b ≤ 1000000) (hc : -1000000 ≤ c ∧ c ≤ 1000000) (h1 : bd6 a1 a2) (h2 : bd6 b1 b2) (h3 : bd6 c1 c2) :
    Calls Try.prog 72 #[.agg #[.int .i64 a, .int .i64 b, .int .i64 c], .agg #[.int .i64 a1, .int .i64 a2, .int .i64 b1, .int .i64 b2, .int .i64 c1, .int .i64 c2]] w fun e w' => e = .returned (.int .i64 (stpI (vF a b c (a1, a2)) (vF a b c (b1, b2)) (vF a b c (c1, c2)))) ∧ Below w.heap.size w w' := by
  obtain ⟨o1, ⟨q1, q1'⟩⟩ := at_huge ha hb hc h1.1 h1.2
  obtain ⟨o2, ⟨q2, q2'⟩⟩ := at_huge ha hb hc h2.1 h2.2
  obtain ⟨o3, ⟨q3, q3'⟩⟩ := at_huge ha hb hc h3.1 h3.2
  have k1 := Lib.hid (fun w => foValue_any a b c a1 a2 w o1)
  have k2 := Lib.hid (fun w => foValue_any a b c b1 b2 w o2)
  have k3 := Lib.hid (fun w => foValue_any a b c c1 c2 w o3)
  have hS1 := Lib.hid (fun w => (show Calls Try.prog 153 #[.agg #[.int .i64 a1, .int .i64 a2, .int .i64 b1, .int .i64 b2, .int .i64 c1, .int .i64 c2], .int .i64 1] w (fun e w' => e = .returned (.tuple #[.agg #[.int .i64 a1, .int .i64 a2], .agg #[.int .i64 b1, .int .i64 b2], .agg #[.int .i64 c1, .int .i64 c2]]) ∧ Below w.heap.size w w') from tpSplit_any 1 a1 a2 b1 b2 c1 c2 b1 b2 c1 c2 a1 a2 w (.inl rfl) rfl rfl rfl))
  have hS2 := Lib.hid (fun w => (show Calls Try.prog 153 #[.agg #[.int .i64 a1, .int .i64 a2, .int .i64 b1, .int .i64 b2, .int .i64 c1, .int .i64 c2], .int .i64 2] w (fun e w' => e = .returned (.tuple #[.agg #[.int .i64 b1, .int .i64 b2], .agg #[.int .i64 a1, .int .i64 a2], .agg #[.int .i64 c1, .int .i64 c2]]) ∧ Below w.heap.size w w') from tpSplit_any 2 a1 a2 b1 b2 c1 c2 a1 a2 c1 c2 b1 b2 w (.inr (.inl rfl)) rfl rfl rfl))
  have hS3 := Lib.hid (fun w => (show Calls Try.prog 153 #[.agg #[.int .i64 a1, .int .i64 a2, .int .i64 b1, .int .i64 b2, .int .i64 c1, .int .i64 c2], .int .i64 3] w (fun e w' => e = .returned (.tuple #[.agg #[.int .i64 c1, .int .i64 c2], .agg #[.int .i64 a1, .int .i64 a2], .agg #[.int .i64 b1, .int .i64 b2]]) ∧ Below w.heap.size w w') from tpSplit_any 3 a1 a2 b1 b2 c1 c2 a1 a2 b1 b2 c1 c2 w (.inr (.inr rfl)) rfl rfl rfl))
  unfold vF at *
  dsimp only at *
  generalize atF a b c a1 a2 = x at *
  generalize atF a b c b1 b2 = y at *
  generalize atF a b c c1 c2 = z at *
  have w1 : IntKind.i64.wrap (y + z) = y + z := IntWalk.i64_in _ (by omega)
  have w2 : IntKind.i64.wrap (x + z) = x + z := IntWalk.i64_in _ (by omega)
  have w3 : IntKind.i64.wrap (x + y) = x + y := IntWalk.i64_in _ (by omega)
  obtain ⟨R, hR⟩ : ∃ R, stpI x y z = R := ⟨_, rfl⟩
  rw [hR]
  unfold stpI at hR
  clear o1 o2 o3 q1 q1' q2 q2' q3 q3' ha hb hc h1 h2 h3
  by_cases e1 : y + z < x
  · rw [if_pos (by omega)] at hR; subst hR
    go_enter Try.func72, Try.ntmps72
    go_wp2
    refine wp_loop_rounds 4 ?_
    rw [rounds_succ]
    go_wp2_with (go_at_call 153; (with_reducible refine (hS1.out _).mono ?_); rintro e v1 ⟨rfl, hB1⟩; have hZ1 := hB1.size; (try simp at hZ1); have hF1 : Blk v1 (w.heap.size) 35 #[.int .i64 a, .int .i64 b, .int .i64 c] := Blk.call (by (repeat (first | with_reducible assumption | (with_reducible apply Blk.new_at; (first | rfl | (simp; done))) | with_reducible apply Blk.store2 | with_reducible apply Blk.store3 | with_reducible apply Blk.store4 | (with_reducible apply Blk.farp; (first | omega | (simp <;> omega))) | with_reducible apply Blk.allocp | with_reducible apply Blk.drew | with_reducible apply Blk.drewN))) hB1; have cF1 := hF1.cell; have fF1 := hF1.frozen; have lF1 := hF1.lt; have mF1 := Nat.ne_of_gt lF1; have nF1 := Nat.ne_of_lt lF1; have hM1 : Blk v1 (w.heap.size + 1) 39 #[.int .i64 a1, .int .i64 a2, .int .i64 b1, .int .i64 b2, .int .i64 c1, .int .i64 c2] := Blk.call (by (repeat (first | with_reducible assumption | (with_reducible apply Blk.new_at; (first | rfl | (simp; done))) | with_reducible apply Blk.store2 | with_reducible apply Blk.store3 | with_reducible apply Blk.store4 | (with_reducible apply Blk.farp; (first | omega | (simp <;> omega))) | with_reducible apply Blk.allocp | with_reducible apply Blk.drew | with_reducible apply Blk.drewN))) hB1; have cM1 := hM1.cell; have fM1 := hM1.frozen; have lM1 := hM1.lt; have mM1 := Nat.ne_of_gt lM1; have nM1 := Nat.ne_of_lt lM1)
    have hlF1 : w.heap.size < v1.heap.size + 3 := by omega
    have hlM1 : w.heap.size + 1 < v1.heap.size + 3 := by omega
    have hnFa1 : ¬ w.heap.size = v1.heap.size + 1 := by omega
    have hkFa1 : w.heap.size < v1.heap.size + 1 := by omega
    have hnFb1 : ¬ w.heap.size = v1.heap.size + 1 + 1 := by omega
    have hkFb1 : w.heap.size < v1.heap.size + 1 + 1 := by omega
    have hnFc1 : ¬ w.heap.size = v1.heap.size + 1 + 1 + 1 := by omega
    have hkFc1 : w.heap.size < v1.heap.size + 1 + 1 + 1 := by omega
    have hnMa1 : ¬ w.heap.size + 1 = v1.heap.size + 1 := by omega
    have hkMa1 : w.heap.size + 1 < v1.heap.size + 1 := by omega
    have hnMb1 : ¬ w.heap.size + 1 = v1.heap.size + 1 + 1 := by omega
    have hkMb1 : w.heap.size + 1 < v1.heap.size + 1 + 1 := by omega
    have hnMc1 : ¬ w.heap.size + 1 = v1.heap.size + 1 + 1 + 1 := by omega
    have hkMc1 : w.heap.size + 1 < v1.heap.size + 1 + 1 + 1 := by omega
    refine wp_region_calm 20 (Below (v1.heap.size + 3) _) (by kernel_rfl) (by kernel_rfl) ((Below.refl _ _).drew) ?_
    simp only [List.take_succ_cons, List.take_zero, List.drop_succ_cons, List.drop_zero]
    repeat (first | (apply wpCalm_go; go_simp; (intro w' hw' hcc hff; go_simp; first | exact rfl | ((with_reducible refine (k1.out _).mono ?_); rintro e w1 ⟨rfl, hb⟩; exact ⟨rfl, calm_call (by simp <;> omega) hw' hb⟩) | ((with_reducible refine (k2.out _).mono ?_); rintro e w1 ⟨rfl, hb⟩; exact ⟨rfl, calm_call (by simp <;> omega) hw' hb⟩) | ((with_reducible refine (k3.out _).mono ?_); rintro e w1 ⟨rfl, hb⟩; exact ⟨rfl, calm_call (by simp <;> omega) hw' hb⟩)); (intro K hK; go_simp; refine hK _ ?_; clear hK K)) | (apply wpCalm_skip; go_simp; (try (focus (simp [undef]; done))); (intro K hK; go_simp; refine hK _ ?_; clear hK K)))
    refine wpCalm_nil ?_
    intro w1 hw1
    have hcc := (calm_cells hw1).1
    have hff := (calm_cells hw1).2
    have hss := calm_size hw1
    have hsz := hw1.size
    (try simp at hsz)
    obtain ⟨x1, hx1⟩ : ∃ x, w1 = x := ⟨_, rfl⟩
    have hF1' : Blk w1 w.heap.size 35 #[.int .i64 a, .int .i64 b, .int .i64 c] := Blk.below (by (repeat (first | with_reducible assumption | (with_reducible apply Blk.new_at; (first | rfl | (simp; done))) | with_reducible apply Blk.store3 | with_reducible apply Blk.store4 | (with_reducible apply Blk.farp; (first | omega | (simp <;> omega))) | with_reducible apply Blk.allocp | with_reducible apply Blk.drew | with_reducible apply Blk.drewN))) hw1 (by omega)
    have hM1' : Blk w1 (w.heap.size + 1) 39 #[.int .i64 a1, .int .i64 a2, .int .i64 b1, .int .i64 b2, .int .i64 c1, .int .i64 c2] := Blk.below (by (repeat (first | with_reducible assumption | (with_reducible apply Blk.new_at; (first | rfl | (simp; done))) | with_reducible apply Blk.store3 | with_reducible apply Blk.store4 | (with_reducible apply Blk.farp; (first | omega | (simp <;> omega))) | with_reducible apply Blk.allocp | with_reducible apply Blk.drew | with_reducible apply Blk.drewN))) hw1 (by omega)
    have hb1 : Below w.heap.size w w1 := below_via (show Below w.heap.size w _ from (by repeat (first | with_reducible exact Below.refl _ _ | with_reducible assumption | with_reducible apply Below.drew | with_reducible apply below_drewN | (with_reducible apply below_setp; (first | omega | (simp <;> omega))) | (with_reducible apply below_allocp; (first | omega | (simp <;> omega))) | (with_reducible refine below_viap (by assumption) ?_ ?_; (first | omega | (simp <;> omega)))))) hw1 (by omega)
    rw [hx1] at hF1' hM1' hb1 ⊢
    have cF1' := hF1'.cell; have cM1' := hM1'.cell; have lF1' := hF1'.lt; have lM1' := hM1'.lt
    have nF1' := Nat.ne_of_lt lF1'; have nM1' := Nat.ne_of_lt lM1'; have mF1' := Nat.ne_of_gt lF1'; have mM1' := Nat.ne_of_gt lM1'
    clear hcc hff hw1 hsz hss hx1 hF1 hM1 cF1 cM1 fF1 fM1 lF1 lM1 mF1 mM1 nF1 nM1
    go_wp2
    go_ret
    exact ⟨rfl, hb1⟩
  · rw [if_neg (by omega)] at hR
    by_cases e2 : x + z < y
    · rw [if_pos (by omega)] at hR; subst hR
      go_enter Try.func72, Try.ntmps72
      go_wp2
      refine wp_loop_rounds 4 ?_
      rw [rounds_succ]
      go_wp2_with (go_at_call 153; (with_reducible refine (hS1.out _).mono ?_); rintro e v1 ⟨rfl, hB1⟩; have hZ1 := hB1.size; (try simp at hZ1); have hF1 : Blk v1 (w.heap.size) 35 #[.int .i64 a, .int .i64 b, .int .i64 c] := Blk.call (by (repeat (first | with_reducible assumption | (with_reducible apply Blk.new_at; (first | rfl | (simp; done))) | with_reducible apply Blk.store2 | with_reducible apply Blk.store3 | with_reducible apply Blk.store4 | (with_reducible apply Blk.farp; (first | omega | (simp <;> omega))) | with_reducible apply Blk.allocp | with_reducible apply Blk.drew | with_reducible apply Blk.drewN))) hB1; have cF1 := hF1.cell; have fF1 := hF1.frozen; have lF1 := hF1.lt; have mF1 := Nat.ne_of_gt lF1; have nF1 := Nat.ne_of_lt lF1; have hM1 : Blk v1 (w.heap.size + 1) 39 #[.int .i64 a1, .int .i64 a2, .int .i64 b1, .int .i64 b2, .int .i64 c1, .int .i64 c2] := Blk.call (by (repeat (first | with_reducible assumption | (with_reducible apply Blk.new_at; (first | rfl | (simp; done))) | with_reducible apply Blk.store2 | with_reducible apply Blk.store3 | with_reducible apply Blk.store4 | (with_reducible apply Blk.farp; (first | omega | (simp <;> omega))) | with_reducible apply Blk.allocp | with_reducible apply Blk.drew | with_reducible apply Blk.drewN))) hB1; have cM1 := hM1.cell; have fM1 := hM1.frozen; have lM1 := hM1.lt; have mM1 := Nat.ne_of_gt lM1; have nM1 := Nat.ne_of_lt lM1)
      have hlF1 : w.heap.size < v1.heap.size + 3 := by omega
      have hlM1 : w.heap.size + 1 < v1.heap.size + 3 := by omega
      have hnFa1 : ¬ w.heap.size = v1.heap.size + 1 := by omega
      have hkFa1 : w.heap.size < v1.heap.size + 1 := by omega
      have hnFb1 : ¬ w.heap.size = v1.heap.size + 1 + 1 := by omega
      have hkFb1 : w.heap.size < v1.heap.size + 1 + 1 := by omega
      have hnFc1 : ¬ w.heap.size = v1.heap.size + 1 + 1 + 1 := by omega
      have hkFc1 : w.heap.size < v1.heap.size + 1 + 1 + 1 := by omega
      have hnMa1 : ¬ w.heap.size + 1 = v1.heap.size + 1 := by omega
      have hkMa1 : w.heap.size + 1 < v1.heap.size + 1 := by omega
      have hnMb1 : ¬ w.heap.size + 1 = v1.heap.size + 1 + 1 := by omega
      have hkMb1 : w.heap.size + 1 < v1.heap.size + 1 + 1 := by omega
      have hnMc1 : ¬ w.heap.size + 1 = v1.heap.size + 1 + 1 + 1 := by omega
      have hkMc1 : w.heap.size + 1 < v1.heap.size + 1 + 1 + 1 := by omega
      refine wp_region_calm 20 (Below (v1.heap.size + 3) _) (by kernel_rfl) (by kernel_rfl) ((Below.refl _ _).drew) ?_
      simp only [List.take_succ_cons, List.take_zero, List.drop_succ_cons, List.drop_zero]
      repeat (first | (apply wpCalm_go; go_simp; (intro w' hw' hcc hff; go_simp; first | exact rfl | ((with_reducible refine (k1.out _).mono ?_); rintro e w1 ⟨rfl, hb⟩; exact ⟨rfl, calm_call (by simp <;> omega) hw' hb⟩) | ((with_reducible refine (k2.out _).mono ?_); rintro e w1 ⟨rfl, hb⟩; exact ⟨rfl, calm_call (by simp <;> omega) hw' hb⟩) | ((with_reducible refine (k3.out _).mono ?_); rintro e w1 ⟨rfl, hb⟩; exact ⟨rfl, calm_call (by simp <;> omega) hw' hb⟩)); (intro K hK; go_simp; refine hK _ ?_; clear hK K)) | (apply wpCalm_skip; go_simp; (try (focus (simp [undef]; done))); (intro K hK; go_simp; refine hK _ ?_; clear hK K)))
      refine wpCalm_nil ?_
      intro w1 hw1
      have hcc := (calm_cells hw1).1
      have hff := (calm_cells hw1).2
      have hss := calm_size hw1
      have hsz := hw1.size
      (try simp at hsz)
      obtain ⟨x1, hx1⟩ : ∃ x, w1 = x := ⟨_, rfl⟩
      have hF1' : Blk w1 w.heap.size 35 #[.int .i64 a, .int .i64 b, .int .i64 c] := Blk.below (by (repeat (first | with_reducible assumption | (with_reducible apply Blk.new_at; (first | rfl | (simp; done))) | with_reducible apply Blk.store3 | with_reducible apply Blk.store4 | (with_reducible apply Blk.farp; (first | omega | (simp <;> omega))) | with_reducible apply Blk.allocp | with_reducible apply Blk.drew | with_reducible apply Blk.drewN))) hw1 (by omega)
      have hM1' : Blk w1 (w.heap.size + 1) 39 #[.int .i64 a1, .int .i64 a2, .int .i64 b1, .int .i64 b2, .int .i64 c1, .int .i64 c2] := Blk.below (by (repeat (first | with_reducible assumption | (with_reducible apply Blk.new_at; (first | rfl | (simp; done))) | with_reducible apply Blk.store3 | with_reducible apply Blk.store4 | (with_reducible apply Blk.farp; (first | omega | (simp <;> omega))) | with_reducible apply Blk.allocp | with_reducible apply Blk.drew | with_reducible apply Blk.drewN))) hw1 (by omega)
      have hb1 : Below w.heap.size w w1 := below_via (show Below w.heap.size w _ from (by repeat (first | with_reducible exact Below.refl _ _ | with_reducible assumption | with_reducible apply Below.drew | with_reducible apply below_drewN | (with_reducible apply below_setp; (first | omega | (simp <;> omega))) | (with_reducible apply below_allocp; (first | omega | (simp <;> omega))) | (with_reducible refine below_viap (by assumption) ?_ ?_; (first | omega | (simp <;> omega)))))) hw1 (by omega)
      rw [hx1] at hF1' hM1' hb1 ⊢
      have cF1' := hF1'.cell; have cM1' := hM1'.cell; have lF1' := hF1'.lt; have lM1' := hM1'.lt
      have nF1' := Nat.ne_of_lt lF1'; have nM1' := Nat.ne_of_lt lM1'; have mF1' := Nat.ne_of_gt lF1'; have mM1' := Nat.ne_of_gt lM1'
      clear hcc hff hw1 hsz hss hx1 hF1 hM1 cF1 cM1 fF1 fM1 lF1 lM1 mF1 mM1 nF1 nM1
      go_wp2
      rw [rounds_succ]
      go_wp2_with (go_at_call 153; (with_reducible refine (hS2.out _).mono ?_); rintro e v2 ⟨rfl, hB2⟩; have hZ2 := hB2.size; (try simp at hZ2); have hF2 : Blk v2 (w.heap.size) 35 #[.int .i64 a, .int .i64 b, .int .i64 c] := Blk.call (by (repeat (first | with_reducible assumption | (with_reducible apply Blk.new_at; (first | rfl | (simp; done))) | with_reducible apply Blk.store2 | with_reducible apply Blk.store3 | with_reducible apply Blk.store4 | (with_reducible apply Blk.farp; (first | omega | (simp <;> omega))) | with_reducible apply Blk.allocp | with_reducible apply Blk.drew | with_reducible apply Blk.drewN))) hB2; have cF2 := hF2.cell; have fF2 := hF2.frozen; have lF2 := hF2.lt; have mF2 := Nat.ne_of_gt lF2; have nF2 := Nat.ne_of_lt lF2; have hM2 : Blk v2 (w.heap.size + 1) 39 #[.int .i64 a1, .int .i64 a2, .int .i64 b1, .int .i64 b2, .int .i64 c1, .int .i64 c2] := Blk.call (by (repeat (first | with_reducible assumption | (with_reducible apply Blk.new_at; (first | rfl | (simp; done))) | with_reducible apply Blk.store2 | with_reducible apply Blk.store3 | with_reducible apply Blk.store4 | (with_reducible apply Blk.farp; (first | omega | (simp <;> omega))) | with_reducible apply Blk.allocp | with_reducible apply Blk.drew | with_reducible apply Blk.drewN))) hB2; have cM2 := hM2.cell; have fM2 := hM2.frozen; have lM2 := hM2.lt; have mM2 := Nat.ne_of_gt lM2; have nM2 := Nat.ne_of_lt lM2)
      have hlF2 : w.heap.size < v2.heap.size + 3 := by omega
      have hlM2 : w.heap.size + 1 < v2.heap.size + 3 := by omega
      have hnFa2 : ¬ w.heap.size = v2.heap.size + 1 := by omega
      have hkFa2 : w.heap.size < v2.heap.size + 1 := by omega
      have hnFb2 : ¬ w.heap.size = v2.heap.size + 1 + 1 := by omega
      have hkFb2 : w.heap.size < v2.heap.size + 1 + 1 := by omega
      have hnFc2 : ¬ w.heap.size = v2.heap.size + 1 + 1 + 1 := by omega
      have hkFc2 : w.heap.size < v2.heap.size + 1 + 1 + 1 := by omega
      have hnMa2 : ¬ w.heap.size + 1 = v2.heap.size + 1 := by omega
      have hkMa2 : w.heap.size + 1 < v2.heap.size + 1 := by omega
      have hnMb2 : ¬ w.heap.size + 1 = v2.heap.size + 1 + 1 := by omega
      have hkMb2 : w.heap.size + 1 < v2.heap.size + 1 + 1 := by omega
      have hnMc2 : ¬ w.heap.size + 1 = v2.heap.size + 1 + 1 + 1 := by omega
      have hkMc2 : w.heap.size + 1 < v2.heap.size + 1 + 1 + 1 := by omega
      refine wp_region_calm 20 (Below (v2.heap.size + 3) _) (by kernel_rfl) (by kernel_rfl) ((Below.refl _ _).drew) ?_
      simp only [List.take_succ_cons, List.take_zero, List.drop_succ_cons, List.drop_zero]
      repeat (first | (apply wpCalm_go; go_simp; (intro w' hw' hcc hff; go_simp; first | exact rfl | ((with_reducible refine (k1.out _).mono ?_); rintro e w1 ⟨rfl, hb⟩; exact ⟨rfl, calm_call (by simp <;> omega) hw' hb⟩) | ((with_reducible refine (k2.out _).mono ?_); rintro e w1 ⟨rfl, hb⟩; exact ⟨rfl, calm_call (by simp <;> omega) hw' hb⟩) | ((with_reducible refine (k3.out _).mono ?_); rintro e w1 ⟨rfl, hb⟩; exact ⟨rfl, calm_call (by simp <;> omega) hw' hb⟩)); (intro K hK; go_simp; refine hK _ ?_; clear hK K)) | (apply wpCalm_skip; go_simp; (try (focus (simp [undef]; done))); (intro K hK; go_simp; refine hK _ ?_; clear hK K)))
      refine wpCalm_nil ?_
      intro w1 hw1
      have hcc := (calm_cells hw1).1
      have hff := (calm_cells hw1).2
      have hss := calm_size hw1
      have hsz := hw1.size
      (try simp at hsz)
      obtain ⟨x2, hx2⟩ : ∃ x, w1 = x := ⟨_, rfl⟩
      have hF2' : Blk w1 w.heap.size 35 #[.int .i64 a, .int .i64 b, .int .i64 c] := Blk.below (by (repeat (first | with_reducible assumption | (with_reducible apply Blk.new_at; (first | rfl | (simp; done))) | with_reducible apply Blk.store3 | with_reducible apply Blk.store4 | (with_reducible apply Blk.farp; (first | omega | (simp <;> omega))) | with_reducible apply Blk.allocp | with_reducible apply Blk.drew | with_reducible apply Blk.drewN))) hw1 (by omega)
      have hM2' : Blk w1 (w.heap.size + 1) 39 #[.int .i64 a1, .int .i64 a2, .int .i64 b1, .int .i64 b2, .int .i64 c1, .int .i64 c2] := Blk.below (by (repeat (first | with_reducible assumption | (with_reducible apply Blk.new_at; (first | rfl | (simp; done))) | with_reducible apply Blk.store3 | with_reducible apply Blk.store4 | (with_reducible apply Blk.farp; (first | omega | (simp <;> omega))) | with_reducible apply Blk.allocp | with_reducible apply Blk.drew | with_reducible apply Blk.drewN))) hw1 (by omega)
      have hb2 : Below w.heap.size w w1 := below_via (show Below w.heap.size w _ from (by repeat (first | with_reducible exact Below.refl _ _ | with_reducible assumption | with_reducible apply Below.drew | with_reducible apply below_drewN | (with_reducible apply below_setp; (first | omega | (simp <;> omega))) | (with_reducible apply below_allocp; (first | omega | (simp <;> omega))) | (with_reducible refine below_viap (by assumption) ?_ ?_; (first | omega | (simp <;> omega)))))) hw1 (by omega)
      rw [hx2] at hF2' hM2' hb2 ⊢
      have cF2' := hF2'.cell; have cM2' := hM2'.cell; have lF2' := hF2'.lt; have lM2' := hM2'.lt
      have nF2' := Nat.ne_of_lt lF2'; have nM2' := Nat.ne_of_lt lM2'; have mF2' := Nat.ne_of_gt lF2'; have mM2' := Nat.ne_of_gt lM2'
      clear hcc hff hw1 hsz hss hx2 hF2 hM2 cF2 cM2 fF2 fM2 lF2 lM2 mF2 mM2 nF2 nM2
      go_wp2
      go_ret
      exact ⟨rfl, hb2⟩
    · rw [if_neg (by omega)] at hR
      by_cases e3 : x + y < z
      · rw [if_pos (by omega)] at hR; subst hR
        go_enter Try.func72, Try.ntmps72
        go_wp2
        refine wp_loop_rounds 4 ?_
        rw [rounds_succ]
        go_wp2_with (go_at_call 153; (with_reducible refine (hS1.out _).mono ?_); rintro e v1 ⟨rfl, hB1⟩; have hZ1 := hB1.size; (try simp at hZ1); have hF1 : Blk v1 (w.heap.size) 35 #[.int .i64 a, .int .i64 b, .int .i64 c] := Blk.call (by (repeat (first | with_reducible assumption | (with_reducible apply Blk.new_at; (first | rfl | (simp; done))) | with_reducible apply Blk.store2 | with_reducible apply Blk.store3 | with_reducible apply Blk.store4 | (with_reducible apply Blk.farp; (first | omega | (simp <;> omega))) | with_reducible apply Blk.allocp | with_reducible apply Blk.drew | with_reducible apply Blk.drewN))) hB1; have cF1 := hF1.cell; have fF1 := hF1.frozen; have lF1 := hF1.lt; have mF1 := Nat.ne_of_gt lF1; have nF1 := Nat.ne_of_lt lF1; have hM1 : Blk v1 (w.heap.size + 1) 39 #[.int .i64 a1, .int .i64 a2, .int .i64 b1, .int .i64 b2, .int .i64 c1, .int .i64 c2] := Blk.call (by (repeat (first | with_reducible assumption | (with_reducible apply Blk.new_at; (first | rfl | (simp; done))) | with_reducible apply Blk.store2 | with_reducible apply Blk.store3 | with_reducible apply Blk.store4 | (with_reducible apply Blk.farp; (first | omega | (simp <;> omega))) | with_reducible apply Blk.allocp | with_reducible apply Blk.drew | with_reducible apply Blk.drewN))) hB1; have cM1 := hM1.cell; have fM1 := hM1.frozen; have lM1 := hM1.lt; have mM1 := Nat.ne_of_gt lM1; have nM1 := Nat.ne_of_lt lM1)
        have hlF1 : w.heap.size < v1.heap.size + 3 := by omega
        have hlM1 : w.heap.size + 1 < v1.heap.size + 3 := by omega
        have hnFa1 : ¬ w.heap.size = v1.heap.size + 1 := by omega
        have hkFa1 : w.heap.size < v1.heap.size + 1 := by omega
        have hnFb1 : ¬ w.heap.size = v1.heap.size + 1 + 1 := by omega
        have hkFb1 : w.heap.size < v1.heap.size + 1 + 1 := by omega
        have hnFc1 : ¬ w.heap.size = v1.heap.size + 1 + 1 + 1 := by omega
        have hkFc1 : w.heap.size < v1.heap.size + 1 + 1 + 1 := by omega
        have hnMa1 : ¬ w.heap.size + 1 = v1.heap.size + 1 := by omega
        have hkMa1 : w.heap.size + 1 < v1.heap.size + 1 := by omega
        have hnMb1 : ¬ w.heap.size + 1 = v1.heap.size + 1 + 1 := by omega
        have hkMb1 : w.heap.size + 1 < v1.heap.size + 1 + 1 := by omega
        have hnMc1 : ¬ w.heap.size + 1 = v1.heap.size + 1 + 1 + 1 := by omega
        have hkMc1 : w.heap.size + 1 < v1.heap.size + 1 + 1 + 1 := by omega
        refine wp_region_calm 20 (Below (v1.heap.size + 3) _) (by kernel_rfl) (by kernel_rfl) ((Below.refl _ _).drew) ?_
        simp only [List.take_succ_cons, List.take_zero, List.drop_succ_cons, List.drop_zero]
        repeat (first | (apply wpCalm_go; go_simp; (intro w' hw' hcc hff; go_simp; first | exact rfl | ((with_reducible refine (k1.out _).mono ?_); rintro e w1 ⟨rfl, hb⟩; exact ⟨rfl, calm_call (by simp <;> omega) hw' hb⟩) | ((with_reducible refine (k2.out _).mono ?_); rintro e w1 ⟨rfl, hb⟩; exact ⟨rfl, calm_call (by simp <;> omega) hw' hb⟩) | ((with_reducible refine (k3.out _).mono ?_); rintro e w1 ⟨rfl, hb⟩; exact ⟨rfl, calm_call (by simp <;> omega) hw' hb⟩)); (intro K hK; go_simp; refine hK _ ?_; clear hK K)) | (apply wpCalm_skip; go_simp; (try (focus (simp [undef]; done))); (intro K hK; go_simp; refine hK _ ?_; clear hK K)))
        refine wpCalm_nil ?_
        intro w1 hw1
        have hcc := (calm_cells hw1).1
        have hff := (calm_cells hw1).2
        have hss := calm_size hw1
        have hsz := hw1.size
        (try simp at hsz)
        obtain ⟨x1, hx1⟩ : ∃ x, w1 = x := ⟨_, rfl⟩
        have hF1' : Blk w1 w.heap.size 35 #[.int .i64 a, .int .i64 b, .int .i64 c] := Blk.below (by (repeat (first | with_reducible assumption | (with_reducible apply Blk.new_at; (first | rfl | (simp; done))) | with_reducible apply Blk.store3 | with_reducible apply Blk.store4 | (with_reducible apply Blk.farp; (first | omega | (simp <;> omega))) | with_reducible apply Blk.allocp | with_reducible apply Blk.drew | with_reducible apply Blk.drewN))) hw1 (by omega)
        have hM1' : Blk w1 (w.heap.size + 1) 39 #[.int .i64 a1, .int .i64 a2, .int .i64 b1, .int .i64 b2, .int .i64 c1, .int .i64 c2] := Blk.below (by (repeat (first | with_reducible assumption | (with_reducible apply Blk.new_at; (first | rfl | (simp; done))) | with_reducible apply Blk.store3 | with_reducible apply Blk.store4 | (with_reducible apply Blk.farp; (first | omega | (simp <;> omega))) | with_reducible apply Blk.allocp | with_reducible apply Blk.drew | with_reducible apply Blk.drewN))) hw1 (by omega)
        have hb1 : Below w.heap.size w w1 := below_via (show Below w.heap.size w _ from (by repeat (first | with_reducible exact Below.refl _ _ | with_reducible assumption | with_reducible apply Below.drew | with_reducible apply below_drewN | (with_reducible apply below_setp; (first | omega | (simp <;> omega))) | (with_reducible apply below_allocp; (first | omega | (simp <;> omega))) | (with_reducible refine below_viap (by assumption) ?_ ?_; (first | omega | (simp <;> omega)))))) hw1 (by omega)
        rw [hx1] at hF1' hM1' hb1 ⊢
        have cF1' := hF1'.cell; have cM1' := hM1'.cell; have lF1' := hF1'.lt; have lM1' := hM1'.lt
        have nF1' := Nat.ne_of_lt lF1'; have nM1' := Nat.ne_of_lt lM1'; have mF1' := Nat.ne_of_gt lF1'; have mM1' := Nat.ne_of_gt lM1'
        clear hcc hff hw1 hsz hss hx1 hF1 hM1 cF1 cM1 fF1 fM1 lF1 lM1 mF1 mM1 nF1 nM1
        go_wp2
        rw [rounds_succ]
        go_wp2_with (go_at_call 153; (with_reducible refine (hS2.out _).mono ?_); rintro e v2 ⟨rfl, hB2⟩; have hZ2 := hB2.size; (try simp at hZ2); have hF2 : Blk v2 (w.heap.size) 35 #[.int .i64 a, .int .i64 b, .int .i64 c] := Blk.call (by (repeat (first | with_reducible assumption | (with_reducible apply Blk.new_at; (first | rfl | (simp; done))) | with_reducible apply Blk.store2 | with_reducible apply Blk.store3 | with_reducible apply Blk.store4 | (with_reducible apply Blk.farp; (first | omega | (simp <;> omega))) | with_reducible apply Blk.allocp | with_reducible apply Blk.drew | with_reducible apply Blk.drewN))) hB2; have cF2 := hF2.cell; have fF2 := hF2.frozen; have lF2 := hF2.lt; have mF2 := Nat.ne_of_gt lF2; have nF2 := Nat.ne_of_lt lF2; have hM2 : Blk v2 (w.heap.size + 1) 39 #[.int .i64 a1, .int .i64 a2, .int .i64 b1, .int .i64 b2, .int .i64 c1, .int .i64 c2] := Blk.call (by (repeat (first | with_reducible assumption | (with_reducible apply Blk.new_at; (first | rfl | (simp; done))) | with_reducible apply Blk.store2 | with_reducible apply Blk.store3 | with_reducible apply Blk.store4 | (with_reducible apply Blk.farp; (first | omega | (simp <;> omega))) | with_reducible apply Blk.allocp | with_reducible apply Blk.drew | with_reducible apply Blk.drewN))) hB2; have cM2 := hM2.cell; have fM2 := hM2.frozen; have lM2 := hM2.lt; have mM2 := Nat.ne_of_gt lM2; have nM2 := Nat.ne_of_lt lM2)
        have hlF2 : w.heap.size < v2.heap.size + 3 := by omega
        have hlM2 : w.heap.size + 1 < v2.heap.size + 3 := by omega
        have hnFa2 : ¬ w.heap.size = v2.heap.size + 1 := by omega
        have hkFa2 : w.heap.size < v2.heap.size + 1 := by omega
        have hnFb2 : ¬ w.heap.size = v2.heap.size + 1 + 1 := by omega
        have hkFb2 : w.heap.size < v2.heap.size + 1 + 1 := by omega
        have hnFc2 : ¬ w.heap.size = v2.heap.size + 1 + 1 + 1 := by omega
        have hkFc2 : w.heap.size < v2.heap.size + 1 + 1 + 1 := by omega
        have hnMa2 : ¬ w.heap.size + 1 = v2.heap.size + 1 := by omega
        have hkMa2 : w.heap.size + 1 < v2.heap.size + 1 := by omega
        have hnMb2 : ¬ w.heap.size + 1 = v2.heap.size + 1 + 1 := by omega
        have hkMb2 : w.heap.size + 1 < v2.heap.size + 1 + 1 := by omega
        have hnMc2 : ¬ w.heap.size + 1 = v2.heap.size + 1 + 1 + 1 := by omega
        have hkMc2 : w.heap.size + 1 < v2.heap.size + 1 + 1 + 1 := by omega
        refine wp_region_calm 20 (Below (v2.heap.size + 3) _) (by kernel_rfl) (by kernel_rfl) ((Below.refl _ _).drew) ?_
        simp only [List.take_succ_cons, List.take_zero, List.drop_succ_cons, List.drop_zero]
        repeat (first | (apply wpCalm_go; go_simp; (intro w' hw' hcc hff; go_simp; first | exact rfl | ((with_reducible refine (k1.out _).mono ?_); rintro e w1 ⟨rfl, hb⟩; exact ⟨rfl, calm_call (by simp <;> omega) hw' hb⟩) | ((with_reducible refine (k2.out _).mono ?_); rintro e w1 ⟨rfl, hb⟩; exact ⟨rfl, calm_call (by simp <;> omega) hw' hb⟩) | ((with_reducible refine (k3.out _).mono ?_); rintro e w1 ⟨rfl, hb⟩; exact ⟨rfl, calm_call (by simp <;> omega) hw' hb⟩)); (intro K hK; go_simp; refine hK _ ?_; clear hK K)) | (apply wpCalm_skip; go_simp; (try (focus (simp [undef]; done))); (intro K hK; go_simp; refine hK _ ?_; clear hK K)))
        refine wpCalm_nil ?_
        intro w1 hw1
        have hcc := (calm_cells hw1).1
        have hff := (calm_cells hw1).2
        have hss := calm_size hw1
        have hsz := hw1.size
        (try simp at hsz)
        obtain ⟨x2, hx2⟩ : ∃ x, w1 = x := ⟨_, rfl⟩
        have hF2' : Blk w1 w.heap.size 35 #[.int .i64 a, .int .i64 b, .int .i64 c] := Blk.below (by (repeat (first | with_reducible assumption | (with_reducible apply Blk.new_at; (first | rfl | (simp; done))) | with_reducible apply Blk.store3 | with_reducible apply Blk.store4 | (with_reducible apply Blk.farp; (first | omega | (simp <;> omega))) | with_reducible apply Blk.allocp | with_reducible apply Blk.drew | with_reducible apply Blk.drewN))) hw1 (by omega)
        have hM2' : Blk w1 (w.heap.size + 1) 39 #[.int .i64 a1, .int .i64 a2, .int .i64 b1, .int .i64 b2, .int .i64 c1, .int .i64 c2] := Blk.below (by (repeat (first | with_reducible assumption | (with_reducible apply Blk.new_at; (first | rfl | (simp; done))) | with_reducible apply Blk.store3 | with_reducible apply Blk.store4 | (with_reducible apply Blk.farp; (first | omega | (simp <;> omega))) | with_reducible apply Blk.allocp | with_reducible apply Blk.drew | with_reducible apply Blk.drewN))) hw1 (by omega)
        have hb2 : Below w.heap.size w w1 := below_via (show Below w.heap.size w _ from (by repeat (first | with_reducible exact Below.refl _ _ | with_reducible assumption | with_reducible apply Below.drew | with_reducible apply below_drewN | (with_reducible apply below_setp; (first | omega | (simp <;> omega))) | (with_reducible apply below_allocp; (first | omega | (simp <;> omega))) | (with_reducible refine below_viap (by assumption) ?_ ?_; (first | omega | (simp <;> omega)))))) hw1 (by omega)
        rw [hx2] at hF2' hM2' hb2 ⊢
        have cF2' := hF2'.cell; have cM2' := hM2'.cell; have lF2' := hF2'.lt; have lM2' := hM2'.lt
        have nF2' := Nat.ne_of_lt lF2'; have nM2' := Nat.ne_of_lt lM2'; have mF2' := Nat.ne_of_gt lF2'; have mM2' := Nat.ne_of_gt lM2'
        clear hcc hff hw1 hsz hss hx2 hF2 hM2 cF2 cM2 fF2 fM2 lF2 lM2 mF2 mM2 nF2 nM2
        go_wp2
        rw [rounds_succ]
        go_wp2_with (go_at_call 153; (with_reducible refine (hS3.out _).mono ?_); rintro e v3 ⟨rfl, hB3⟩; have hZ3 := hB3.size; (try simp at hZ3); have hF3 : Blk v3 (w.heap.size) 35 #[.int .i64 a, .int .i64 b, .int .i64 c] := Blk.call (by (repeat (first | with_reducible assumption | (with_reducible apply Blk.new_at; (first | rfl | (simp; done))) | with_reducible apply Blk.store2 | with_reducible apply Blk.store3 | with_reducible apply Blk.store4 | (with_reducible apply Blk.farp; (first | omega | (simp <;> omega))) | with_reducible apply Blk.allocp | with_reducible apply Blk.drew | with_reducible apply Blk.drewN))) hB3; have cF3 := hF3.cell; have fF3 := hF3.frozen; have lF3 := hF3.lt; have mF3 := Nat.ne_of_gt lF3; have nF3 := Nat.ne_of_lt lF3; have hM3 : Blk v3 (w.heap.size + 1) 39 #[.int .i64 a1, .int .i64 a2, .int .i64 b1, .int .i64 b2, .int .i64 c1, .int .i64 c2] := Blk.call (by (repeat (first | with_reducible assumption | (with_reducible apply Blk.new_at; (first | rfl | (simp; done))) | with_reducible apply Blk.store2 | with_reducible apply Blk.store3 | with_reducible apply Blk.store4 | (with_reducible apply Blk.farp; (first | omega | (simp <;> omega))) | with_reducible apply Blk.allocp | with_reducible apply Blk.drew | with_reducible apply Blk.drewN))) hB3; have cM3 := hM3.cell; have fM3 := hM3.frozen; have lM3 := hM3.lt; have mM3 := Nat.ne_of_gt lM3; have nM3 := Nat.ne_of_lt lM3)
        have hlF3 : w.heap.size < v3.heap.size + 3 := by omega
        have hlM3 : w.heap.size + 1 < v3.heap.size + 3 := by omega
        have hnFa3 : ¬ w.heap.size = v3.heap.size + 1 := by omega
        have hkFa3 : w.heap.size < v3.heap.size + 1 := by omega
        have hnFb3 : ¬ w.heap.size = v3.heap.size + 1 + 1 := by omega
        have hkFb3 : w.heap.size < v3.heap.size + 1 + 1 := by omega
        have hnFc3 : ¬ w.heap.size = v3.heap.size + 1 + 1 + 1 := by omega
        have hkFc3 : w.heap.size < v3.heap.size + 1 + 1 + 1 := by omega
        have hnMa3 : ¬ w.heap.size + 1 = v3.heap.size + 1 := by omega
        have hkMa3 : w.heap.size + 1 < v3.heap.size + 1 := by omega
        have hnMb3 : ¬ w.heap.size + 1 = v3.heap.size + 1 + 1 := by omega
        have hkMb3 : w.heap.size + 1 < v3.heap.size + 1 + 1 := by omega
        have hnMc3 : ¬ w.heap.size + 1 = v3.heap.size + 1 + 1 + 1 := by omega
        have hkMc3 : w.heap.size + 1 < v3.heap.size + 1 + 1 + 1 := by omega
        refine wp_region_calm 20 (Below (v3.heap.size + 3) _) (by kernel_rfl) (by kernel_rfl) ((Below.refl _ _).drew) ?_
        simp only [List.take_succ_cons, List.take_zero, List.drop_succ_cons, List.drop_zero]
        repeat (first | (apply wpCalm_go; go_simp; (intro w' hw' hcc hff; go_simp; first | exact rfl | ((with_reducible refine (k1.out _).mono ?_); rintro e w1 ⟨rfl, hb⟩; exact ⟨rfl, calm_call (by simp <;> omega) hw' hb⟩) | ((with_reducible refine (k2.out _).mono ?_); rintro e w1 ⟨rfl, hb⟩; exact ⟨rfl, calm_call (by simp <;> omega) hw' hb⟩) | ((with_reducible refine (k3.out _).mono ?_); rintro e w1 ⟨rfl, hb⟩; exact ⟨rfl, calm_call (by simp <;> omega) hw' hb⟩)); (intro K hK; go_simp; refine hK _ ?_; clear hK K)) | (apply wpCalm_skip; go_simp; (try (focus (simp [undef]; done))); (intro K hK; go_simp; refine hK _ ?_; clear hK K)))
        refine wpCalm_nil ?_
        intro w1 hw1
        have hcc := (calm_cells hw1).1
        have hff := (calm_cells hw1).2
        have hss := calm_size hw1
        have hsz := hw1.size
        (try simp at hsz)
        obtain ⟨x3, hx3⟩ : ∃ x, w1 = x := ⟨_, rfl⟩
        have hF3' : Blk w1 w.heap.size 35 #[.int .i64 a, .int .i64 b, .int .i64 c] := Blk.below (by (repeat (first | with_reducible assumption | (with_reducible apply Blk.new_at; (first | rfl | (simp; done))) | with_reducible apply Blk.store3 | with_reducible apply Blk.store4 | (with_reducible apply Blk.farp; (first | omega | (simp <;> omega))) | with_reducible apply Blk.allocp | with_reducible apply Blk.drew | with_reducible apply Blk.drewN))) hw1 (by omega)
        have hM3' : Blk w1 (w.heap.size + 1) 39 #[.int .i64 a1, .int .i64 a2, .int .i64 b1, .int .i64 b2, .int .i64 c1, .int .i64 c2] := Blk.below (by (repeat (first | with_reducible assumption | (with_reducible apply Blk.new_at; (first | rfl | (simp; done))) | with_reducible apply Blk.store3 | with_reducible apply Blk.store4 | (with_reducible apply Blk.farp; (first | omega | (simp <;> omega))) | with_reducible apply Blk.allocp | with_reducible apply Blk.drew | with_reducible apply Blk.drewN))) hw1 (by omega)
        have hb3 : Below w.heap.size w w1 := below_via (show Below w.heap.size w _ from (by repeat (first | with_reducible exact Below.refl _ _ | with_reducible assumption | with_reducible apply Below.drew | with_reducible apply below_drewN | (with_reducible apply below_setp; (first | omega | (simp <;> omega))) | (with_reducible apply below_allocp; (first | omega | (simp <;> omega))) | (with_reducible refine below_viap (by assumption) ?_ ?_; (first | omega | (simp <;> omega)))))) hw1 (by omega)
        rw [hx3] at hF3' hM3' hb3 ⊢
        have cF3' := hF3'.cell; have cM3' := hM3'.cell; have lF3' := hF3'.lt; have lM3' := hM3'.lt
        have nF3' := Nat.ne_of_lt lF3'; have nM3' := Nat.ne_of_lt lM3'; have mF3' := Nat.ne_of_gt lF3'; have mM3' := Nat.ne_of_gt lM3'
        clear hcc hff hw1 hsz hss hx3 hF3 hM3 cF3 cM3 fF3 fM3 lF3 lM3 mF3 mM3 nF3 nM3
        go_wp2
        go_ret
        exact ⟨rfl, hb3⟩
      · rw [if_neg (by omega)] at hR; subst hR
        go_enter Try.func72, Try.ntmps72
        go_wp2
        refine wp_loop_rounds 4 ?_
        rw [rounds_succ]
        go_wp2_with (go_at_call 153; (with_reducible refine (hS1.out _).mono ?_); rintro e v1 ⟨rfl, hB1⟩; have hZ1 := hB1.size; (try simp at hZ1); have hF1 : Blk v1 (w.heap.size) 35 #[.int .i64 a, .int .i64 b, .int .i64 c] := Blk.call (by (repeat (first | with_reducible assumption | (with_reducible apply Blk.new_at; (first | rfl | (simp; done))) | with_reducible apply Blk.store2 | with_reducible apply Blk.store3 | with_reducible apply Blk.store4 | (with_reducible apply Blk.farp; (first | omega | (simp <;> omega))) | with_reducible apply Blk.allocp | with_reducible apply Blk.drew | with_reducible apply Blk.drewN))) hB1; have cF1 := hF1.cell; have fF1 := hF1.frozen; have lF1 := hF1.lt; have mF1 := Nat.ne_of_gt lF1; have nF1 := Nat.ne_of_lt lF1; have hM1 : Blk v1 (w.heap.size + 1) 39 #[.int .i64 a1, .int .i64 a2, .int .i64 b1, .int .i64 b2, .int .i64 c1, .int .i64 c2] := Blk.call (by (repeat (first | with_reducible assumption | (with_reducible apply Blk.new_at; (first | rfl | (simp; done))) | with_reducible apply Blk.store2 | with_reducible apply Blk.store3 | with_reducible apply Blk.store4 | (with_reducible apply Blk.farp; (first | omega | (simp <;> omega))) | with_reducible apply Blk.allocp | with_reducible apply Blk.drew | with_reducible apply Blk.drewN))) hB1; have cM1 := hM1.cell; have fM1 := hM1.frozen; have lM1 := hM1.lt; have mM1 := Nat.ne_of_gt lM1; have nM1 := Nat.ne_of_lt lM1)
        have hlF1 : w.heap.size < v1.heap.size + 3 := by omega
        have hlM1 : w.heap.size + 1 < v1.heap.size + 3 := by omega
        have hnFa1 : ¬ w.heap.size = v1.heap.size + 1 := by omega
        have hkFa1 : w.heap.size < v1.heap.size + 1 := by omega
        have hnFb1 : ¬ w.heap.size = v1.heap.size + 1 + 1 := by omega
        have hkFb1 : w.heap.size < v1.heap.size + 1 + 1 := by omega
        have hnFc1 : ¬ w.heap.size = v1.heap.size + 1 + 1 + 1 := by omega
        have hkFc1 : w.heap.size < v1.heap.size + 1 + 1 + 1 := by omega
        have hnMa1 : ¬ w.heap.size + 1 = v1.heap.size + 1 := by omega
        have hkMa1 : w.heap.size + 1 < v1.heap.size + 1 := by omega
        have hnMb1 : ¬ w.heap.size + 1 = v1.heap.size + 1 + 1 := by omega
        have hkMb1 : w.heap.size + 1 < v1.heap.size + 1 + 1 := by omega
        have hnMc1 : ¬ w.heap.size + 1 = v1.heap.size + 1 + 1 + 1 := by omega
        have hkMc1 : w.heap.size + 1 < v1.heap.size + 1 + 1 + 1 := by omega
        refine wp_region_calm 20 (Below (v1.heap.size + 3) _) (by kernel_rfl) (by kernel_rfl) ((Below.refl _ _).drew) ?_
        simp only [List.take_succ_cons, List.take_zero, List.drop_succ_cons, List.drop_zero]
        repeat (first | (apply wpCalm_go; go_simp; (intro w' hw' hcc hff; go_simp; first | exact rfl | ((with_reducible refine (k1.out _).mono ?_); rintro e w1 ⟨rfl, hb⟩; exact ⟨rfl, calm_call (by simp <;> omega) hw' hb⟩) | ((with_reducible refine (k2.out _).mono ?_); rintro e w1 ⟨rfl, hb⟩; exact ⟨rfl, calm_call (by simp <;> omega) hw' hb⟩) | ((with_reducible refine (k3.out _).mono ?_); rintro e w1 ⟨rfl, hb⟩; exact ⟨rfl, calm_call (by simp <;> omega) hw' hb⟩)); (intro K hK; go_simp; refine hK _ ?_; clear hK K)) | (apply wpCalm_skip; go_simp; (try (focus (simp [undef]; done))); (intro K hK; go_simp; refine hK _ ?_; clear hK K)))
        refine wpCalm_nil ?_
        intro w1 hw1
        have hcc := (calm_cells hw1).1
        have hff := (calm_cells hw1).2
        have hss := calm_size hw1
        have hsz := hw1.size
        (try simp at hsz)
        obtain ⟨x1, hx1⟩ : ∃ x, w1 = x := ⟨_, rfl⟩
        have hF1' : Blk w1 w.heap.size 35 #[.int .i64 a, .int .i64 b, .int .i64 c] := Blk.below (by (repeat (first | with_reducible assumption | (with_reducible apply Blk.new_at; (first | rfl | (simp; done))) | with_reducible apply Blk.store3 | with_reducible apply Blk.store4 | (with_reducible apply Blk.farp; (first | omega | (simp <;> omega))) | with_reducible apply Blk.allocp | with_reducible apply Blk.drew | with_reducible apply Blk.drewN))) hw1 (by omega)
        have hM1' : Blk w1 (w.heap.size + 1) 39 #[.int .i64 a1, .int .i64 a2, .int .i64 b1, .int .i64 b2, .int .i64 c1, .int .i64 c2] := Blk.below (by (repeat (first | with_reducible assumption | (with_reducible apply Blk.new_at; (first | rfl | (simp; done))) | with_reducible apply Blk.store3 | with_reducible apply Blk.store4 | (with_reducible apply Blk.farp; (first | omega | (simp <;> omega))) | with_reducible apply Blk.allocp | with_reducible apply Blk.drew | with_reducible apply Blk.drewN))) hw1 (by omega)
        have hb1 : Below w.heap.size w w1 := below_via (show Below w.heap.size w _ from (by repeat (first | with_reducible exact Below.refl _ _ | with_reducible assumption | with_reducible apply Below.drew | with_reducible apply below_drewN | (with_reducible apply below_setp; (first | omega | (simp <;> omega))) | (with_reducible apply below_allocp; (first | omega | (simp <;> omega))) | (with_reducible refine below_viap (by assumption) ?_ ?_; (first | omega | (simp <;> omega)))))) hw1 (by omega)
        rw [hx1] at hF1' hM1' hb1 ⊢
        have cF1' := hF1'.cell; have cM1' := hM1'.cell; have lF1' := hF1'.lt; have lM1' := hM1'.lt
        have nF1' := Nat.ne_of_lt lF1'; have nM1' := Nat.ne_of_lt lM1'; have mF1' := Nat.ne_of_gt lF1'; have mM1' := Nat.ne_of_gt lM1'
        clear hcc hff hw1 hsz hss hx1 hF1 hM1 cF1 cM1 fF1 fM1 lF1 lM1 mF1 mM1 nF1 nM1
        go_wp2
        rw [rounds_succ]
        go_wp2_with (go_at_call 153; (with_reducible refine (hS2.out _).mono ?_); rintro e v2 ⟨rfl, hB2⟩; have hZ2 := hB2.size; (try simp at hZ2); have hF2 : Blk v2 (w.heap.size) 35 #[.int .i64 a, .int .i64 b, .int .i64 c] := Blk.call (by (repeat (first | with_reducible assumption | (with_reducible apply Blk.new_at; (first | rfl | (simp; done))) | with_reducible apply Blk.store2 | with_reducible apply Blk.store3 | with_reducible apply Blk.store4 | (with_reducible apply Blk.farp; (first | omega | (simp <;> omega))) | with_reducible apply Blk.allocp | with_reducible apply Blk.drew | with_reducible apply Blk.drewN))) hB2; have cF2 := hF2.cell; have fF2 := hF2.frozen; have lF2 := hF2.lt; have mF2 := Nat.ne_of_gt lF2; have nF2 := Nat.ne_of_lt lF2; have hM2 : Blk v2 (w.heap.size + 1) 39 #[.int .i64 a1, .int .i64 a2, .int .i64 b1, .int .i64 b2, .int .i64 c1, .int .i64 c2] := Blk.call (by (repeat (first | with_reducible assumption | (with_reducible apply Blk.new_at; (first | rfl | (simp; done))) | with_reducible apply Blk.store2 | with_reducible apply Blk.store3 | with_reducible apply Blk.store4 | (with_reducible apply Blk.farp; (first | omega | (simp <;> omega))) | with_reducible apply Blk.allocp | with_reducible apply Blk.drew | with_reducible apply Blk.drewN))) hB2; have cM2 := hM2.cell; have fM2 := hM2.frozen; have lM2 := hM2.lt; have mM2 := Nat.ne_of_gt lM2; have nM2 := Nat.ne_of_lt lM2)
        have hlF2 : w.heap.size < v2.heap.size + 3 := by omega
        have hlM2 : w.heap.size + 1 < v2.heap.size + 3 := by omega
        have hnFa2 : ¬ w.heap.size = v2.heap.size + 1 := by omega
        have hkFa2 : w.heap.size < v2.heap.size + 1 := by omega
        have hnFb2 : ¬ w.heap.size = v2.heap.size + 1 + 1 := by omega
        have hkFb2 : w.heap.size < v2.heap.size + 1 + 1 := by omega
        have hnFc2 : ¬ w.heap.size = v2.heap.size + 1 + 1 + 1 := by omega
        have hkFc2 : w.heap.size < v2.heap.size + 1 + 1 + 1 := by omega
        have hnMa2 : ¬ w.heap.size + 1 = v2.heap.size + 1 := by omega
        have hkMa2 : w.heap.size + 1 < v2.heap.size + 1 := by omega
        have hnMb2 : ¬ w.heap.size + 1 = v2.heap.size + 1 + 1 := by omega
        have hkMb2 : w.heap.size + 1 < v2.heap.size + 1 + 1 := by omega
        have hnMc2 : ¬ w.heap.size + 1 = v2.heap.size + 1 + 1 + 1 := by omega
        have hkMc2 : w.heap.size + 1 < v2.heap.size + 1 + 1 + 1 := by omega
        refine wp_region_calm 20 (Below (v2.heap.size + 3) _) (by kernel_rfl) (by kernel_rfl) ((Below.refl _ _).drew) ?_
        simp only [List.take_succ_cons, List.take_zero, List.drop_succ_cons, List.drop_zero]
        repeat (first | (apply wpCalm_go; go_simp; (intro w' hw' hcc hff; go_simp; first | exact rfl | ((with_reducible refine (k1.out _).mono ?_); rintro e w1 ⟨rfl, hb⟩; exact ⟨rfl, calm_call (by simp <;> omega) hw' hb⟩) | ((with_reducible refine (k2.out _).mono ?_); rintro e w1 ⟨rfl, hb⟩; exact ⟨rfl, calm_call (by simp <;> omega) hw' hb⟩) | ((with_reducible refine (k3.out _).mono ?_); rintro e w1 ⟨rfl, hb⟩; exact ⟨rfl, calm_call (by simp <;> omega) hw' hb⟩)); (intro K hK; go_simp; refine hK _ ?_; clear hK K)) | (apply wpCalm_skip; go_simp; (try (focus (simp [undef]; done))); (intro K hK; go_simp; refine hK _ ?_; clear hK K)))
        refine wpCalm_nil ?_
        intro w1 hw1
        have hcc := (calm_cells hw1).1
        have hff := (calm_cells hw1).2
        have hss := calm_size hw1
        have hsz := hw1.size
        (try simp at hsz)
        obtain ⟨x2, hx2⟩ : ∃ x, w1 = x := ⟨_, rfl⟩
        have hF2' : Blk w1 w.heap.size 35 #[.int .i64 a, .int .i64 b, .int .i64 c] := Blk.below (by (repeat (first | with_reducible assumption | (with_reducible apply Blk.new_at; (first | rfl | (simp; done))) | with_reducible apply Blk.store3 | with_reducible apply Blk.store4 | (with_reducible apply Blk.farp; (first | omega | (simp <;> omega))) | with_reducible apply Blk.allocp | with_reducible apply Blk.drew | with_reducible apply Blk.drewN))) hw1 (by omega)
        have hM2' : Blk w1 (w.heap.size + 1) 39 #[.int .i64 a1, .int .i64 a2, .int .i64 b1, .int .i64 b2, .int .i64 c1, .int .i64 c2] := Blk.below (by (repeat (first | with_reducible assumption | (with_reducible apply Blk.new_at; (first | rfl | (simp; done))) | with_reducible apply Blk.store3 | with_reducible apply Blk.store4 | (with_reducible apply Blk.farp; (first | omega | (simp <;> omega))) | with_reducible apply Blk.allocp | with_reducible apply Blk.drew | with_reducible apply Blk.drewN))) hw1 (by omega)
        have hb2 : Below w.heap.size w w1 := below_via (show Below w.heap.size w _ from (by repeat (first | with_reducible exact Below.refl _ _ | with_reducible assumption | with_reducible apply Below.drew | with_reducible apply below_drewN | (with_reducible apply below_setp; (first | omega | (simp <;> omega))) | (with_reducible apply below_allocp; (first | omega | (simp <;> omega))) | (with_reducible refine below_viap (by assumption) ?_ ?_; (first | omega | (simp <;> omega)))))) hw1 (by omega)
        rw [hx2] at hF2' hM2' hb2 ⊢
        have cF2' := hF2'.cell; have cM2' := hM2'.cell; have lF2' := hF2'.lt; have lM2' := hM2'.lt
        have nF2' := Nat.ne_of_lt lF2'; have nM2' := Nat.ne_of_lt lM2'; have mF2' := Nat.ne_of_gt lF2'; have mM2' := Nat.ne_of_gt lM2'
        clear hcc hff hw1 hsz hss hx2 hF2 hM2 cF2 cM2 fF2 fM2 lF2 lM2 mF2 mM2 nF2 nM2
        go_wp2
        rw [rounds_succ]
        go_wp2_with (go_at_call 153; (with_reducible refine (hS3.out _).mono ?_); rintro e v3 ⟨rfl, hB3⟩; have hZ3 := hB3.size; (try simp at hZ3); have hF3 : Blk v3 (w.heap.size) 35 #[.int .i64 a, .int .i64 b, .int .i64 c] := Blk.call (by (repeat (first | with_reducible assumption | (with_reducible apply Blk.new_at; (first | rfl | (simp; done))) | with_reducible apply Blk.store2 | with_reducible apply Blk.store3 | with_reducible apply Blk.store4 | (with_reducible apply Blk.farp; (first | omega | (simp <;> omega))) | with_reducible apply Blk.allocp | with_reducible apply Blk.drew | with_reducible apply Blk.drewN))) hB3; have cF3 := hF3.cell; have fF3 := hF3.frozen; have lF3 := hF3.lt; have mF3 := Nat.ne_of_gt lF3; have nF3 := Nat.ne_of_lt lF3; have hM3 : Blk v3 (w.heap.size + 1) 39 #[.int .i64 a1, .int .i64 a2, .int .i64 b1, .int .i64 b2, .int .i64 c1, .int .i64 c2] := Blk.call (by (repeat (first | with_reducible assumption | (with_reducible apply Blk.new_at; (first | rfl | (simp; done))) | with_reducible apply Blk.store2 | with_reducible apply Blk.store3 | with_reducible apply Blk.store4 | (with_reducible apply Blk.farp; (first | omega | (simp <;> omega))) | with_reducible apply Blk.allocp | with_reducible apply Blk.drew | with_reducible apply Blk.drewN))) hB3; have cM3 := hM3.cell; have fM3 := hM3.frozen; have lM3 := hM3.lt; have mM3 := Nat.ne_of_gt lM3; have nM3 := Nat.ne_of_lt lM3)
        have hlF3 : w.heap.size < v3.heap.size + 3 := by omega
        have hlM3 : w.heap.size + 1 < v3.heap.size + 3 := by omega
        have hnFa3 : ¬ w.heap.size = v3.heap.size + 1 := by omega
        have hkFa3 : w.heap.size < v3.heap.size + 1 := by omega
        have hnFb3 : ¬ w.heap.size = v3.heap.size + 1 + 1 := by omega
        have hkFb3 : w.heap.size < v3.heap.size + 1 + 1 := by omega
        have hnFc3 : ¬ w.heap.size = v3.heap.size + 1 + 1 + 1 := by omega
        have hkFc3 : w.heap.size < v3.heap.size + 1 + 1 + 1 := by omega
        have hnMa3 : ¬ w.heap.size + 1 = v3.heap.size + 1 := by omega
        have hkMa3 : w.heap.size + 1 < v3.heap.size + 1 := by omega
        have hnMb3 : ¬ w.heap.size + 1 = v3.heap.size + 1 + 1 := by omega
        have hkMb3 : w.heap.size + 1 < v3.heap.size + 1 + 1 := by omega
        have hnMc3 : ¬ w.heap.size + 1 = v3.heap.size + 1 + 1 + 1 := by omega
        have hkMc3 : w.heap.size + 1 < v3.heap.size + 1 + 1 + 1 := by omega
        refine wp_region_calm 20 (Below (v3.heap.size + 3) _) (by kernel_rfl) (by kernel_rfl) ((Below.refl _ _).drew) ?_
        simp only [List.take_succ_cons, List.take_zero, List.drop_succ_cons, List.drop_zero]
        repeat (first | (apply wpCalm_go; go_simp; (intro w' hw' hcc hff; go_simp; first | exact rfl | ((with_reducible refine (k1.out _).mono ?_); rintro e w1 ⟨rfl, hb⟩; exact ⟨rfl, calm_call (by simp <;> omega) hw' hb⟩) | ((with_reducible refine (k2.out _).mono ?_); rintro e w1 ⟨rfl, hb⟩; exact ⟨rfl, calm_call (by simp <;> omega) hw' hb⟩) | ((with_reducible refine (k3.out _).mono ?_); rintro e w1 ⟨rfl, hb⟩; exact ⟨rfl, calm_call (by simp <;> omega) hw' hb⟩)); (intro K hK; go_simp; refine hK _ ?_; clear hK K)) | (apply wpCalm_skip; go_simp; (try (focus (simp [undef]; done))); (intro K hK; go_simp; refine hK _ ?_; clear hK K)))
        refine wpCalm_nil ?_
        intro w1 hw1
        have hcc := (calm_cells hw1).1
        have hff := (calm_cells hw1).2
        have hss := calm_size hw1
        have hsz := hw1.size
        (try simp at hsz)
        obtain ⟨x3, hx3⟩ : ∃ x, w1 = x := ⟨_, rfl⟩
        have hF3' : Blk w1 w.heap.size 35 #[.int .i64 a, .int .i64 b, .int .i64 c] := Blk.below (by (repeat (first | with_reducible assumption | (with_reducible apply Blk.new_at; (first | rfl | (simp; done))) | with_reducible apply Blk.store3 | with_reducible apply Blk.store4 | (with_reducible apply Blk.farp; (first | omega | (simp <;> omega))) | with_reducible apply Blk.allocp | with_reducible apply Blk.drew | with_reducible apply Blk.drewN))) hw1 (by omega)
        have hM3' : Blk w1 (w.heap.size + 1) 39 #[.int .i64 a1, .int .i64 a2, .int .i64 b1, .int .i64 b2, .int .i64 c1, .int .i64 c2] := Blk.below (by (repeat (first | with_reducible assumption | (with_reducible apply Blk.new_at; (first | rfl | (simp; done))) | with_reducible apply Blk.store3 | with_reducible apply Blk.store4 | (with_reducible apply Blk.farp; (first | omega | (simp <;> omega))) | with_reducible apply Blk.allocp | with_reducible apply Blk.drew | with_reducible apply Blk.drewN))) hw1 (by omega)
        have hb3 : Below w.heap.size w w1 := below_via (show Below w.heap.size w _ from (by repeat (first | with_reducible exact Below.refl _ _ | with_reducible assumption | with_reducible apply Below.drew | with_reducible apply below_drewN | (with_reducible apply below_setp; (first | omega | (simp <;> omega))) | (with_reducible apply below_allocp; (first | omega | (simp <;> omega))) | (with_reducible refine below_viap (by assumption) ?_ ?_; (first | omega | (simp <;> omega)))))) hw1 (by omega)
        rw [hx3] at hF3' hM3' hb3 ⊢
        have cF3' := hF3'.cell; have cM3' := hM3'.cell; have lF3' := hF3'.lt; have lM3' := hM3'.lt
        have nF3' := Nat.ne_of_lt lF3'; have nM3' := Nat.ne_of_lt lM3'; have mF3' := Nat.ne_of_gt lF3'; have mM3' := Nat.ne_of_gt lM3'
        clear hcc hff hw1 hsz hss hx3 hF3 hM3 cF3 cM3 fF3 fM3 lF3 lM3 mF3 mM3 nF3 nM3
        go_wp2
        rw [rounds_succ]
        go_wp2
        go_ret
        exact ⟨rfl, hb3⟩
end

section
open Go.RowKit

theorem own_emptyN {w : World} {B g : Nat} {e : TypeId} {sz : Nat} (hg : g = w.heap.size) (hB : B ≤ w.heap.size) : (w.alloc (.cells #[] e)).ownsRow B e sz (.slice (some ⟨g, 0, none⟩) 0 0) 0 [] := by
  subst hg; exact own_empty hB
/-- A list of nodes and a flag, in new memory. -/
def RetNb (L : List Nd) (ok : Bool) (w : World) (e : Ending) (w' : World) : Prop := ∃ v, e = .returned (.tuple #[v, .bool ok]) ∧ w'.ownsRow w.heap.size 39 6 v L.length (cellsN L) ∧ Below w.heap.size w w'
def dtB (f : Fm) (n : Nd) : Bool := isDefB f.a f.b f.c && (ndB n && decide ((path f.a f.b f.c n).length ≤ 1000))
def dtL (f : Fm) (n : Nd) : List Nd := if dtB f n then path f.a f.b f.c n else []
/-- The state of the loop: k of the path's steps are done. -/
def DtSt (a b c : Int) (T : List Nd) (w : World) (vl vi : Value) (wr : World) : Prop :=
  ∃ (k : Nat) (hk : k < T.length), k + 1 ≤ 1000 ∧ vi = .int .i64 (stpN a b c T[k]) ∧ Blk wr w.heap.size 35 #[.int .i64 a, .int .i64 b, .int .i64 c] ∧
    Blk wr (w.heap.size + 1) 39 #[.int .i64 T[k].u.1, .int .i64 T[k].u.2, .int .i64 T[k].v.1, .int .i64 T[k].v.2, .int .i64 T[k].w.1, .int .i64 T[k].w.2] ∧ wr.ownsRow (w.heap.size + 1 + 1) 39 6 vl (T.take (k + 1)).length (cellsN (T.take (k + 1))) ∧ Below w.heap.size w wr
theorem take_nd {T : List Nd} {k : Nat} {m : Nd} (h : k < T.length) (e : T[k] = m) : T.take (k + 1) = T.take k ++ [⟨(m.u.1, m.u.2), (m.v.1, m.v.2), (m.w.1, m.w.2)⟩] := by
  rw [List.take_succ_eq_append_getElem h, e]
def lnN : Value → Nat
  | .slice _ n _ => n
  | _ => 0
set_option maxRecDepth 100000 in
set_option maxHeartbeats 12800000 in
theorem implDT_any (f : Fm) (a1 a2 b1 b2 c1 c2 : Int) (w : World) :
    Calls Try.prog 17 #[.agg #[.int .i64 f.a, .int .i64 f.b, .int .i64 f.c], .agg #[.int .i64 a1, .int .i64 a2, .int .i64 b1, .int .i64 b2, .int .i64 c1, .int .i64 c2]] w (RetNb (dtL f ⟨(a1, a2), (b1, b2), (c1, c2)⟩) (dtB f ⟨(a1, a2), (b1, b2), (c1, c2)⟩) w) := by
  obtain ⟨i0, hi0, hz0, hz1, hz2⟩ := info_parts infoNd
  have hF := Lib.hid (fun w => iisDef_any f.a f.b f.c w)
  have hN := Lib.hid (fun w => isNode_any a1 a2 b1 b2 c1 c2 w)
  obtain ⟨L, hL⟩ : ∃ L, dtL f ⟨(a1, a2), (b1, b2), (c1, c2)⟩ = L := ⟨_, rfl⟩
  obtain ⟨ok, hok⟩ : ∃ ok, dtB f ⟨(a1, a2), (b1, b2), (c1, c2)⟩ = ok := ⟨_, rfl⟩
  unfold dtL at hL
  rw [hok] at hL ⊢
  rw [show dtL f ⟨(a1, a2), (b1, b2), (c1, c2)⟩ = L from by unfold dtL; rw [hok]; exact hL]
  unfold dtB at hok
  cases hd : isDefB f.a f.b f.c with
  | false =>
    rw [hd] at hok hF
    obtain rfl : false = ok := by rw [← hok] <;> simp
    rw [if_neg (by simp)] at hL
    subst hL
    clear hd hok
    obtain ⟨a, b, c⟩ := f
    dsimp only at *
    go_enter Try.func17, Try.ntmps17
    go_wp2_with (go_at_call 65; (with_reducible refine (hF.out _).mono ?_); rintro e v1 ⟨rfl, hB1⟩; have hZ1 := hB1.size; (try simp at hZ1); have hF1 : Blk v1 (w.heap.size) 35 #[.int .i64 a, .int .i64 b, .int .i64 c] := Blk.call (by (repeat (first | with_reducible assumption | (with_reducible apply Blk.new_at; (first | rfl | (simp; done))) | with_reducible apply Blk.store2 | with_reducible apply Blk.store3 | with_reducible apply Blk.store4 | (with_reducible apply Blk.farp; (first | omega | (simp <;> omega))) | with_reducible apply Blk.allocp | with_reducible apply Blk.drew | with_reducible apply Blk.drewN))) hB1; have cF1 := hF1.cell; have fF1 := hF1.frozen; have lF1 := hF1.lt; have mF1 := Nat.ne_of_gt lF1; have nF1 := Nat.ne_of_lt lF1; have hM1 : Blk v1 (w.heap.size + 1) 39 #[.int .i64 a1, .int .i64 a2, .int .i64 b1, .int .i64 b2, .int .i64 c1, .int .i64 c2] := Blk.call (by (repeat (first | with_reducible assumption | (with_reducible apply Blk.new_at; (first | rfl | (simp; done))) | with_reducible apply Blk.store2 | with_reducible apply Blk.store3 | with_reducible apply Blk.store4 | (with_reducible apply Blk.farp; (first | omega | (simp <;> omega))) | with_reducible apply Blk.allocp | with_reducible apply Blk.drew | with_reducible apply Blk.drewN))) hB1; have cM1 := hM1.cell; have fM1 := hM1.frozen; have lM1 := hM1.lt; have mM1 := Nat.ne_of_gt lM1; have nM1 := Nat.ne_of_lt lM1)
    go_ret2
    exact ⟨_, rfl, own_base (by omega) (own_empty (Nat.le_refl _)), (by repeat (first | with_reducible exact Below.refl _ _ | with_reducible assumption | with_reducible apply Below.drew | with_reducible apply below_drewN | (with_reducible apply below_setp; (first | omega | (simp <;> omega))) | (with_reducible apply below_allocp; (first | omega | (simp <;> omega))) | (with_reducible refine below_viap (by assumption) ?_ ?_; (first | omega | (simp <;> omega)))))⟩
  | true =>
    rw [hd, Bool.true_and] at hok
    rw [hd] at hF
    have hdf := defB_def hd
    have hbd := isFm_bd (idef_form hd)
    cases hn : ndB ⟨(a1, a2), (b1, b2), (c1, c2)⟩ with
    | false =>
      rw [hn] at hok hN
      obtain rfl : false = ok := by rw [← hok] <;> simp
      rw [if_neg (by simp)] at hL
      subst hL
      clear hd hok hn hdf hbd
      obtain ⟨a, b, c⟩ := f
      dsimp only at *
      go_enter Try.func17, Try.ntmps17
      go_wp2_with (first | (go_at_call 65; (with_reducible refine (hF.out _).mono ?_); rintro e v1 ⟨rfl, hB1⟩; have hZ1 := hB1.size; (try simp at hZ1); have hF1 : Blk v1 (w.heap.size) 35 #[.int .i64 a, .int .i64 b, .int .i64 c] := Blk.call (by (repeat (first | with_reducible assumption | (with_reducible apply Blk.new_at; (first | rfl | (simp; done))) | with_reducible apply Blk.store2 | with_reducible apply Blk.store3 | with_reducible apply Blk.store4 | (with_reducible apply Blk.farp; (first | omega | (simp <;> omega))) | with_reducible apply Blk.allocp | with_reducible apply Blk.drew | with_reducible apply Blk.drewN))) hB1; have cF1 := hF1.cell; have fF1 := hF1.frozen; have lF1 := hF1.lt; have mF1 := Nat.ne_of_gt lF1; have nF1 := Nat.ne_of_lt lF1; have hM1 : Blk v1 (w.heap.size + 1) 39 #[.int .i64 a1, .int .i64 a2, .int .i64 b1, .int .i64 b2, .int .i64 c1, .int .i64 c2] := Blk.call (by (repeat (first | with_reducible assumption | (with_reducible apply Blk.new_at; (first | rfl | (simp; done))) | with_reducible apply Blk.store2 | with_reducible apply Blk.store3 | with_reducible apply Blk.store4 | (with_reducible apply Blk.farp; (first | omega | (simp <;> omega))) | with_reducible apply Blk.allocp | with_reducible apply Blk.drew | with_reducible apply Blk.drewN))) hB1; have cM1 := hM1.cell; have fM1 := hM1.frozen; have lM1 := hM1.lt; have mM1 := Nat.ne_of_gt lM1; have nM1 := Nat.ne_of_lt lM1) | (go_at_call 66; (with_reducible refine (hN.out _).mono ?_); rintro e v2 ⟨rfl, hB2⟩; have hZ2 := hB2.size; (try simp at hZ2); have hF2 : Blk v2 (w.heap.size) 35 #[.int .i64 a, .int .i64 b, .int .i64 c] := Blk.call (by (repeat (first | with_reducible assumption | (with_reducible apply Blk.new_at; (first | rfl | (simp; done))) | with_reducible apply Blk.store2 | with_reducible apply Blk.store3 | with_reducible apply Blk.store4 | (with_reducible apply Blk.farp; (first | omega | (simp <;> omega))) | with_reducible apply Blk.allocp | with_reducible apply Blk.drew | with_reducible apply Blk.drewN))) hB2; have cF2 := hF2.cell; have fF2 := hF2.frozen; have lF2 := hF2.lt; have mF2 := Nat.ne_of_gt lF2; have nF2 := Nat.ne_of_lt lF2; have hM2 : Blk v2 (w.heap.size + 1) 39 #[.int .i64 a1, .int .i64 a2, .int .i64 b1, .int .i64 b2, .int .i64 c1, .int .i64 c2] := Blk.call (by (repeat (first | with_reducible assumption | (with_reducible apply Blk.new_at; (first | rfl | (simp; done))) | with_reducible apply Blk.store2 | with_reducible apply Blk.store3 | with_reducible apply Blk.store4 | (with_reducible apply Blk.farp; (first | omega | (simp <;> omega))) | with_reducible apply Blk.allocp | with_reducible apply Blk.drew | with_reducible apply Blk.drewN))) hB2; have cM2 := hM2.cell; have fM2 := hM2.frozen; have lM2 := hM2.lt; have mM2 := Nat.ne_of_gt lM2; have nM2 := Nat.ne_of_lt lM2))
      go_ret2
      exact ⟨_, rfl, own_base (by omega) (own_empty (Nat.le_refl _)), (by repeat (first | with_reducible exact Below.refl _ _ | with_reducible assumption | with_reducible apply Below.drew | with_reducible apply below_drewN | (with_reducible apply below_setp; (first | omega | (simp <;> omega))) | (with_reducible apply below_allocp; (first | omega | (simp <;> omega))) | (with_reducible refine below_viap (by assumption) ?_ ?_; (first | omega | (simp <;> omega)))))⟩
    | true =>
      rw [hn, Bool.true_and] at hok
      rw [hn] at hN
      have hD := pthD_of hdf hn
      obtain ⟨hnm0, _⟩ := nd_yes hn
      obtain ⟨a, b, c⟩ := f
      dsimp only at *
      generalize path a b c ⟨(a1, a2), (b1, b2), (c1, c2)⟩ = T at *
      obtain ⟨ha, hb, hc⟩ := hbd
      have hlen := hD.len
      have h0T : 0 < T.length := by omega
      have hT0 := hD.first h0T
      have hok1 := Lib.hid hok
      have hL1 := Lib.hid hL
      have HD := Lib.hid hD
      have hVal := Lib.hid (fun k (hk : k < T.length) w => values_any a b c T[k].u.1 T[k].u.2 T[k].v.1 T[k].v.2 T[k].w.1 T[k].w.2 w ha hb hc (hD.num k hk).1 (hD.num k hk).2.1 (hD.num k hk).2.2)
      have hSt := Lib.hid (fun k (hk : k < T.length) w => steep_any (vF a b c (T[k].u.1, T[k].u.2)) (vF a b c (T[k].v.1, T[k].v.2)) (vF a b c (T[k].w.1, T[k].w.2)) w (at_huge ha hb hc (hD.num k hk).1.1 (hD.num k hk).1.2).2 (at_huge ha hb hc (hD.num k hk).2.1.1 (hD.num k hk).2.1.2).2 (at_huge ha hb hc (hD.num k hk).2.2.1 (hD.num k hk).2.2.2).2)
      have e9 : T[0] = ⟨(a1, a2), (b1, b2), (c1, c2)⟩ := hT0
      have hVS := Lib.hid (fun k (hk : k < T.length) x1 x2 y1 y2 z1 z2 (e : T[k] = ⟨(x1, x2), (y1, y2), (z1, z2)⟩) w => (show Calls Try.prog 68 #[.agg #[.int .i64 x1, .int .i64 x2, .int .i64 y1, .int .i64 y2, .int .i64 z1, .int .i64 z2], .agg #[.int .i64 a, .int .i64 b, .int .i64 c]] w _ from values_any a b c x1 x2 y1 y2 z1 z2 w ha hb hc (by have := (hD.num k hk).1; rw [e] at this; exact this) (by have := (hD.num k hk).2.1; rw [e] at this; exact this) (by have := (hD.num k hk).2.2; rw [e] at this; exact this)))
      have hSS := Lib.hid (fun k (hk : k < T.length) x1 x2 y1 y2 z1 z2 (e : T[k] = ⟨(x1, x2), (y1, y2), (z1, z2)⟩) w => (show Calls Try.prog 67 #[.agg #[.int .i64 (vF a b c (x1, x2)), .int .i64 (vF a b c (y1, y2)), .int .i64 (vF a b c (z1, z2))]] w (fun e' w' => e' = .returned (.int .i64 (stpN a b c T[k])) ∧ Below w.heap.size w w') from by
        rw [e]
        have n1 : bd6 x1 x2 := by have := (hD.num k hk).1; rw [e] at this; exact this
        have n2 : bd6 y1 y2 := by have := (hD.num k hk).2.1; rw [e] at this; exact this
        have n3 : bd6 z1 z2 := by have := (hD.num k hk).2.2; rw [e] at this; exact this
        exact steep_any _ _ _ w (at_huge ha hb hc n1.1 n1.2).2 (at_huge ha hb hc n2.1 n2.2).2 (at_huge ha hb hc n3.1 n3.2).2))
      have hV0 := Lib.hid (fun w => hVS.out 0 h0T a1 a2 b1 b2 c1 c2 e9 w)
      have hS0 := Lib.hid (fun w => hSS.out 0 h0T a1 a2 b1 b2 c1 c2 e9 w)
      generalize hs0 : stpN a b c T[0] = s0 at *
      have Hs0 := Lib.hid hs0
      have E9 := Lib.hid e9
      have hHT := Lib.hid h0T
      clear hd hok hn hdf ha hb hc hlen hT0 hD hnm0 hL e9 hs0
      go_enter Try.func17, Try.ntmps17
      go_wp2_with (first | (go_at_call 65; (with_reducible refine (hF.out _).mono ?_); rintro e v1 ⟨rfl, hB1⟩; have hZ1 := hB1.size; (try simp at hZ1); have hF1 : Blk v1 (w.heap.size) 35 #[.int .i64 a, .int .i64 b, .int .i64 c] := Blk.call (by (repeat (first | with_reducible assumption | (with_reducible apply Blk.new_at; (first | rfl | (simp; done))) | with_reducible apply Blk.store2 | with_reducible apply Blk.store3 | with_reducible apply Blk.store4 | (with_reducible apply Blk.farp; (first | omega | (simp <;> omega))) | with_reducible apply Blk.allocp | with_reducible apply Blk.drew | with_reducible apply Blk.drewN))) hB1; have cF1 := hF1.cell; have fF1 := hF1.frozen; have lF1 := hF1.lt; have mF1 := Nat.ne_of_gt lF1; have nF1 := Nat.ne_of_lt lF1; have hM1 : Blk v1 (w.heap.size + 1) 39 #[.int .i64 a1, .int .i64 a2, .int .i64 b1, .int .i64 b2, .int .i64 c1, .int .i64 c2] := Blk.call (by (repeat (first | with_reducible assumption | (with_reducible apply Blk.new_at; (first | rfl | (simp; done))) | with_reducible apply Blk.store2 | with_reducible apply Blk.store3 | with_reducible apply Blk.store4 | (with_reducible apply Blk.farp; (first | omega | (simp <;> omega))) | with_reducible apply Blk.allocp | with_reducible apply Blk.drew | with_reducible apply Blk.drewN))) hB1; have cM1 := hM1.cell; have fM1 := hM1.frozen; have lM1 := hM1.lt; have mM1 := Nat.ne_of_gt lM1; have nM1 := Nat.ne_of_lt lM1) | (go_at_call 66; (with_reducible refine (hN.out _).mono ?_); rintro e v2 ⟨rfl, hB2⟩; have hZ2 := hB2.size; (try simp at hZ2); have hF2 : Blk v2 (w.heap.size) 35 #[.int .i64 a, .int .i64 b, .int .i64 c] := Blk.call (by (repeat (first | with_reducible assumption | (with_reducible apply Blk.new_at; (first | rfl | (simp; done))) | with_reducible apply Blk.store2 | with_reducible apply Blk.store3 | with_reducible apply Blk.store4 | (with_reducible apply Blk.farp; (first | omega | (simp <;> omega))) | with_reducible apply Blk.allocp | with_reducible apply Blk.drew | with_reducible apply Blk.drewN))) hB2; have cF2 := hF2.cell; have fF2 := hF2.frozen; have lF2 := hF2.lt; have mF2 := Nat.ne_of_gt lF2; have nF2 := Nat.ne_of_lt lF2; have hM2 : Blk v2 (w.heap.size + 1) 39 #[.int .i64 a1, .int .i64 a2, .int .i64 b1, .int .i64 b2, .int .i64 c1, .int .i64 c2] := Blk.call (by (repeat (first | with_reducible assumption | (with_reducible apply Blk.new_at; (first | rfl | (simp; done))) | with_reducible apply Blk.store2 | with_reducible apply Blk.store3 | with_reducible apply Blk.store4 | (with_reducible apply Blk.farp; (first | omega | (simp <;> omega))) | with_reducible apply Blk.allocp | with_reducible apply Blk.drew | with_reducible apply Blk.drewN))) hB2; have cM2 := hM2.cell; have fM2 := hM2.frozen; have lM2 := hM2.lt; have mM2 := Nat.ne_of_gt lM2; have nM2 := Nat.ne_of_lt lM2) | (go_at_call 68; (with_reducible refine (hV0.out _).mono ?_); rintro e v3 ⟨rfl, hB3⟩; have hZ3 := hB3.size; (try simp at hZ3); have hF3 : Blk v3 (w.heap.size) 35 #[.int .i64 a, .int .i64 b, .int .i64 c] := Blk.call (by (repeat (first | with_reducible assumption | (with_reducible apply Blk.new_at; (first | rfl | (simp; done))) | with_reducible apply Blk.store2 | with_reducible apply Blk.store3 | with_reducible apply Blk.store4 | (with_reducible apply Blk.farp; (first | omega | (simp <;> omega))) | with_reducible apply Blk.allocp | with_reducible apply Blk.drew | with_reducible apply Blk.drewN))) hB3; have cF3 := hF3.cell; have fF3 := hF3.frozen; have lF3 := hF3.lt; have mF3 := Nat.ne_of_gt lF3; have nF3 := Nat.ne_of_lt lF3; have hM3 : Blk v3 (w.heap.size + 1) 39 #[.int .i64 a1, .int .i64 a2, .int .i64 b1, .int .i64 b2, .int .i64 c1, .int .i64 c2] := Blk.call (by (repeat (first | with_reducible assumption | (with_reducible apply Blk.new_at; (first | rfl | (simp; done))) | with_reducible apply Blk.store2 | with_reducible apply Blk.store3 | with_reducible apply Blk.store4 | (with_reducible apply Blk.farp; (first | omega | (simp <;> omega))) | with_reducible apply Blk.allocp | with_reducible apply Blk.drew | with_reducible apply Blk.drewN))) hB3; have cM3 := hM3.cell; have fM3 := hM3.frozen; have lM3 := hM3.lt; have mM3 := Nat.ne_of_gt lM3; have nM3 := Nat.ne_of_lt lM3) | (go_at_call 67; (with_reducible refine (hS0.out _).mono ?_); rintro e v4 ⟨rfl, hB4⟩; have hZ4 := hB4.size; (try simp at hZ4); have hF4 : Blk v4 (w.heap.size) 35 #[.int .i64 a, .int .i64 b, .int .i64 c] := Blk.call (by (repeat (first | with_reducible assumption | (with_reducible apply Blk.new_at; (first | rfl | (simp; done))) | with_reducible apply Blk.store2 | with_reducible apply Blk.store3 | with_reducible apply Blk.store4 | (with_reducible apply Blk.farp; (first | omega | (simp <;> omega))) | with_reducible apply Blk.allocp | with_reducible apply Blk.drew | with_reducible apply Blk.drewN))) hB4; have cF4 := hF4.cell; have fF4 := hF4.frozen; have lF4 := hF4.lt; have mF4 := Nat.ne_of_gt lF4; have nF4 := Nat.ne_of_lt lF4; have hM4 : Blk v4 (w.heap.size + 1) 39 #[.int .i64 a1, .int .i64 a2, .int .i64 b1, .int .i64 b2, .int .i64 c1, .int .i64 c2] := Blk.call (by (repeat (first | with_reducible assumption | (with_reducible apply Blk.new_at; (first | rfl | (simp; done))) | with_reducible apply Blk.store2 | with_reducible apply Blk.store3 | with_reducible apply Blk.store4 | (with_reducible apply Blk.farp; (first | omega | (simp <;> omega))) | with_reducible apply Blk.allocp | with_reducible apply Blk.drew | with_reducible apply Blk.drewN))) hB4; have cM4 := hM4.cell; have fM4 := hM4.frozen; have lM4 := hM4.lt; have mM4 := Nat.ne_of_gt lM4; have nM4 := Nat.ne_of_lt lM4))
      have hown0 : v4.ownsRow (w.heap.size + 1 + 1) 39 6 (.slice (some ⟨v2.heap.size, 0, none⟩) 1 1) 1 [.int .i64 a1, .int .i64 a2, .int .i64 b1, .int .i64 b2, .int .i64 c1, .int .i64 c2] := own_base (by omega) (own_call hB4 <| own_call hB3 <| (own_blk6 (Blk.new_at (by simp))))
      have hb4 : Below w.heap.size w v4 := (by repeat (first | with_reducible exact Below.refl _ _ | with_reducible assumption | with_reducible apply Below.drew | with_reducible apply below_drewN | (with_reducible apply below_setp; (first | omega | (simp <;> omega))) | (with_reducible apply below_allocp; (first | omega | (simp <;> omega))) | (with_reducible refine below_viap (by assumption) ?_ ?_; (first | omega | (simp <;> omega)))))
      clear hF hN hF1 cF1 fF1 lF1 mF1 nF1 hM1 cM1 fM1 lM1 mM1 nM1 hF2 cF2 fF2 lF2 mF2 nF2 hM2 cM2 fM2 lM2 mM2 nM2 hF3 cF3 fF3 lF3 mF3 nF3 hM3 cM3 fM3 lM3 mM3 nM3
      go_loopw [6, 7] (fun vl vi wr => DtSt a b c T w vl vi wr) (fun vl _ _ => 1001 - lnN vl)
      case atStart => exact ⟨0, hHT.out, by omega, by rw [Hs0.out], hF4, by rw [E9.out]; exact hM4, by rw [List.take_succ_eq_append_getElem hHT.out, E9.out]; exact hown0, hb4⟩
      case round =>
        clear hown0 hb4 hF4 cF4 fF4 lF4 mF4 nF4 hM4 cM4 fM4 lM4 mM4 nM4 hS0 hB1 hZ1 hB2 hZ2 hB4 hZ4 hV0 hB3 hZ3
        obtain ⟨k, hk, hk1, rfl, hF, hM, hown, hbel⟩ := hrel
        have hz := hbel.size
        have hlen : (T.take (k + 1)).length = k + 1 := by rw [List.length_take]; omega
        rw [hlen] at hown
        obtain ⟨lb, lc, rfl⟩ := own_shape hown
        have hge := Lib.hid (own_ge hown)
        obtain ⟨⟨⟨a1', a2'⟩, ⟨b1', b2'⟩, ⟨c1', c2'⟩⟩, hm⟩ : ∃ m, T[k] = m := ⟨_, rfl⟩
        rw [hm] at hM
        dsimp only at hM
        have cF := hF.cell; have fF := hF.frozen; have lF := hF.lt; have nF := Nat.ne_of_lt lF; have mF := Nat.ne_of_gt lF
        have cM := hM.cell; have fM := hM.frozen; have lM := hM.lt; have nM := Nat.ne_of_lt lM; have mM := Nat.ne_of_gt lM
        have hk2 : k < 1000 := by omega
        by_cases h0 : stpN a b c T[k] = 0
        · have hl := HD.out.last k hk h0
          rw [h0]
          rw [List.take_of_length_le (by omega)] at hown
          obtain rfl : true = ok := by rw [← hok1.out]; exact (decide_eq_true (by omega)).symm
          have hTL : T = L := hL1.out
          have hown2 := own_base (show w.heap.size ≤ w.heap.size + 1 + 1 by omega) hown
          rw [hTL, show k + 1 = L.length by rw [← hTL]; exact hl] at hown2
          have Ho := Lib.hid hown2
          have hkl : k + 1 = L.length := by rw [← hTL]; exact hl
          clear hown2 hown hTL h0 hl
          rw [hkl]
          clear hkl hlen hk1 hk2 hm
          go_wp2
          go_ret2
          exact ⟨_, rfl, Ho.out, hbel⟩
        · obtain ⟨h', p1, p2, q1, q2, o1, o2, r1, r2, hSD⟩ := HD.out.more k hk h0
          obtain ⟨⟨⟨s1, s2⟩, ⟨t1, t2⟩, ⟨u1, u2⟩⟩, hm2⟩ : ∃ m, T[k + 1] = m := ⟨_, rfl⟩
          have hHS := Lib.hid (fun w => hSS.out (k + 1) h' s1 s2 t1 t2 u1 u2 hm2 w)
          have hHV := Lib.hid (fun w => hVS.out (k + 1) h' s1 s2 t1 t2 u1 u2 hm2 w)
          generalize hs2 : stpN a b c T[k + 1] = sn at *
          rw [hm, hm2] at hSD
          rw [hm] at h0 ⊢
          have hHst := Lib.hid (fun w => implStep_any (stpN a b c ⟨(a1', a2'), (b1', b2'), (c1', c2')⟩) a1' a2' b1' b2' c1' c2' s1 s2 t1 t2 u1 u2 p1 p2 q1 q2 o1 o2 r1 r2 w hSD)
          generalize stpN a b c ⟨(a1', a2'), (b1', b2'), (c1', c2')⟩ = sk at *
          have htk := Lib.hid (show T.take (k + 1 + 1) = T.take (k + 1) ++ [⟨(s1, s2), (t1, t2), (u1, u2)⟩] by rw [List.take_succ_eq_append_getElem h', hm2])
          have Hs2 := Lib.hid hs2
          have Hm2 := Lib.hid hm2
          have H' := Lib.hid h'
          have Hlen := Lib.hid hlen
          have e1 : ((sk : Int) == 0) = false := beq_eq_false_iff_ne.2 (by omega)
          have e1b : ((sk : Int) != 0) = true := by rw [bne, e1]; rfl
          have e2 : (0 : Int) < (sk : Int) := by omega
          generalize T.take (k + 1) = K at *
          clear h0 hSD hs2 hm2 hm hlen hSS hVS
          have hne := Lib.hid (fun q (hq : (Value.slice lb (k + 1) lc).ownBlock = some q) => (show q ≠ w.heap.size + 1 from by have := hge.out q hq; omega))
          by_cases hth : k + 1 = 1000
          · have e3 : (((k : Int) + 1) == 1000) = true := by rw [beq_iff_eq]; omega
            obtain rfl : false = ok := by rw [← hok1.out]; exact (decide_eq_false (by have := H'.out; omega)).symm
            have hLn : [] = L := hL1.out
            subst hLn
            clear hth
            go_wp2_with fail
            refine (hHst.out _).mono ?_
            rintro e v1 ⟨rfl, hB1⟩
            have hZ1 := hB1.size
            (try simp at hZ1)
            have hF1 : Blk v1 (w.heap.size) 35 #[.int .i64 a, .int .i64 b, .int .i64 c] := Blk.call (by (repeat (first | with_reducible assumption | (with_reducible apply Blk.new_at; (first | rfl | (simp; done))) | with_reducible apply Blk.store2 | with_reducible apply Blk.store3 | with_reducible apply Blk.store4 | (with_reducible apply Blk.farp; (first | omega | (simp <;> omega))) | with_reducible apply Blk.allocp | with_reducible apply Blk.drew | with_reducible apply Blk.drewN))) hB1
            have cF1 := hF1.cell; have fF1 := hF1.frozen; have lF1 := hF1.lt; have mF1 := Nat.ne_of_gt lF1; have nF1 := Nat.ne_of_lt lF1
            have hM1 : Blk v1 (w.heap.size + 1) 39 #[.int .i64 a1', .int .i64 a2', .int .i64 b1', .int .i64 b2', .int .i64 c1', .int .i64 c2'] := Blk.call (by (repeat (first | with_reducible assumption | (with_reducible apply Blk.new_at; (first | rfl | (simp; done))) | with_reducible apply Blk.store2 | with_reducible apply Blk.store3 | with_reducible apply Blk.store4 | (with_reducible apply Blk.farp; (first | omega | (simp <;> omega))) | with_reducible apply Blk.allocp | with_reducible apply Blk.drew | with_reducible apply Blk.drewN))) hB1
            have cM1 := hM1.cell; have fM1 := hM1.frozen; have lM1 := hM1.lt; have mM1 := Nat.ne_of_gt lM1; have nM1 := Nat.ne_of_lt lM1
            go_wp2
            go_ret2
            exact ⟨_, rfl, own_emptyN (by simp) (by simp; omega), (by repeat (first | with_reducible exact Below.refl _ _ | with_reducible assumption | with_reducible apply Below.drew | with_reducible apply below_drewN | (with_reducible apply below_setp; (first | omega | (simp <;> omega))) | (with_reducible apply below_allocp; (first | omega | (simp <;> omega))) | (with_reducible refine below_viap (by assumption) ?_ ?_; (first | omega | (simp <;> omega)))))⟩
          · have e3 : (((k : Int) + 1) == 1000) = false := beq_eq_false_iff_ne.2 (by omega)
            have hk3 : k + 1 < 1000 := by omega
            clear hth
            go_wp2_with fail
            refine (hHst.out _).mono ?_
            rintro e v1 ⟨rfl, hB1⟩
            have hZ1 := hB1.size
            (try simp at hZ1)
            have hF1 : Blk v1 (w.heap.size) 35 #[.int .i64 a, .int .i64 b, .int .i64 c] := Blk.call (by (repeat (first | with_reducible assumption | (with_reducible apply Blk.new_at; (first | rfl | (simp; done))) | with_reducible apply Blk.store2 | with_reducible apply Blk.store3 | with_reducible apply Blk.store4 | (with_reducible apply Blk.farp; (first | omega | (simp <;> omega))) | with_reducible apply Blk.allocp | with_reducible apply Blk.drew | with_reducible apply Blk.drewN))) hB1
            have cF1 := hF1.cell; have fF1 := hF1.frozen; have lF1 := hF1.lt; have mF1 := Nat.ne_of_gt lF1; have nF1 := Nat.ne_of_lt lF1
            have hM1 : Blk v1 (w.heap.size + 1) 39 #[.int .i64 a1', .int .i64 a2', .int .i64 b1', .int .i64 b2', .int .i64 c1', .int .i64 c2'] := Blk.call (by (repeat (first | with_reducible assumption | (with_reducible apply Blk.new_at; (first | rfl | (simp; done))) | with_reducible apply Blk.store2 | with_reducible apply Blk.store3 | with_reducible apply Blk.store4 | (with_reducible apply Blk.farp; (first | omega | (simp <;> omega))) | with_reducible apply Blk.allocp | with_reducible apply Blk.drew | with_reducible apply Blk.drewN))) hB1
            have cM1 := hM1.cell; have fM1 := hM1.frozen; have lM1 := hM1.lt; have mM1 := Nat.ne_of_gt lM1; have nM1 := Nat.ne_of_lt lM1
            go_upto_region 11 with (fail)
            obtain ⟨v8, hv8⟩ : ∃ v, v = ((((((((v1).setCell ⟨w.heap.size + 1, 0, none⟩ (.int .i64 s1)).setCell ⟨w.heap.size + 1, 1, none⟩ (.int .i64 s2)).setCell ⟨w.heap.size + 1, 2, none⟩ (.int .i64 t1)).setCell ⟨w.heap.size + 1, 3, none⟩ (.int .i64 t2)).setCell ⟨w.heap.size + 1, 4, none⟩ (.int .i64 u1)).setCell ⟨w.heap.size + 1, 5, none⟩ (.int .i64 u2)).alloc (.cells #[.int .i64 s1, .int .i64 s2, .int .i64 t1, .int .i64 t2, .int .i64 u1, .int .i64 u2] 39)) := ⟨_, rfl⟩
            have hown8 : v8.ownsRow (w.heap.size + 1 + 1) 39 6 (.slice lb (k + 1) lc) (k + 1) (cellsN K) := hv8 ▸ (own_alloc (own_nqv hne.out (own_nqv hne.out (own_nqv hne.out (own_nqv hne.out (own_nqv hne.out (own_nqv hne.out (own_call hB1 hown))))))))
            have hF8 : Blk v8 w.heap.size 35 #[.int .i64 a, .int .i64 b, .int .i64 c] := by rw [hv8]; (repeat (first | with_reducible assumption | with_reducible apply Blk.store3 | with_reducible apply Blk.store4 | (with_reducible apply Blk.farp; (first | omega | (simp <;> omega))) | with_reducible apply Blk.allocp | with_reducible apply Blk.drew | with_reducible apply Blk.drewN))
            have hM8 : Blk v8 (w.heap.size + 1) 39 #[.int .i64 s1, .int .i64 s2, .int .i64 t1, .int .i64 t2, .int .i64 u1, .int .i64 u2] := by rw [hv8]; exact Blk.allocp (Blk.store6 hM1)
            have hb8 : Below w.heap.size w v8 := by rw [hv8]; exact (by repeat (first | with_reducible exact Below.refl _ _ | with_reducible assumption | with_reducible apply Below.drew | with_reducible apply below_drewN | (with_reducible apply below_setp; (first | omega | (simp <;> omega))) | (with_reducible apply below_allocp; (first | omega | (simp <;> omega))) | (with_reducible refine below_viap (by assumption) ?_ ?_; (first | omega | (simp <;> omega)))))
            rw [← hv8]
            clear hv8 hF1 cF1 fF1 lF1 mF1 nF1 hM1 cM1 fM1 lM1 mM1 nM1 hB1 hZ1 hF cF fF lF mF nF hM cM fM lM mM nM hown hbel hz
            have hZ8 := hb8.size
            have cF8 := hF8.cell; have fF8 := hF8.frozen; have lF8 := hF8.lt; have mF8 := Nat.ne_of_gt lF8; have nF8 := Nat.ne_of_lt lF8
            have cM8 := hM8.cell; have fM8 := hM8.frozen; have lM8 := hM8.lt; have mM8 := Nat.ne_of_gt lM8; have nM8 := Nat.ne_of_lt lM8
            go_wp2_with (first | (at_builtin; refine wpList_append_own _ rfl (.tmp 46) (.tmp 48) 42 rfl (w.heap.size + 1 + 1) 39 i0 _ 6 48 Try.underlying42 hi0 hz0 hz1 hz2 rfl (by decide) (.slice lb (k + 1) lc) (k + 1) (cellsN K) rfl ?_ ⟨v8.heap.size, 0, none⟩ 1 1 [.int .i64 s1, .int .i64 s2, .int .i64 t1, .int .i64 t2, .int .i64 u1, .int .i64 u2] rfl rfl ?_ (one6 _ _ _ _ _ _) ?_ ?_ ?_ ?_; exact own_alloc hown8; exact cells6 (Blk.new_at (by simp)); (unfold maxLen; omega); omega; (simp; omega); intro vn v5 hown5 hg5 _; obtain ⟨xb, xc, rfl⟩ := own_shape hown5; have hgs := hg5.size; (try simp at hgs); have hF5 : Blk v5 w.heap.size 35 #[.int .i64 a, .int .i64 b, .int .i64 c] := Blk.grown (Blk.allocp hF8) hg5 (fun e => by have := hge.out _ e.symm; omega); have cF5 := hF5.cell; have lF5 := hF5.lt; have nF5 := Nat.ne_of_lt lF5; have mF5 := Nat.ne_of_gt lF5; have hM5 : Blk v5 (w.heap.size + 1) 39 #[.int .i64 s1, .int .i64 s2, .int .i64 t1, .int .i64 t2, .int .i64 u1, .int .i64 u2] := Blk.grown (Blk.allocp hM8) hg5 (fun e => by have := hge.out _ e.symm; omega); have cM5 := hM5.cell; have lM5 := hM5.lt; have nM5 := Nat.ne_of_lt lM5; have mM5 := Nat.ne_of_gt lM5; have hb5 : Below w.heap.size w v5 := Below.grown ((by repeat (first | with_reducible exact Below.refl _ _ | with_reducible assumption | with_reducible apply Below.drew | with_reducible apply below_drewN | (with_reducible apply below_setp; (first | omega | (simp <;> omega))) | (with_reducible apply below_allocp; (first | omega | (simp <;> omega))) | (with_reducible refine below_viap (by assumption) ?_ ?_; (first | omega | (simp <;> omega)))))) hg5 (by simp <;> omega) (fun q hq => by have := hge.out q hq; omega)) | (go_at_call 68; (with_reducible refine (hHV.out _).mono ?_); rintro e v6 ⟨rfl, hB6⟩; have hZ6 := hB6.size; (try simp at hZ6); have hF6 : Blk v6 (w.heap.size) 35 #[.int .i64 a, .int .i64 b, .int .i64 c] := Blk.call (by (repeat (first | with_reducible assumption | (with_reducible apply Blk.new_at; (first | rfl | (simp; done))) | with_reducible apply Blk.store2 | with_reducible apply Blk.store3 | with_reducible apply Blk.store4 | (with_reducible apply Blk.farp; (first | omega | (simp <;> omega))) | with_reducible apply Blk.allocp | with_reducible apply Blk.drew | with_reducible apply Blk.drewN))) hB6; have cF6 := hF6.cell; have fF6 := hF6.frozen; have lF6 := hF6.lt; have mF6 := Nat.ne_of_gt lF6; have nF6 := Nat.ne_of_lt lF6; have hM6 : Blk v6 (w.heap.size + 1) 39 #[.int .i64 s1, .int .i64 s2, .int .i64 t1, .int .i64 t2, .int .i64 u1, .int .i64 u2] := Blk.call (by (repeat (first | with_reducible assumption | (with_reducible apply Blk.new_at; (first | rfl | (simp; done))) | with_reducible apply Blk.store2 | with_reducible apply Blk.store3 | with_reducible apply Blk.store4 | (with_reducible apply Blk.farp; (first | omega | (simp <;> omega))) | with_reducible apply Blk.allocp | with_reducible apply Blk.drew | with_reducible apply Blk.drewN))) hB6; have cM6 := hM6.cell; have fM6 := hM6.frozen; have lM6 := hM6.lt; have mM6 := Nat.ne_of_gt lM6; have nM6 := Nat.ne_of_lt lM6) | (go_at_call 67; (with_reducible refine (hHS.out _).mono ?_); rintro e v7 ⟨rfl, hB7⟩; have hZ7 := hB7.size; (try simp at hZ7); have hF7 : Blk v7 (w.heap.size) 35 #[.int .i64 a, .int .i64 b, .int .i64 c] := Blk.call (by (repeat (first | with_reducible assumption | (with_reducible apply Blk.new_at; (first | rfl | (simp; done))) | with_reducible apply Blk.store2 | with_reducible apply Blk.store3 | with_reducible apply Blk.store4 | (with_reducible apply Blk.farp; (first | omega | (simp <;> omega))) | with_reducible apply Blk.allocp | with_reducible apply Blk.drew | with_reducible apply Blk.drewN))) hB7; have cF7 := hF7.cell; have fF7 := hF7.frozen; have lF7 := hF7.lt; have mF7 := Nat.ne_of_gt lF7; have nF7 := Nat.ne_of_lt lF7; have hM7 : Blk v7 (w.heap.size + 1) 39 #[.int .i64 s1, .int .i64 s2, .int .i64 t1, .int .i64 t2, .int .i64 u1, .int .i64 u2] := Blk.call (by (repeat (first | with_reducible assumption | (with_reducible apply Blk.new_at; (first | rfl | (simp; done))) | with_reducible apply Blk.store2 | with_reducible apply Blk.store3 | with_reducible apply Blk.store4 | (with_reducible apply Blk.farp; (first | omega | (simp <;> omega))) | with_reducible apply Blk.allocp | with_reducible apply Blk.drew | with_reducible apply Blk.drewN))) hB7; have cM7 := hM7.cell; have fM7 := hM7.frozen; have lM7 := hM7.lt; have mM7 := Nat.ne_of_gt lM7; have nM7 := Nat.ne_of_lt lM7))
            have hown9 := own_snocN htk.out (by rw [Hlen.out]; exact hown5)
            have hown10 := own_call hB7 (own_call hB6 hown9)
            have hbN : Below w.heap.size w v7 := (by repeat (first | with_reducible exact Below.refl _ _ | with_reducible assumption | with_reducible apply Below.drew | with_reducible apply below_drewN | (with_reducible apply below_setp; (first | omega | (simp <;> omega))) | (with_reducible apply below_allocp; (first | omega | (simp <;> omega))) | (with_reducible refine below_viap (by assumption) ?_ ?_; (first | omega | (simp <;> omega)))))
            have hl9 : (T.take (k + 1 + 1)).length = k + 1 + 1 := by rw [htk.out, List.length_append, Hlen.out]; rfl
            go_roundw
            case rel => exact ⟨k + 1, H'.out, by omega, by rw [Hs2.out], hF7, by rw [Hm2.out]; exact hM7, by rw [hl9] at hown10 ⊢; exact hown10, hbN⟩
            case measure => simp [lnN] <;> omega
end

section
open Go.RowKit

set_option maxRecDepth 100000 in
set_option maxHeartbeats 12800000 in
theorem specDT_any (f : Fm) (a1 a2 b1 b2 c1 c2 : Int) (w : World) :
    Calls Try.prog 18 #[.agg #[.int .i64 f.a, .int .i64 f.b, .int .i64 f.c], .agg #[.int .i64 a1, .int .i64 a2, .int .i64 b1, .int .i64 b2, .int .i64 c1, .int .i64 c2]] w (RetNb (dtL f ⟨(a1, a2), (b1, b2), (c1, c2)⟩) (dtB f ⟨(a1, a2), (b1, b2), (c1, c2)⟩) w) := by
  obtain ⟨i0, hi0, hz0, hz1, hz2⟩ := info_parts infoNd
  have hF := Lib.hid (fun w => sisDef_any f.a f.b f.c w)
  have hN := Lib.hid (fun w => tpGood_any a1 a2 b1 b2 c1 c2 w)
  obtain ⟨L, hL⟩ : ∃ L, dtL f ⟨(a1, a2), (b1, b2), (c1, c2)⟩ = L := ⟨_, rfl⟩
  obtain ⟨ok, hok⟩ : ∃ ok, dtB f ⟨(a1, a2), (b1, b2), (c1, c2)⟩ = ok := ⟨_, rfl⟩
  unfold dtL at hL
  rw [hok] at hL ⊢
  rw [show dtL f ⟨(a1, a2), (b1, b2), (c1, c2)⟩ = L from by unfold dtL; rw [hok]; exact hL]
  unfold dtB at hok
  cases hd : isDefB f.a f.b f.c with
  | false =>
    rw [hd] at hok hF
    obtain rfl : false = ok := by rw [← hok] <;> simp
    rw [if_neg (by simp)] at hL
    subst hL
    clear hd hok
    obtain ⟨a, b, c⟩ := f
    dsimp only at *
    go_enter Try.func18, Try.ntmps18
    go_wp2_with (go_at_call 70; (with_reducible refine (hF.out _).mono ?_); rintro e v1 ⟨rfl, hB1⟩; have hZ1 := hB1.size; (try simp at hZ1); have hF1 : Blk v1 (w.heap.size) 35 #[.int .i64 a, .int .i64 b, .int .i64 c] := Blk.call (by (repeat (first | with_reducible assumption | (with_reducible apply Blk.new_at; (first | rfl | (simp; done))) | with_reducible apply Blk.store2 | with_reducible apply Blk.store3 | with_reducible apply Blk.store4 | (with_reducible apply Blk.farp; (first | omega | (simp <;> omega))) | with_reducible apply Blk.allocp | with_reducible apply Blk.drew | with_reducible apply Blk.drewN))) hB1; have cF1 := hF1.cell; have fF1 := hF1.frozen; have lF1 := hF1.lt; have mF1 := Nat.ne_of_gt lF1; have nF1 := Nat.ne_of_lt lF1; have hM1 : Blk v1 (w.heap.size + 1) 39 #[.int .i64 a1, .int .i64 a2, .int .i64 b1, .int .i64 b2, .int .i64 c1, .int .i64 c2] := Blk.call (by (repeat (first | with_reducible assumption | (with_reducible apply Blk.new_at; (first | rfl | (simp; done))) | with_reducible apply Blk.store2 | with_reducible apply Blk.store3 | with_reducible apply Blk.store4 | (with_reducible apply Blk.farp; (first | omega | (simp <;> omega))) | with_reducible apply Blk.allocp | with_reducible apply Blk.drew | with_reducible apply Blk.drewN))) hB1; have cM1 := hM1.cell; have fM1 := hM1.frozen; have lM1 := hM1.lt; have mM1 := Nat.ne_of_gt lM1; have nM1 := Nat.ne_of_lt lM1)
    go_ret2
    exact ⟨_, rfl, World.ownsRow_nil _ _ _ _, (by repeat (first | with_reducible exact Below.refl _ _ | with_reducible assumption | with_reducible apply Below.drew | with_reducible apply below_drewN | (with_reducible apply below_setp; (first | omega | (simp <;> omega))) | (with_reducible apply below_allocp; (first | omega | (simp <;> omega))) | (with_reducible refine below_viap (by assumption) ?_ ?_; (first | omega | (simp <;> omega)))))⟩
  | true =>
    rw [hd, Bool.true_and] at hok
    rw [hd] at hF
    have hdf := defB_def hd
    have hbd := isFm_bd (idef_form hd)
    cases hn : ndB ⟨(a1, a2), (b1, b2), (c1, c2)⟩ with
    | false =>
      rw [hn] at hok hN
      obtain rfl : false = ok := by rw [← hok] <;> simp
      rw [if_neg (by simp)] at hL
      subst hL
      clear hd hok hn hdf hbd
      obtain ⟨a, b, c⟩ := f
      dsimp only at *
      go_enter Try.func18, Try.ntmps18
      go_wp2_with (first | (go_at_call 70; (with_reducible refine (hF.out _).mono ?_); rintro e v1 ⟨rfl, hB1⟩; have hZ1 := hB1.size; (try simp at hZ1); have hF1 : Blk v1 (w.heap.size) 35 #[.int .i64 a, .int .i64 b, .int .i64 c] := Blk.call (by (repeat (first | with_reducible assumption | (with_reducible apply Blk.new_at; (first | rfl | (simp; done))) | with_reducible apply Blk.store2 | with_reducible apply Blk.store3 | with_reducible apply Blk.store4 | (with_reducible apply Blk.farp; (first | omega | (simp <;> omega))) | with_reducible apply Blk.allocp | with_reducible apply Blk.drew | with_reducible apply Blk.drewN))) hB1; have cF1 := hF1.cell; have fF1 := hF1.frozen; have lF1 := hF1.lt; have mF1 := Nat.ne_of_gt lF1; have nF1 := Nat.ne_of_lt lF1; have hM1 : Blk v1 (w.heap.size + 1) 39 #[.int .i64 a1, .int .i64 a2, .int .i64 b1, .int .i64 b2, .int .i64 c1, .int .i64 c2] := Blk.call (by (repeat (first | with_reducible assumption | (with_reducible apply Blk.new_at; (first | rfl | (simp; done))) | with_reducible apply Blk.store2 | with_reducible apply Blk.store3 | with_reducible apply Blk.store4 | (with_reducible apply Blk.farp; (first | omega | (simp <;> omega))) | with_reducible apply Blk.allocp | with_reducible apply Blk.drew | with_reducible apply Blk.drewN))) hB1; have cM1 := hM1.cell; have fM1 := hM1.frozen; have lM1 := hM1.lt; have mM1 := Nat.ne_of_gt lM1; have nM1 := Nat.ne_of_lt lM1) | (go_at_call 71; (with_reducible refine (hN.out _).mono ?_); rintro e v2 ⟨rfl, hB2⟩; have hZ2 := hB2.size; (try simp at hZ2); have hF2 : Blk v2 (w.heap.size) 35 #[.int .i64 a, .int .i64 b, .int .i64 c] := Blk.call (by (repeat (first | with_reducible assumption | (with_reducible apply Blk.new_at; (first | rfl | (simp; done))) | with_reducible apply Blk.store2 | with_reducible apply Blk.store3 | with_reducible apply Blk.store4 | (with_reducible apply Blk.farp; (first | omega | (simp <;> omega))) | with_reducible apply Blk.allocp | with_reducible apply Blk.drew | with_reducible apply Blk.drewN))) hB2; have cF2 := hF2.cell; have fF2 := hF2.frozen; have lF2 := hF2.lt; have mF2 := Nat.ne_of_gt lF2; have nF2 := Nat.ne_of_lt lF2; have hM2 : Blk v2 (w.heap.size + 1) 39 #[.int .i64 a1, .int .i64 a2, .int .i64 b1, .int .i64 b2, .int .i64 c1, .int .i64 c2] := Blk.call (by (repeat (first | with_reducible assumption | (with_reducible apply Blk.new_at; (first | rfl | (simp; done))) | with_reducible apply Blk.store2 | with_reducible apply Blk.store3 | with_reducible apply Blk.store4 | (with_reducible apply Blk.farp; (first | omega | (simp <;> omega))) | with_reducible apply Blk.allocp | with_reducible apply Blk.drew | with_reducible apply Blk.drewN))) hB2; have cM2 := hM2.cell; have fM2 := hM2.frozen; have lM2 := hM2.lt; have mM2 := Nat.ne_of_gt lM2; have nM2 := Nat.ne_of_lt lM2))
      go_ret2
      exact ⟨_, rfl, World.ownsRow_nil _ _ _ _, (by repeat (first | with_reducible exact Below.refl _ _ | with_reducible assumption | with_reducible apply Below.drew | with_reducible apply below_drewN | (with_reducible apply below_setp; (first | omega | (simp <;> omega))) | (with_reducible apply below_allocp; (first | omega | (simp <;> omega))) | (with_reducible refine below_viap (by assumption) ?_ ?_; (first | omega | (simp <;> omega)))))⟩
    | true =>
      rw [hn, Bool.true_and] at hok
      rw [hn] at hN
      have hD := pthD_of hdf hn
      obtain ⟨hnm0, _⟩ := nd_yes hn
      obtain ⟨a, b, c⟩ := f
      dsimp only at *
      generalize path a b c ⟨(a1, a2), (b1, b2), (c1, c2)⟩ = T at *
      obtain ⟨ha, hb, hc⟩ := hbd
      have hlen := hD.len
      have h0T : 0 < T.length := by omega
      have hT0 := hD.first h0T
      have hok1 := Lib.hid hok
      have hL1 := Lib.hid hL
      have HD := Lib.hid hD
      have hSt := Lib.hid (fun k (hk : k < T.length) w => tpFall_any a b c T[k].u.1 T[k].u.2 T[k].v.1 T[k].v.2 T[k].w.1 T[k].w.2 w ha hb hc (hD.num k hk).1 (hD.num k hk).2.1 (hD.num k hk).2.2)
      have e9 : T[0] = ⟨(a1, a2), (b1, b2), (c1, c2)⟩ := hT0
      have hSS := Lib.hid (fun k (hk : k < T.length) x1 x2 y1 y2 z1 z2 (e : T[k] = ⟨(x1, x2), (y1, y2), (z1, z2)⟩) w => (show Calls Try.prog 72 #[.agg #[.int .i64 a, .int .i64 b, .int .i64 c], .agg #[.int .i64 x1, .int .i64 x2, .int .i64 y1, .int .i64 y2, .int .i64 z1, .int .i64 z2]] w (fun e' w' => e' = .returned (.int .i64 (stpN a b c T[k])) ∧ Below w.heap.size w w') from by
        rw [e]
        exact tpFall_any a b c x1 x2 y1 y2 z1 z2 w ha hb hc (by have := (hD.num k hk).1; rw [e] at this; exact this) (by have := (hD.num k hk).2.1; rw [e] at this; exact this) (by have := (hD.num k hk).2.2; rw [e] at this; exact this)))
      have hS0 := Lib.hid (fun w => hSS.out 0 h0T a1 a2 b1 b2 c1 c2 e9 w)
      generalize hs0 : stpN a b c T[0] = s0 at *
      have Hs0 := Lib.hid hs0
      have E9 := Lib.hid e9
      have hHT := Lib.hid h0T
      clear hd hok hn hdf ha hb hc hlen hT0 hD hnm0 hL e9 hs0
      go_enter Try.func18, Try.ntmps18
      go_wp2_with (first | (go_at_call 70; (with_reducible refine (hF.out _).mono ?_); rintro e v1 ⟨rfl, hB1⟩; have hZ1 := hB1.size; (try simp at hZ1); have hF1 : Blk v1 (w.heap.size) 35 #[.int .i64 a, .int .i64 b, .int .i64 c] := Blk.call (by (repeat (first | with_reducible assumption | (with_reducible apply Blk.new_at; (first | rfl | (simp; done))) | with_reducible apply Blk.store2 | with_reducible apply Blk.store3 | with_reducible apply Blk.store4 | (with_reducible apply Blk.farp; (first | omega | (simp <;> omega))) | with_reducible apply Blk.allocp | with_reducible apply Blk.drew | with_reducible apply Blk.drewN))) hB1; have cF1 := hF1.cell; have fF1 := hF1.frozen; have lF1 := hF1.lt; have mF1 := Nat.ne_of_gt lF1; have nF1 := Nat.ne_of_lt lF1; have hM1 : Blk v1 (w.heap.size + 1) 39 #[.int .i64 a1, .int .i64 a2, .int .i64 b1, .int .i64 b2, .int .i64 c1, .int .i64 c2] := Blk.call (by (repeat (first | with_reducible assumption | (with_reducible apply Blk.new_at; (first | rfl | (simp; done))) | with_reducible apply Blk.store2 | with_reducible apply Blk.store3 | with_reducible apply Blk.store4 | (with_reducible apply Blk.farp; (first | omega | (simp <;> omega))) | with_reducible apply Blk.allocp | with_reducible apply Blk.drew | with_reducible apply Blk.drewN))) hB1; have cM1 := hM1.cell; have fM1 := hM1.frozen; have lM1 := hM1.lt; have mM1 := Nat.ne_of_gt lM1; have nM1 := Nat.ne_of_lt lM1) | (go_at_call 71; (with_reducible refine (hN.out _).mono ?_); rintro e v2 ⟨rfl, hB2⟩; have hZ2 := hB2.size; (try simp at hZ2); have hF2 : Blk v2 (w.heap.size) 35 #[.int .i64 a, .int .i64 b, .int .i64 c] := Blk.call (by (repeat (first | with_reducible assumption | (with_reducible apply Blk.new_at; (first | rfl | (simp; done))) | with_reducible apply Blk.store2 | with_reducible apply Blk.store3 | with_reducible apply Blk.store4 | (with_reducible apply Blk.farp; (first | omega | (simp <;> omega))) | with_reducible apply Blk.allocp | with_reducible apply Blk.drew | with_reducible apply Blk.drewN))) hB2; have cF2 := hF2.cell; have fF2 := hF2.frozen; have lF2 := hF2.lt; have mF2 := Nat.ne_of_gt lF2; have nF2 := Nat.ne_of_lt lF2; have hM2 : Blk v2 (w.heap.size + 1) 39 #[.int .i64 a1, .int .i64 a2, .int .i64 b1, .int .i64 b2, .int .i64 c1, .int .i64 c2] := Blk.call (by (repeat (first | with_reducible assumption | (with_reducible apply Blk.new_at; (first | rfl | (simp; done))) | with_reducible apply Blk.store2 | with_reducible apply Blk.store3 | with_reducible apply Blk.store4 | (with_reducible apply Blk.farp; (first | omega | (simp <;> omega))) | with_reducible apply Blk.allocp | with_reducible apply Blk.drew | with_reducible apply Blk.drewN))) hB2; have cM2 := hM2.cell; have fM2 := hM2.frozen; have lM2 := hM2.lt; have mM2 := Nat.ne_of_gt lM2; have nM2 := Nat.ne_of_lt lM2) | (go_at_call 72; (with_reducible refine (hS0.out _).mono ?_); rintro e v4 ⟨rfl, hB4⟩; have hZ4 := hB4.size; (try simp at hZ4); have hF4 : Blk v4 (w.heap.size) 35 #[.int .i64 a, .int .i64 b, .int .i64 c] := Blk.call (by (repeat (first | with_reducible assumption | (with_reducible apply Blk.new_at; (first | rfl | (simp; done))) | with_reducible apply Blk.store2 | with_reducible apply Blk.store3 | with_reducible apply Blk.store4 | (with_reducible apply Blk.farp; (first | omega | (simp <;> omega))) | with_reducible apply Blk.allocp | with_reducible apply Blk.drew | with_reducible apply Blk.drewN))) hB4; have cF4 := hF4.cell; have fF4 := hF4.frozen; have lF4 := hF4.lt; have mF4 := Nat.ne_of_gt lF4; have nF4 := Nat.ne_of_lt lF4; have hM4 : Blk v4 (w.heap.size + 1) 39 #[.int .i64 a1, .int .i64 a2, .int .i64 b1, .int .i64 b2, .int .i64 c1, .int .i64 c2] := Blk.call (by (repeat (first | with_reducible assumption | (with_reducible apply Blk.new_at; (first | rfl | (simp; done))) | with_reducible apply Blk.store2 | with_reducible apply Blk.store3 | with_reducible apply Blk.store4 | (with_reducible apply Blk.farp; (first | omega | (simp <;> omega))) | with_reducible apply Blk.allocp | with_reducible apply Blk.drew | with_reducible apply Blk.drewN))) hB4; have cM4 := hM4.cell; have fM4 := hM4.frozen; have lM4 := hM4.lt; have mM4 := Nat.ne_of_gt lM4; have nM4 := Nat.ne_of_lt lM4))
      have hown0 : v4.ownsRow (w.heap.size + 1 + 1) 39 6 (.slice (some ⟨v2.heap.size, 0, none⟩) 1 1) 1 [.int .i64 a1, .int .i64 a2, .int .i64 b1, .int .i64 b2, .int .i64 c1, .int .i64 c2] := own_base (by omega) (own_call hB4 <| (own_blk6 (Blk.new_at (by simp))))
      have hb4 : Below w.heap.size w v4 := (by repeat (first | with_reducible exact Below.refl _ _ | with_reducible assumption | with_reducible apply Below.drew | with_reducible apply below_drewN | (with_reducible apply below_setp; (first | omega | (simp <;> omega))) | (with_reducible apply below_allocp; (first | omega | (simp <;> omega))) | (with_reducible refine below_viap (by assumption) ?_ ?_; (first | omega | (simp <;> omega)))))
      clear hF hN hF1 cF1 fF1 lF1 mF1 nF1 hM1 cM1 fM1 lM1 mM1 nM1 hF2 cF2 fF2 lF2 mF2 nF2 hM2 cM2 fM2 lM2 mM2 nM2 
      go_loopw [6, 7] (fun vl vi wr => DtSt a b c T w vl vi wr) (fun vl _ _ => 1001 - lnN vl)
      case atStart => exact ⟨0, hHT.out, by omega, by rw [Hs0.out], hF4, by rw [E9.out]; exact hM4, by rw [List.take_succ_eq_append_getElem hHT.out, E9.out]; exact hown0, hb4⟩
      case round =>
        clear hown0 hb4 hF4 cF4 fF4 lF4 mF4 nF4 hM4 cM4 fM4 lM4 mM4 nM4 hS0 hB1 hZ1 hB2 hZ2 hB4 hZ4 
        obtain ⟨k, hk, hk1, rfl, hF, hM, hown, hbel⟩ := hrel
        have hz := hbel.size
        have hlen : (T.take (k + 1)).length = k + 1 := by rw [List.length_take]; omega
        rw [hlen] at hown
        obtain ⟨lb, lc, rfl⟩ := own_shape hown
        have hge := Lib.hid (own_ge hown)
        obtain ⟨⟨⟨a1', a2'⟩, ⟨b1', b2'⟩, ⟨c1', c2'⟩⟩, hm⟩ : ∃ m, T[k] = m := ⟨_, rfl⟩
        rw [hm] at hM
        dsimp only at hM
        have cF := hF.cell; have fF := hF.frozen; have lF := hF.lt; have nF := Nat.ne_of_lt lF; have mF := Nat.ne_of_gt lF
        have cM := hM.cell; have fM := hM.frozen; have lM := hM.lt; have nM := Nat.ne_of_lt lM; have mM := Nat.ne_of_gt lM
        have hk2 : k < 1000 := by omega
        by_cases h0 : stpN a b c T[k] = 0
        · have hl := HD.out.last k hk h0
          rw [h0]
          rw [List.take_of_length_le (by omega)] at hown
          obtain rfl : true = ok := by rw [← hok1.out]; exact (decide_eq_true (by omega)).symm
          have hTL : T = L := hL1.out
          have hown2 := own_base (show w.heap.size ≤ w.heap.size + 1 + 1 by omega) hown
          rw [hTL, show k + 1 = L.length by rw [← hTL]; exact hl] at hown2
          have Ho := Lib.hid hown2
          have hkl : k + 1 = L.length := by rw [← hTL]; exact hl
          clear hown2 hown hTL h0 hl
          rw [hkl]
          clear hkl hlen hk1 hk2 hm
          go_wp2
          go_ret2
          exact ⟨_, rfl, Ho.out, hbel⟩
        · obtain ⟨h', p1, p2, q1, q2, o1, o2, r1, r2, hSD⟩ := HD.out.more k hk h0
          obtain ⟨⟨⟨s1, s2⟩, ⟨t1, t2⟩, ⟨u1, u2⟩⟩, hm2⟩ : ∃ m, T[k + 1] = m := ⟨_, rfl⟩
          have hHS := Lib.hid (fun w => hSS.out (k + 1) h' s1 s2 t1 t2 u1 u2 hm2 w)
          skip
          generalize hs2 : stpN a b c T[k + 1] = sn at *
          rw [hm, hm2] at hSD
          rw [hm] at h0 ⊢
          have hHst := Lib.hid (fun w => specStep_any (stpN a b c ⟨(a1', a2'), (b1', b2'), (c1', c2')⟩) a1' a2' b1' b2' c1' c2' s1 s2 t1 t2 u1 u2 p1 p2 q1 q2 o1 o2 r1 r2 w hSD)
          generalize stpN a b c ⟨(a1', a2'), (b1', b2'), (c1', c2')⟩ = sk at *
          have htk := Lib.hid (show T.take (k + 1 + 1) = T.take (k + 1) ++ [⟨(s1, s2), (t1, t2), (u1, u2)⟩] by rw [List.take_succ_eq_append_getElem h', hm2])
          have Hs2 := Lib.hid hs2
          have Hm2 := Lib.hid hm2
          have H' := Lib.hid h'
          have Hlen := Lib.hid hlen
          have e1 : ((sk : Int) == 0) = false := beq_eq_false_iff_ne.2 (by omega)
          have e1b : ((sk : Int) != 0) = true := by rw [bne, e1]; rfl
          have e2 : (0 : Int) < (sk : Int) := by omega
          generalize T.take (k + 1) = K at *
          clear h0 hSD hs2 hm2 hm hlen hSS 
          have hne := Lib.hid (fun q (hq : (Value.slice lb (k + 1) lc).ownBlock = some q) => (show q ≠ w.heap.size + 1 from by have := hge.out q hq; omega))
          by_cases hth : k + 1 = 1000
          · have e3 : (1000 : Int) < ((k + 1 + 1 : Nat) : Int) := by omega
            obtain rfl : false = ok := by rw [← hok1.out]; exact (decide_eq_false (by have := H'.out; omega)).symm
            have hLn : [] = L := hL1.out
            subst hLn
            clear hth
            go_wp2_with fail
            refine (hHst.out _).mono ?_
            rintro e v1 ⟨rfl, hB1⟩
            have hZ1 := hB1.size
            (try simp at hZ1)
            have hF1 : Blk v1 (w.heap.size) 35 #[.int .i64 a, .int .i64 b, .int .i64 c] := Blk.call (by (repeat (first | with_reducible assumption | (with_reducible apply Blk.new_at; (first | rfl | (simp; done))) | with_reducible apply Blk.store2 | with_reducible apply Blk.store3 | with_reducible apply Blk.store4 | (with_reducible apply Blk.farp; (first | omega | (simp <;> omega))) | with_reducible apply Blk.allocp | with_reducible apply Blk.drew | with_reducible apply Blk.drewN))) hB1
            have cF1 := hF1.cell; have fF1 := hF1.frozen; have lF1 := hF1.lt; have mF1 := Nat.ne_of_gt lF1; have nF1 := Nat.ne_of_lt lF1
            have hM1 : Blk v1 (w.heap.size + 1) 39 #[.int .i64 a1', .int .i64 a2', .int .i64 b1', .int .i64 b2', .int .i64 c1', .int .i64 c2'] := Blk.call (by (repeat (first | with_reducible assumption | (with_reducible apply Blk.new_at; (first | rfl | (simp; done))) | with_reducible apply Blk.store2 | with_reducible apply Blk.store3 | with_reducible apply Blk.store4 | (with_reducible apply Blk.farp; (first | omega | (simp <;> omega))) | with_reducible apply Blk.allocp | with_reducible apply Blk.drew | with_reducible apply Blk.drewN))) hB1
            have cM1 := hM1.cell; have fM1 := hM1.frozen; have lM1 := hM1.lt; have mM1 := Nat.ne_of_gt lM1; have nM1 := Nat.ne_of_lt lM1
            go_upto_region 8 with (fail)
            obtain ⟨v8, hv8⟩ : ∃ v, v = (((((((v1).setCell ⟨w.heap.size + 1, 0, none⟩ (.int .i64 s1)).setCell ⟨w.heap.size + 1, 1, none⟩ (.int .i64 s2)).setCell ⟨w.heap.size + 1, 2, none⟩ (.int .i64 t1)).setCell ⟨w.heap.size + 1, 3, none⟩ (.int .i64 t2)).setCell ⟨w.heap.size + 1, 4, none⟩ (.int .i64 u1)).setCell ⟨w.heap.size + 1, 5, none⟩ (.int .i64 u2)) := ⟨_, rfl⟩
            have hown8 : v8.ownsRow (w.heap.size + 1 + 1) 39 6 (.slice lb (k + 1) lc) (k + 1) (cellsN K) := hv8 ▸ (own_nqv hne.out (own_nqv hne.out (own_nqv hne.out (own_nqv hne.out (own_nqv hne.out (own_nqv hne.out (own_call hB1 hown)))))))
            have hF8 : Blk v8 w.heap.size 35 #[.int .i64 a, .int .i64 b, .int .i64 c] := by rw [hv8]; (repeat (first | with_reducible assumption | with_reducible apply Blk.store3 | with_reducible apply Blk.store4 | (with_reducible apply Blk.farp; (first | omega | (simp <;> omega))) | with_reducible apply Blk.allocp | with_reducible apply Blk.drew | with_reducible apply Blk.drewN))
            have hM8 : Blk v8 (w.heap.size + 1) 39 #[.int .i64 s1, .int .i64 s2, .int .i64 t1, .int .i64 t2, .int .i64 u1, .int .i64 u2] := by rw [hv8]; exact Blk.store6 hM1
            have hb8 : Below w.heap.size w v8 := by rw [hv8]; exact (by repeat (first | with_reducible exact Below.refl _ _ | with_reducible assumption | with_reducible apply Below.drew | with_reducible apply below_drewN | (with_reducible apply below_setp; (first | omega | (simp <;> omega))) | (with_reducible apply below_allocp; (first | omega | (simp <;> omega))) | (with_reducible refine below_viap (by assumption) ?_ ?_; (first | omega | (simp <;> omega)))))
            rw [← hv8]
            clear hv8 hF1 cF1 fF1 lF1 mF1 nF1 hM1 cM1 fM1 lM1 mM1 nM1 hB1 hZ1 hF cF fF lF mF nF hM cM fM lM mM nM hown hbel hz
            have hZ8 := hb8.size
            have cF8 := hF8.cell; have fF8 := hF8.frozen; have lF8 := hF8.lt; have mF8 := Nat.ne_of_gt lF8; have nF8 := Nat.ne_of_lt lF8
            have cM8 := hM8.cell; have fM8 := hM8.frozen; have lM8 := hM8.lt; have mM8 := Nat.ne_of_gt lM8; have nM8 := Nat.ne_of_lt lM8
            go_wp2_with (at_builtin; refine wpList_append_own _ rfl (.tmp 29) (.tmp 31) 42 rfl (w.heap.size + 1 + 1) 39 i0 _ 6 48 Try.underlying42 hi0 hz0 hz1 hz2 rfl (by decide) (.slice lb (k + 1) lc) (k + 1) (cellsN K) rfl ?_ ⟨v8.heap.size, 0, none⟩ 1 1 [.int .i64 s1, .int .i64 s2, .int .i64 t1, .int .i64 t2, .int .i64 u1, .int .i64 u2] rfl rfl ?_ (one6 _ _ _ _ _ _) ?_ ?_ ?_ ?_; exact own_alloc hown8; exact cells6 (Blk.new_at (by simp)); (unfold maxLen; omega); omega; (simp; omega); intro vn v5 hown5 hg5 _; obtain ⟨xb, xc, rfl⟩ := own_shape hown5; have hgs := hg5.size; (try simp at hgs); have hF5 : Blk v5 w.heap.size 35 #[.int .i64 a, .int .i64 b, .int .i64 c] := Blk.grown (Blk.allocp hF8) hg5 (fun e => by have := hge.out _ e.symm; omega); have cF5 := hF5.cell; have lF5 := hF5.lt; have nF5 := Nat.ne_of_lt lF5; have mF5 := Nat.ne_of_gt lF5; have hM5 : Blk v5 (w.heap.size + 1) 39 #[.int .i64 s1, .int .i64 s2, .int .i64 t1, .int .i64 t2, .int .i64 u1, .int .i64 u2] := Blk.grown (Blk.allocp hM8) hg5 (fun e => by have := hge.out _ e.symm; omega); have cM5 := hM5.cell; have lM5 := hM5.lt; have nM5 := Nat.ne_of_lt lM5; have mM5 := Nat.ne_of_gt lM5; have hb5 : Below w.heap.size w v5 := Below.grown ((by repeat (first | with_reducible exact Below.refl _ _ | with_reducible assumption | with_reducible apply Below.drew | with_reducible apply below_drewN | (with_reducible apply below_setp; (first | omega | (simp <;> omega))) | (with_reducible apply below_allocp; (first | omega | (simp <;> omega))) | (with_reducible refine below_viap (by assumption) ?_ ?_; (first | omega | (simp <;> omega)))))) hg5 (by simp <;> omega) (fun q hq => by have := hge.out q hq; omega))
            go_ret2
            exact ⟨_, rfl, World.ownsRow_nil _ _ _ _, (by repeat (first | with_reducible exact Below.refl _ _ | with_reducible assumption | with_reducible apply Below.drew | with_reducible apply below_drewN | (with_reducible apply below_setp; (first | omega | (simp <;> omega))) | (with_reducible apply below_allocp; (first | omega | (simp <;> omega))) | (with_reducible refine below_viap (by assumption) ?_ ?_; (first | omega | (simp <;> omega)))))⟩
          · have e3 : ¬ (1000 : Int) < ((k + 1 + 1 : Nat) : Int) := by omega
            have hk3 : k + 1 < 1000 := by omega
            clear hth
            go_wp2_with fail
            refine (hHst.out _).mono ?_
            rintro e v1 ⟨rfl, hB1⟩
            have hZ1 := hB1.size
            (try simp at hZ1)
            have hF1 : Blk v1 (w.heap.size) 35 #[.int .i64 a, .int .i64 b, .int .i64 c] := Blk.call (by (repeat (first | with_reducible assumption | (with_reducible apply Blk.new_at; (first | rfl | (simp; done))) | with_reducible apply Blk.store2 | with_reducible apply Blk.store3 | with_reducible apply Blk.store4 | (with_reducible apply Blk.farp; (first | omega | (simp <;> omega))) | with_reducible apply Blk.allocp | with_reducible apply Blk.drew | with_reducible apply Blk.drewN))) hB1
            have cF1 := hF1.cell; have fF1 := hF1.frozen; have lF1 := hF1.lt; have mF1 := Nat.ne_of_gt lF1; have nF1 := Nat.ne_of_lt lF1
            have hM1 : Blk v1 (w.heap.size + 1) 39 #[.int .i64 a1', .int .i64 a2', .int .i64 b1', .int .i64 b2', .int .i64 c1', .int .i64 c2'] := Blk.call (by (repeat (first | with_reducible assumption | (with_reducible apply Blk.new_at; (first | rfl | (simp; done))) | with_reducible apply Blk.store2 | with_reducible apply Blk.store3 | with_reducible apply Blk.store4 | (with_reducible apply Blk.farp; (first | omega | (simp <;> omega))) | with_reducible apply Blk.allocp | with_reducible apply Blk.drew | with_reducible apply Blk.drewN))) hB1
            have cM1 := hM1.cell; have fM1 := hM1.frozen; have lM1 := hM1.lt; have mM1 := Nat.ne_of_gt lM1; have nM1 := Nat.ne_of_lt lM1
            go_upto_region 8 with (fail)
            obtain ⟨v8, hv8⟩ : ∃ v, v = (((((((v1).setCell ⟨w.heap.size + 1, 0, none⟩ (.int .i64 s1)).setCell ⟨w.heap.size + 1, 1, none⟩ (.int .i64 s2)).setCell ⟨w.heap.size + 1, 2, none⟩ (.int .i64 t1)).setCell ⟨w.heap.size + 1, 3, none⟩ (.int .i64 t2)).setCell ⟨w.heap.size + 1, 4, none⟩ (.int .i64 u1)).setCell ⟨w.heap.size + 1, 5, none⟩ (.int .i64 u2)) := ⟨_, rfl⟩
            have hown8 : v8.ownsRow (w.heap.size + 1 + 1) 39 6 (.slice lb (k + 1) lc) (k + 1) (cellsN K) := hv8 ▸ (own_nqv hne.out (own_nqv hne.out (own_nqv hne.out (own_nqv hne.out (own_nqv hne.out (own_nqv hne.out (own_call hB1 hown)))))))
            have hF8 : Blk v8 w.heap.size 35 #[.int .i64 a, .int .i64 b, .int .i64 c] := by rw [hv8]; (repeat (first | with_reducible assumption | with_reducible apply Blk.store3 | with_reducible apply Blk.store4 | (with_reducible apply Blk.farp; (first | omega | (simp <;> omega))) | with_reducible apply Blk.allocp | with_reducible apply Blk.drew | with_reducible apply Blk.drewN))
            have hM8 : Blk v8 (w.heap.size + 1) 39 #[.int .i64 s1, .int .i64 s2, .int .i64 t1, .int .i64 t2, .int .i64 u1, .int .i64 u2] := by rw [hv8]; exact Blk.store6 hM1
            have hb8 : Below w.heap.size w v8 := by rw [hv8]; exact (by repeat (first | with_reducible exact Below.refl _ _ | with_reducible assumption | with_reducible apply Below.drew | with_reducible apply below_drewN | (with_reducible apply below_setp; (first | omega | (simp <;> omega))) | (with_reducible apply below_allocp; (first | omega | (simp <;> omega))) | (with_reducible refine below_viap (by assumption) ?_ ?_; (first | omega | (simp <;> omega)))))
            rw [← hv8]
            clear hv8 hF1 cF1 fF1 lF1 mF1 nF1 hM1 cM1 fM1 lM1 mM1 nM1 hB1 hZ1 hF cF fF lF mF nF hM cM fM lM mM nM hown hbel hz
            have hZ8 := hb8.size
            have cF8 := hF8.cell; have fF8 := hF8.frozen; have lF8 := hF8.lt; have mF8 := Nat.ne_of_gt lF8; have nF8 := Nat.ne_of_lt lF8
            have cM8 := hM8.cell; have fM8 := hM8.frozen; have lM8 := hM8.lt; have mM8 := Nat.ne_of_gt lM8; have nM8 := Nat.ne_of_lt lM8
            go_wp2_with (first | (at_builtin; refine wpList_append_own _ rfl (.tmp 29) (.tmp 31) 42 rfl (w.heap.size + 1 + 1) 39 i0 _ 6 48 Try.underlying42 hi0 hz0 hz1 hz2 rfl (by decide) (.slice lb (k + 1) lc) (k + 1) (cellsN K) rfl ?_ ⟨v8.heap.size, 0, none⟩ 1 1 [.int .i64 s1, .int .i64 s2, .int .i64 t1, .int .i64 t2, .int .i64 u1, .int .i64 u2] rfl rfl ?_ (one6 _ _ _ _ _ _) ?_ ?_ ?_ ?_; exact own_alloc hown8; exact cells6 (Blk.new_at (by simp)); (unfold maxLen; omega); omega; (simp; omega); intro vn v5 hown5 hg5 _; obtain ⟨xb, xc, rfl⟩ := own_shape hown5; have hgs := hg5.size; (try simp at hgs); have hF5 : Blk v5 w.heap.size 35 #[.int .i64 a, .int .i64 b, .int .i64 c] := Blk.grown (Blk.allocp hF8) hg5 (fun e => by have := hge.out _ e.symm; omega); have cF5 := hF5.cell; have lF5 := hF5.lt; have nF5 := Nat.ne_of_lt lF5; have mF5 := Nat.ne_of_gt lF5; have hM5 : Blk v5 (w.heap.size + 1) 39 #[.int .i64 s1, .int .i64 s2, .int .i64 t1, .int .i64 t2, .int .i64 u1, .int .i64 u2] := Blk.grown (Blk.allocp hM8) hg5 (fun e => by have := hge.out _ e.symm; omega); have cM5 := hM5.cell; have lM5 := hM5.lt; have nM5 := Nat.ne_of_lt lM5; have mM5 := Nat.ne_of_gt lM5; have hb5 : Below w.heap.size w v5 := Below.grown ((by repeat (first | with_reducible exact Below.refl _ _ | with_reducible assumption | with_reducible apply Below.drew | with_reducible apply below_drewN | (with_reducible apply below_setp; (first | omega | (simp <;> omega))) | (with_reducible apply below_allocp; (first | omega | (simp <;> omega))) | (with_reducible refine below_viap (by assumption) ?_ ?_; (first | omega | (simp <;> omega)))))) hg5 (by simp <;> omega) (fun q hq => by have := hge.out q hq; omega)) | (go_at_call 72; (with_reducible refine (hHS.out _).mono ?_); rintro e v7 ⟨rfl, hB7⟩; have hZ7 := hB7.size; (try simp at hZ7); have hF7 : Blk v7 (w.heap.size) 35 #[.int .i64 a, .int .i64 b, .int .i64 c] := Blk.call (by (repeat (first | with_reducible assumption | (with_reducible apply Blk.new_at; (first | rfl | (simp; done))) | with_reducible apply Blk.store2 | with_reducible apply Blk.store3 | with_reducible apply Blk.store4 | (with_reducible apply Blk.farp; (first | omega | (simp <;> omega))) | with_reducible apply Blk.allocp | with_reducible apply Blk.drew | with_reducible apply Blk.drewN))) hB7; have cF7 := hF7.cell; have fF7 := hF7.frozen; have lF7 := hF7.lt; have mF7 := Nat.ne_of_gt lF7; have nF7 := Nat.ne_of_lt lF7; have hM7 : Blk v7 (w.heap.size + 1) 39 #[.int .i64 s1, .int .i64 s2, .int .i64 t1, .int .i64 t2, .int .i64 u1, .int .i64 u2] := Blk.call (by (repeat (first | with_reducible assumption | (with_reducible apply Blk.new_at; (first | rfl | (simp; done))) | with_reducible apply Blk.store2 | with_reducible apply Blk.store3 | with_reducible apply Blk.store4 | (with_reducible apply Blk.farp; (first | omega | (simp <;> omega))) | with_reducible apply Blk.allocp | with_reducible apply Blk.drew | with_reducible apply Blk.drewN))) hB7; have cM7 := hM7.cell; have fM7 := hM7.frozen; have lM7 := hM7.lt; have mM7 := Nat.ne_of_gt lM7; have nM7 := Nat.ne_of_lt lM7))
            have hown9 := own_snocN htk.out (by rw [Hlen.out]; exact hown5)
            have hown10 := own_call hB7 hown9
            have hbN : Below w.heap.size w v7 := (by repeat (first | with_reducible exact Below.refl _ _ | with_reducible assumption | with_reducible apply Below.drew | with_reducible apply below_drewN | (with_reducible apply below_setp; (first | omega | (simp <;> omega))) | (with_reducible apply below_allocp; (first | omega | (simp <;> omega))) | (with_reducible refine below_viap (by assumption) ?_ ?_; (first | omega | (simp <;> omega)))))
            have hl9 : (T.take (k + 1 + 1)).length = k + 1 + 1 := by rw [htk.out, List.length_append, Hlen.out]; rfl
            go_roundw
            case rel => exact ⟨k + 1, H'.out, by omega, by rw [Hs2.out], hF7, by rw [Hm2.out]; exact hM7, by rw [hl9] at hown10 ⊢; exact hown10, hbN⟩
            case measure => simp [lnN] <;> omega
end
end Go.Proofs.Ytkpiiicefmkhcaa
