/- Contract: the normal triple, of the program. -/
import Derived.Test.YtdhennlanngjgaaJE
import Derived.Test.YtdhennlanngjgaaRG
namespace Go.Proofs.Ytdhennlanngjgaa
open Go.RowKit

/-- Whether there is a normal triple in range, and its numbers. -/
def ntB (a b c : Int) : Bool := trB a b c && trB (nfE a b c a) (nfE a b c b) (nfE a b c c)
def ntV (a b c x : Int) : Int := if ntB a b c = true then nfE a b c x else 0
theorem cells_get {g n : Nat} {cur : Array Value} {K : List Int} (h : cur.toList.take (n * 1) = cellsI K) {w : World} {t : TypeId} (hb : Blk w g t cur) {j : Nat} (hj : j < K.length) : w.cell? ⟨g, j, none⟩ = some (.int .i64 K[j]) := by
  rw [hb.cell, ← Array.getElem?_toList]
  have h1 := cellsI_get K j hj
  rw [← h, List.getElem?_take] at h1
  split at h1
  · exact h1
  · cases h1

set_option maxRecDepth 100000 in
set_option maxHeartbeats 12800000 in
theorem implNT_any (a b c : Int) (w : World) (ha : W64 a) (hb : W64 b) (hc : W64 c) :
    Calls Try.prog 18 #[.agg #[.int .i64 a, .int .i64 b, .int .i64 c]] w fun e w' => e = .returned (.tuple #[.agg #[.int .i64 (ntV a b c a), .int .i64 (ntV a b c b), .int .i64 (ntV a b c c)], .bool (ntB a b c)]) ∧ Below w.heap.size w w' := by
  have hIs := Lib.hid (fun w => isTriple_any a b c w ha hb hc)
  cases ht : trB a b c with
  | false =>
    have h0 : ntB a b c = false := by unfold ntB; rw [ht]; rfl
    rw [ht] at hIs
    unfold ntV
    rw [h0]
    simp only [Bool.false_eq_true, if_false]
    clear ht h0 ha hb hc
    go_enter Try.func18, Try.ntmps18
    go_wp2_with (go_at_call 29; (with_reducible refine (hIs.out _).mono ?_); rintro e v1 ⟨rfl, hB1⟩; have hZ1 := hB1.size; (try simp at hZ1); have hR1 : Blk v1 (w.heap.size + 1) 25 #[.int .i64 0, .int .i64 0, .int .i64 0] := Blk.call (by (repeat (first | with_reducible assumption | (with_reducible apply Blk.new_at; (first | rfl | (simp; done))) | with_reducible apply Blk.store3 | with_reducible apply Blk.store4 | (with_reducible apply Blk.farp; (first | omega | (simp <;> omega))) | with_reducible apply Blk.allocp | with_reducible apply Blk.drew | with_reducible apply Blk.drewN))) hB1; have cR1 := hR1.cell; have fR1 := hR1.frozen; have lR1 := hR1.lt)
    exact bodyPost_ret (v := .tuple #[.agg #[.int .i64 0, .int .i64 0, .int .i64 0], .bool false]) (by simp [results, Try.results18, go_sem, *]) rfl ⟨rfl, (by repeat (first | with_reducible exact Below.refl _ _ | with_reducible assumption | with_reducible apply Below.drew | with_reducible apply below_drewN | (with_reducible apply below_setp; (first | omega | (simp <;> omega))) | (with_reducible apply below_allocp; (first | omega | (simp <;> omega))) | (with_reducible refine below_viap (by assumption) ?_ ?_; (first | omega | (simp <;> omega)))))⟩
  | true =>
    have h := trB_iff.1 ht
    rw [ht] at hIs
    have hLs := Lib.hid (fun w => tlist_any a b c w)
    have hS := Lib.hid (fun x w => sign_any x w)
    have hPo := Lib.hid (fun C w (hb : Blk w C 63 #[.int .i64 a, .int .i64 b, .int .i64 c]) => placesOf_any C 3 3 [a, b, c] w hb.lt rfl (by omega) (fun j hj => by
      rw [hb.cell]
      match j, hj with
      | 0, _ => rfl
      | 1, _ => rfl
      | 2, _ => rfl) (by
      obtain ⟨a0, a1, b0, b1, c0, c1⟩ := h
      intro x hx
      simp only [List.mem_cons, List.not_mem_nil, or_false] at hx
      rcases hx with rfl | rfl | rfl <;> omega))
    have hPl := Lib.hid (fun (K : List Int) (hK : K.Pairwise (· < ·)) (hm : ∀ x, x ∈ K ↔ (x = 0 ∨ x = 2) ∨ ∃ n ∈ [a, b, c], x ∈ prims (n.natAbs : Int)) => h.places hK (fun x => by rw [hm x]; simp))
    obtain ⟨L, hL⟩ : ∃ L, 2 :: odP (prT a b c) = L := ⟨_, rfl⟩
    rw [hL] at hPl
    have hL0 : 0 < L.length := by rw [← hL]; simp
    have hLl : L.length ≤ 101 := by
      rw [← hL]
      have h1 := h.len
      have h2 := List.length_filter_le (fun p : Int => decide (2 < p)) (prT a b c)
      unfold odP
      simp only [List.length_cons]; omega
    have hTp := Lib.hid (fun x (hx : x ∈ L) => (by
      rw [← hL] at hx
      rcases List.mem_cons.1 hx with rfl | hx
      · omega
      · have hx := (List.mem_filter.1 hx).1
        have h1 := ((h.pr x).1 hx)
        have h2 := Int.le_of_dvd (by have := h.prod.1; omega) (Int.dvd_natAbs.2 h1.2)
        have := h.prod.2
        have := h1.1.1
        omega : 2 ≤ x ∧ x ≤ 64000000))
    have hba := Lib.hid (fun k => (hL ▸ h.take_two h.a0 k : -128000000 ≤ nfL a b c a (L.take k) ∧ nfL a b c a (L.take k) ≤ 128000000))
    have hbb := Lib.hid (fun k => (hL ▸ h.take_two h.b0 k : -128000000 ≤ nfL a b c b (L.take k) ∧ nfL a b c b (L.take k) ≤ 128000000))
    have hbc := Lib.hid (fun k => (hL ▸ h.take_two h.c0 k : -128000000 ≤ nfL a b c c (L.take k) ∧ nfL a b c c (L.take k) ≤ 128000000))
    have hfa : Hid (nfL a b c a L = nfE a b c a) := Lib.hid (by rw [← hL]; exact h.fold_two a)
    have hfb : Hid (nfL a b c b L = nfE a b c b) := Lib.hid (by rw [← hL]; exact h.fold_two b)
    have hfc : Hid (nfL a b c c L = nfE a b c c) := Lib.hid (by rw [← hL]; exact h.fold_two c)
    have hEa := Lib.hid (fun p w (hp : 2 ≤ p) (hp2 : p ≤ 1000000000) => exponentA_any a p w h.a0 (by have := h.a1; omega) hp hp2)
    have hEb := Lib.hid (fun p w (hp : 2 ≤ p) (hp2 : p ≤ 1000000000) => exponentA_any b p w h.b0 (by have := h.b1; omega) hp hp2)
    have hEc := Lib.hid (fun p w (hp : 2 ≤ p) (hp2 : p ≤ 1000000000) => exponentA_any c p w h.c0 (by have := h.c1; omega) hp hp2)
    have hIn := Lib.hid (fun w => isTriple_any (nfE a b c a) (nfE a b c b) (nfE a b c c) w (by have := h.all_bd h.a0; unfold W64; omega) (by have := h.all_bd h.b0; unfold W64; omega) (by have := h.all_bd h.c0; unfold W64; omega))
    have hNB : ntB a b c = trB (nfE a b c a) (nfE a b c b) (nfE a b c c) := by unfold ntB; rw [ht]; rfl
    have HF := Lib.hid (fun hx : trB (nfE a b c a) (nfE a b c b) (nfE a b c c) = false => (show (.tuple #[.agg #[.int .i64 0, .int .i64 0, .int .i64 0], .bool false] : Value) = .tuple #[.agg #[.int .i64 (ntV a b c a), .int .i64 (ntV a b c b), .int .i64 (ntV a b c c)], .bool (ntB a b c)] by
      unfold ntV; rw [hNB, hx]; rfl))
    have HT := Lib.hid (fun hx : trB (nfE a b c a) (nfE a b c b) (nfE a b c c) = true => (show (.tuple #[.agg #[.int .i64 (nfE a b c a), .int .i64 (nfE a b c b), .int .i64 (nfE a b c c)], .bool true] : Value) = .tuple #[.agg #[.int .i64 (ntV a b c a), .int .i64 (ntV a b c b), .int .i64 (ntV a b c c)], .bool (ntB a b c)] by
      unfold ntV; rw [hNB, hx]; rfl))
    clear hNB
    have hx0 : ∀ w : World, (Instr.index 63 (.agg #[.int .i64 a, .int .i64 b, .int .i64 c]) (.int .i64 0)).run Try.prog w = .ok (.int .i64 a) w := fun _ => by kernel_rfl
    have hx1 : ∀ w : World, (Instr.index 63 (.agg #[.int .i64 a, .int .i64 b, .int .i64 c]) (.int .i64 1)).run Try.prog w = .ok (.int .i64 b) w := fun _ => by kernel_rfl
    have hx2 : ∀ w : World, (Instr.index 63 (.agg #[.int .i64 a, .int .i64 b, .int .i64 c]) (.int .i64 2)).run Try.prog w = .ok (.int .i64 c) w := fun _ => by kernel_rfl
    clear hL ht h ha hb hc
    go_enter Try.func18, Try.ntmps18
    go_wp2_with (first
      | (go_at_call 29; (with_reducible refine (hIs.out _).mono ?_); rintro e v1 ⟨rfl, hB1⟩; have hZ1 := hB1.size; (try simp at hZ1); (try have zl1 : w.heap.size < v1.heap.size := by omega); (try have ze1 : w.heap.size ≤ v1.heap.size := by omega); (try have zn1 : ¬ w.heap.size = v1.heap.size := by omega); (try have zm1 : ¬ v1.heap.size = w.heap.size := by omega); have hA1 : Blk v1 (w.heap.size) 25 #[.int .i64 a, .int .i64 b, .int .i64 c] := Blk.call (by (repeat (first | with_reducible assumption | (with_reducible apply Blk.new_at; (first | rfl | (simp; done))) | with_reducible apply Blk.store3 | with_reducible apply Blk.store4 | (with_reducible apply Blk.farp; (first | omega | (simp <;> omega))) | with_reducible apply Blk.allocp | with_reducible apply Blk.drew | with_reducible apply Blk.drewN))) hB1; have cA1 := hA1.cell; have fA1 := hA1.frozen; have lA1 := hA1.lt; have mA1 := Nat.ne_of_gt lA1; have nA1 := Nat.ne_of_lt lA1; have hR1 : Blk v1 (w.heap.size + 1) 25 #[.int .i64 0, .int .i64 0, .int .i64 0] := Blk.call (by (repeat (first | with_reducible assumption | (with_reducible apply Blk.new_at; (first | rfl | (simp; done))) | with_reducible apply Blk.store3 | with_reducible apply Blk.store4 | (with_reducible apply Blk.farp; (first | omega | (simp <;> omega))) | with_reducible apply Blk.allocp | with_reducible apply Blk.drew | with_reducible apply Blk.drewN))) hB1; have cR1 := hR1.cell; have fR1 := hR1.frozen; have lR1 := hR1.lt; have mR1 := Nat.ne_of_gt lR1; have nR1 := Nat.ne_of_lt lR1)
      | (go_at_call 41; (with_reducible refine (hLs.out _).mono ?_); rintro e v2 ⟨rfl, hB2⟩; have hZ2 := hB2.size; (try simp at hZ2); (try have zl2 : w.heap.size < v2.heap.size := by omega); (try have ze2 : w.heap.size ≤ v2.heap.size := by omega); (try have zn2 : ¬ w.heap.size = v2.heap.size := by omega); (try have zm2 : ¬ v2.heap.size = w.heap.size := by omega); have hA2 : Blk v2 (w.heap.size) 25 #[.int .i64 a, .int .i64 b, .int .i64 c] := Blk.call (by (repeat (first | with_reducible assumption | (with_reducible apply Blk.new_at; (first | rfl | (simp; done))) | with_reducible apply Blk.store3 | with_reducible apply Blk.store4 | (with_reducible apply Blk.farp; (first | omega | (simp <;> omega))) | with_reducible apply Blk.allocp | with_reducible apply Blk.drew | with_reducible apply Blk.drewN))) hB2; have cA2 := hA2.cell; have fA2 := hA2.frozen; have lA2 := hA2.lt; have mA2 := Nat.ne_of_gt lA2; have nA2 := Nat.ne_of_lt lA2; have hR2 : Blk v2 (w.heap.size + 1) 25 #[.int .i64 0, .int .i64 0, .int .i64 0] := Blk.call (by (repeat (first | with_reducible assumption | (with_reducible apply Blk.new_at; (first | rfl | (simp; done))) | with_reducible apply Blk.store3 | with_reducible apply Blk.store4 | (with_reducible apply Blk.farp; (first | omega | (simp <;> omega))) | with_reducible apply Blk.allocp | with_reducible apply Blk.drew | with_reducible apply Blk.drewN))) hB2; have cR2 := hR2.cell; have fR2 := hR2.frozen; have lR2 := hR2.lt; have mR2 := Nat.ne_of_gt lR2; have nR2 := Nat.ne_of_lt lR2))
    refine wp_region_calmA 11 10 5 (.cells #[.int .i64 0, .int .i64 0, .int .i64 0] 63) (v2.heap.size + 1) (by kernel_rfl) (by kernel_rfl) rfl rfl (fun _ _ => ⟨by kernel_rfl, by kernel_rfl⟩) (by first | omega | (simp <;> omega)) ((Below.refl _ _).drew) ?_
    simp only [List.take_succ_cons, List.take_zero, List.drop_succ_cons, List.drop_zero]
    repeat (first | (refine wpA_made ?_; (intro K hK; go_simp; refine hK _ ?_; clear hK K)) | (apply wpA_go; (first | decide | simp); go_simp; (intro w' hw' hcc hff; go_simp; first | exact ⟨rfl, Below.refl _ _⟩ | (refine (hS.out _ _).mono ?_; rintro e w1 ⟨rfl, hb⟩; exact ⟨rfl, hb ▸ Below.refl _ _⟩)); (intro K hK; go_simp; refine hK _ ?_; clear hK K)) | (apply wpA_skip; (first | decide | simp); go_simp; (try (focus (simp [undef]; done))); (intro K hK; go_simp; refine hK _ ?_; clear hK K)))
    refine wpY_nil ?_
    intro pA w1 hpA hlA hoA hw1
    have hcc := (calm_cells hw1).1
    have hff := (calm_cells hw1).2
    have hsz := hw1.size
    (try simp at hsz)
    have hP1 : Blk w1 pA 63 #[.int .i64 0, .int .i64 0, .int .i64 0] := hoA
    have hC1 : Blk w1 v2.heap.size 63 #[.int .i64 a, .int .i64 b, .int .i64 c] := Blk.below (by (repeat (first | with_reducible assumption | (with_reducible apply Blk.new_at; (first | rfl | (simp; done))) | with_reducible apply Blk.store3 | with_reducible apply Blk.store4 | (with_reducible apply Blk.farp; (first | omega | (simp <;> omega))) | with_reducible apply Blk.allocp | with_reducible apply Blk.drew | with_reducible apply Blk.drewN))) hw1 (by omega)
    have hR1' : Blk w1 (w.heap.size + 1) 25 #[.int .i64 0, .int .i64 0, .int .i64 0] := Blk.below (by (repeat (first | with_reducible assumption | (with_reducible apply Blk.new_at; (first | rfl | (simp; done))) | with_reducible apply Blk.store3 | with_reducible apply Blk.store4 | (with_reducible apply Blk.farp; (first | omega | (simp <;> omega))) | with_reducible apply Blk.allocp | with_reducible apply Blk.drew | with_reducible apply Blk.drewN))) hw1 (by omega)
    have hb1 : Below w.heap.size w w1 := below_via (show Below w.heap.size w _ from (by repeat (first | with_reducible exact Below.refl _ _ | with_reducible assumption | with_reducible apply Below.drew | with_reducible apply below_drewN | (with_reducible apply below_setp; (first | omega | (simp <;> omega))) | (with_reducible apply below_allocp; (first | omega | (simp <;> omega))) | (with_reducible refine below_viap (by assumption) ?_ ?_; (first | omega | (simp <;> omega)))))) hw1 (by omega)
    obtain ⟨C, hCe⟩ : ∃ C, v2.heap.size = C := ⟨_, rfl⟩
    have hwC : w.heap.size + 1 < C := by omega
    have hCp : C < pA := by omega
    rw [hCe] at hC1 ⊢
    clear hcc hff hoA hw1 hlA hpA hsz hA1 hA2 cA1 cA2 fA1 fA2 lA1 lA2 hR1 hR2 cR1 cR2 fR1 fR2 lR1 lR2 hCe
    have cP1 := hP1.cell; have fP1 := hP1.frozen; have lP1 := hP1.lt
    have cC1 := hC1.cell; have fC1 := hC1.frozen; have lC1 := hC1.lt
    go_wp2_with (go_at_call 25; refine (hPo.out C _ (by (repeat (first | with_reducible assumption | (with_reducible apply Blk.new_at; (first | rfl | (simp; done))) | with_reducible apply Blk.store3 | with_reducible apply Blk.store4 | (with_reducible apply Blk.farp; (first | omega | (simp <;> omega))) | with_reducible apply Blk.allocp | with_reducible apply Blk.drew | with_reducible apply Blk.drewN)))).mono ?_; rintro e w3 ⟨K, hK1, hK2, vk, rfl, hok, hB3⟩; have hZ3 := hB3.size; (try simp at hZ3); obtain rfl := hPl.out K hK1 hK2; (rcases hok.2 with ⟨_, hn⟩ | ⟨g, cap, cur, rfl, hbg, hg, hnc, hcm, hcs, htake⟩; (exact absurd hn (by simp)); have hc1 : ¬ cap = 1 := by (rw [List.length_cons] at hnc; omega)))
    have hO3 : Blk w3 pA 63 #[.int .i64 a.sign, .int .i64 b.sign, .int .i64 c.sign] := Blk.call (by (repeat (first | with_reducible assumption | (with_reducible apply Blk.new_at; (first | rfl | (simp; done))) | with_reducible apply Blk.store3 | with_reducible apply Blk.store4 | (with_reducible apply Blk.farp; (first | omega | (simp <;> omega))) | with_reducible apply Blk.allocp | with_reducible apply Blk.drew | with_reducible apply Blk.drewN))) hB3
    have hL3 : Blk w3 C 63 #[.int .i64 a, .int .i64 b, .int .i64 c] := Blk.call (by (repeat (first | with_reducible assumption | (with_reducible apply Blk.new_at; (first | rfl | (simp; done))) | with_reducible apply Blk.store3 | with_reducible apply Blk.store4 | (with_reducible apply Blk.farp; (first | omega | (simp <;> omega))) | with_reducible apply Blk.allocp | with_reducible apply Blk.drew | with_reducible apply Blk.drewN))) hB3
    have hR3 : Blk w3 (w.heap.size + 1) 25 #[.int .i64 0, .int .i64 0, .int .i64 0] := Blk.call (by (repeat (first | with_reducible assumption | (with_reducible apply Blk.new_at; (first | rfl | (simp; done))) | with_reducible apply Blk.store3 | with_reducible apply Blk.store4 | (with_reducible apply Blk.farp; (first | omega | (simp <;> omega))) | with_reducible apply Blk.allocp | with_reducible apply Blk.drew | with_reducible apply Blk.drewN))) hB3
    have hG3 : Blk w3 g 3 cur := hg
    have hb3 : Below w.heap.size w w3 := (by repeat (first | with_reducible exact Below.refl _ _ | with_reducible assumption | with_reducible apply Below.drew | with_reducible apply below_drewN | (with_reducible apply below_setp; (first | omega | (simp <;> omega))) | (with_reducible apply below_allocp; (first | omega | (simp <;> omega))) | (with_reducible refine below_viap (by assumption) ?_ ?_; (first | omega | (simp <;> omega)))))
    have hpg : pA < g := by (simp at hbg; omega)
    have HG := Lib.hid (fun (wr : World) (hb : Blk wr g 3 cur) (k : Nat) (hk : k < L.length) => (cells_get htake hb (j := k + 1) (by simp; omega) : wr.cell? ⟨g, k + 1, none⟩ = some (.int .i64 L[k])))
    clear hok hbg hg hnc hcm hcs htake hK1 hK2 hB3 hZ3 hP1 cP1 fP1 lP1 hC1 cC1 fC1 lC1 hR1' hb1 hZ1 hZ2 hB1 hB2
    obtain ⟨m, hm⟩ : ∃ m, L.length = m := ⟨_, rfl⟩
    have Hm := Lib.hid hm
    rw [hm] at hLl hL0 ⊢
    clear hm
    go_loopw [34] (fun vi wr => ∃ k : Nat, vi = .int .i64 k ∧ k ≤ m ∧ Hid (Blk wr pA 63 #[.int .i64 (nfL a b c a (L.take k)), .int .i64 (nfL a b c b (L.take k)), .int .i64 (nfL a b c c (L.take k))]) ∧ Hid (Blk wr C 63 #[.int .i64 a, .int .i64 b, .int .i64 c]) ∧
        Hid (Blk wr (w.heap.size + 1) 25 #[.int .i64 0, .int .i64 0, .int .i64 0]) ∧ Hid (Blk wr g 3 cur) ∧ Below w.heap.size w wr) (fun vi _ => m - (intOf vi).toNat)
    case atStart => exact ⟨0, rfl, Nat.zero_le _, Lib.hid (by simpa [nfL] using hO3), Lib.hid hL3, Lib.hid hR3, Lib.hid hG3, hb3⟩
    case round =>
      clear hO3 hL3 hR3 hG3 hb3
      obtain ⟨k, rfl, hk, hO1, hL1, hR1, hG1, hbel⟩ := hrel
      have hz := hbel.size
      have lO := hO1.out.lt
      have lG := hG1.out.lt
      by_cases hlt : k < m
      · have hkT : k < L.length := by rw [Hm.out]; exact hlt
        have e1 := HG.out wr hG1.out k hkT
        have e2 : wr.cell? ⟨g, 1 + k, none⟩ = some (.int .i64 L[k]) := by rw [Nat.add_comm]; exact e1
        have f1 := hG1.out.frozen (k + 1)
        have f2 := hG1.out.frozen (1 + k)
        obtain ⟨p2, p3⟩ := hTp.out _ (List.getElem_mem hkT)
        have ba := hba.out (k + 1)
        have bb := hbb.out (k + 1)
        have bc := hbc.out (k + 1)
        have sa := hba.out k
        have sb := hbb.out k
        have sc := hbc.out k
        rw [nfL_next hkT] at ba bb bc
        have na := Lib.hid (nfL_next (a := a) (b := b) (c := c) (x := a) hkT)
        have nb := Lib.hid (nfL_next (a := a) (b := b) (c := c) (x := b) hkT)
        have nc := Lib.hid (nfL_next (a := a) (b := b) (c := c) (x := c) hkT)
        generalize nfL a b c a (L.take k) = ra at *
        generalize nfL a b c b (L.take k) = rb at *
        generalize nfL a b c c (L.take k) = rc at *
        generalize L[k] = p at *
        have hEa2 := Lib.hid (fun w => hEa.out p w p2 (by omega))
        have hEb2 := Lib.hid (fun w => hEb.out p w p2 (by omega))
        have hEc2 := Lib.hid (fun w => hEc.out p w p2 (by omega))
        have qa : (exA p a).tmod 2 = odE p a := by rw [odE_exA, Int.tmod_eq_emod_of_nonneg (exA_nn p a)]
        have qb : (exA p b).tmod 2 = odE p b := by rw [odE_exA, Int.tmod_eq_emod_of_nonneg (exA_nn p b)]
        have qc : (exA p c).tmod 2 = odE p c := by rw [odE_exA, Int.tmod_eq_emod_of_nonneg (exA_nn p c)]
        have ma := odE_exA p a
        have mb := odE_exA p b
        have mc := odE_exA p c
        have na0 := exA_nn p a
        have nb0 := exA_nn p b
        have nc0 := exA_nn p c
        have cO := hO1.out.cell; have fO := hO1.out.frozen
        have cL := hL1.out.cell; have fL := hL1.out.frozen; have lL := hL1.out.lt
        have n1 : ¬ pA = wr.heap.size := by omega
        have n2 : ¬ C = wr.heap.size := by omega
        have n3 : ¬ wr.heap.size = pA := by omega
        have n4 : ¬ wr.heap.size = C := by omega
        rcases odE_two p a with pa | pa <;> rcases odE_two p b with pb | pb <;> rcases odE_two p c with pc | pc
        all_goals
          first
            | have ka : cdE a b c a p = true := by simp [cdE, mnE, pa, pb, pc]
            | have ka : cdE a b c a p = false := by simp [cdE, mnE, pa, pb, pc]
          first
            | have kb : cdE a b c b p = true := by simp [cdE, mnE, pa, pb, pc]
            | have kb : cdE a b c b p = false := by simp [cdE, mnE, pa, pb, pc]
          first
            | have kc : cdE a b c c p = true := by simp [cdE, mnE, pa, pb, pc]
            | have kc : cdE a b c c p = false := by simp [cdE, mnE, pa, pb, pc]
          rw [pa] at qa ma
          rw [pb] at qb mb
          rw [pc] at qc mc
          have ma2 := ma.symm
          have mb2 := mb.symm
          have mc2 := mc.symm
          have na2 := na.out
          have nb2 := nb.out
          have nc2 := nc.out
          simp only [nfS, ka, Bool.false_eq_true, if_true, if_false] at ba na2
          simp only [nfS, kb, Bool.false_eq_true, if_true, if_false] at bb nb2
          simp only [nfS, kc, Bool.false_eq_true, if_true, if_false] at bc nc2
          have na3 := Lib.hid na2
          have nb3 := Lib.hid nb2
          have nc3 := Lib.hid nc2
          obtain ⟨ba1, ba2⟩ := ba
          obtain ⟨bb1, bb2⟩ := bb
          obtain ⟨bc1, bc2⟩ := bc
          generalize exA p a = ea at *
          generalize exA p b = eb at *
          generalize exA p c = ec at *
          clear ma mb mc na nb nc na2 nb2 nc2 ka kb kc pa pb pc hEa hEb hEc
          go_wp2
          refine wp_loop_rounds 4 ?_
          rw [rounds_succ]
          go_wp2_with (first | (go_at_call 43; (with_reducible refine (hEa2.out _).mono ?_); rintro e v ⟨rfl, rfl⟩) | (go_at_call 43; (with_reducible refine (hEb2.out _).mono ?_); rintro e v ⟨rfl, rfl⟩) | (go_at_call 43; (with_reducible refine (hEc2.out _).mono ?_); rintro e v ⟨rfl, rfl⟩))
          rw [rounds_succ]
          go_wp2_with (first | (go_at_call 43; (with_reducible refine (hEa2.out _).mono ?_); rintro e v ⟨rfl, rfl⟩) | (go_at_call 43; (with_reducible refine (hEb2.out _).mono ?_); rintro e v ⟨rfl, rfl⟩) | (go_at_call 43; (with_reducible refine (hEc2.out _).mono ?_); rintro e v ⟨rfl, rfl⟩))
          rw [rounds_succ]
          go_wp2_with (first | (go_at_call 43; (with_reducible refine (hEa2.out _).mono ?_); rintro e v ⟨rfl, rfl⟩) | (go_at_call 43; (with_reducible refine (hEb2.out _).mono ?_); rintro e v ⟨rfl, rfl⟩) | (go_at_call 43; (with_reducible refine (hEc2.out _).mono ?_); rintro e v ⟨rfl, rfl⟩))
          rw [rounds_succ]
          go_wp2_with (first | (go_at_call 43; (with_reducible refine (hEa2.out _).mono ?_); rintro e v ⟨rfl, rfl⟩) | (go_at_call 43; (with_reducible refine (hEb2.out _).mono ?_); rintro e v ⟨rfl, rfl⟩) | (go_at_call 43; (with_reducible refine (hEc2.out _).mono ?_); rintro e v ⟨rfl, rfl⟩))
          refine wp_loop_rounds 4 ?_
          rw [rounds_succ]
          go_wp2
          rw [rounds_succ]
          go_wp2
          rw [rounds_succ]
          go_wp2
          rw [rounds_succ]
          go_wp2
          go_roundw
          case rel => exact ⟨k + 1, by go_num, hlt, Lib.hid (by rw [na3.out, nb3.out, nc3.out]; repeat (first | exact hO1.out | exact hL1.out | exact hR1.out | exact hG1.out | with_reducible apply Blk.s0 | with_reducible apply Blk.s1 | with_reducible apply Blk.s2 | (with_reducible apply Blk.farp; (first | omega | (simp <;> omega))) | with_reducible apply Blk.allocp)), Lib.hid (by repeat (first | exact hO1.out | exact hL1.out | exact hR1.out | exact hG1.out | with_reducible apply Blk.s0 | with_reducible apply Blk.s1 | with_reducible apply Blk.s2 | (with_reducible apply Blk.farp; (first | omega | (simp <;> omega))) | with_reducible apply Blk.allocp)), Lib.hid (by repeat (first | exact hO1.out | exact hL1.out | exact hR1.out | exact hG1.out | with_reducible apply Blk.s0 | with_reducible apply Blk.s1 | with_reducible apply Blk.s2 | (with_reducible apply Blk.farp; (first | omega | (simp <;> omega))) | with_reducible apply Blk.allocp)), Lib.hid (by repeat (first | exact hO1.out | exact hL1.out | exact hR1.out | exact hG1.out | with_reducible apply Blk.s0 | with_reducible apply Blk.s1 | with_reducible apply Blk.s2 | (with_reducible apply Blk.farp; (first | omega | (simp <;> omega))) | with_reducible apply Blk.allocp)), (by repeat (first | with_reducible exact Below.refl _ _ | with_reducible assumption | with_reducible apply Below.drew | with_reducible apply below_drewN | (with_reducible apply below_setp; (first | omega | (simp <;> omega))) | (with_reducible apply below_allocp; (first | omega | (simp <;> omega))) | (with_reducible refine below_viap (by assumption) ?_ ?_; (first | omega | (simp <;> omega)))))⟩
          case measure => simp [intOf]; omega
      · have e : k = m := by omega
        have hTk : L.take k = L := by rw [List.take_of_length_le]; rw [Hm.out]; omega
        rw [hTk, hfa.out, hfb.out, hfc.out] at hO1
        have cO := hO1.out.cell; have fO := hO1.out.frozen
        have cR := hR1.out.cell; have fR := hR1.out.frozen; have lR := hR1.out.lt
        have n1 : ¬ w.heap.size + 1 = wr.heap.size := by omega
        have n3 : ¬ wr.heap.size = w.heap.size + 1 := by omega
        have n5 : w.heap.size < wr.heap.size := by omega
        have hR4 := hR1.out
        clear hTk hba hbb hbc hfa hfb hfc hEa hEb hEc hTp HG hR1
        cases hx : trB (nfE a b c a) (nfE a b c b) (nfE a b c c)
        all_goals
          rw [hx] at hIn
          have Hx := Lib.hid hx
          clear hx
          obtain ⟨xa, hxa⟩ : ∃ x, nfE a b c a = x := ⟨_, rfl⟩
          obtain ⟨xb, hxb⟩ : ∃ x, nfE a b c b = x := ⟨_, rfl⟩
          obtain ⟨xc, hxc⟩ : ∃ x, nfE a b c c = x := ⟨_, rfl⟩
          have HX := Lib.hid (show (.tuple #[.agg #[.int .i64 xa, .int .i64 xb, .int .i64 xc], .bool true] : Value) = .tuple #[.agg #[.int .i64 (nfE a b c a), .int .i64 (nfE a b c b), .int .i64 (nfE a b c c)], .bool true] by rw [hxa, hxb, hxc])
          rw [hxa, hxb, hxc] at cO hIn
          clear hxa hxb hxc hO1
          subst e
          go_wp2_with (go_at_call 29; (with_reducible refine (hIn.out _).mono ?_); rintro e v5 ⟨rfl, hB5⟩; have hZ5 := hB5.size; (try simp at hZ5); (try have zl5 : w.heap.size < v5.heap.size := by omega); (try have ze5 : w.heap.size ≤ v5.heap.size := by omega); (try have zn5 : ¬ w.heap.size = v5.heap.size := by omega); (try have zm5 : ¬ v5.heap.size = w.heap.size := by omega); have hR5 : Blk v5 (w.heap.size + 1) 25 #[.int .i64 0, .int .i64 0, .int .i64 0] := Blk.call (by (repeat (first | with_reducible assumption | (with_reducible apply Blk.new_at; (first | rfl | (simp; done))) | with_reducible apply Blk.store3 | with_reducible apply Blk.store4 | (with_reducible apply Blk.farp; (first | omega | (simp <;> omega))) | with_reducible apply Blk.allocp | with_reducible apply Blk.drew | with_reducible apply Blk.drewN))) hB5; have cR5 := hR5.cell; have fR5 := hR5.frozen; have lR5 := hR5.lt; have mR5 := Nat.ne_of_gt lR5; have nR5 := Nat.ne_of_lt lR5; have hN5 : Blk v5 (wr.heap.size) 25 #[.int .i64 xa, .int .i64 xb, .int .i64 xc] := Blk.call (by (repeat (first | with_reducible assumption | (with_reducible apply Blk.new_at; (first | rfl | (simp; done))) | with_reducible apply Blk.store3 | with_reducible apply Blk.store4 | (with_reducible apply Blk.farp; (first | omega | (simp <;> omega))) | with_reducible apply Blk.allocp | with_reducible apply Blk.drew | with_reducible apply Blk.drewN))) hB5; have cN5 := hN5.cell; have fN5 := hN5.frozen; have lN5 := hN5.lt; have mN5 := Nat.ne_of_gt lN5; have nN5 := Nat.ne_of_lt lN5)
        · exact bodyPost_ret (v := .tuple #[.agg #[.int .i64 0, .int .i64 0, .int .i64 0], .bool false]) (by simp [results, Try.results18, go_sem, *]) rfl ⟨congrArg Ending.returned (HF.out Hx.out), (by repeat (first | with_reducible exact Below.refl _ _ | with_reducible assumption | with_reducible apply Below.drew | with_reducible apply below_drewN | (with_reducible apply below_setp; (first | omega | (simp <;> omega))) | (with_reducible apply below_allocp; (first | omega | (simp <;> omega))) | (with_reducible refine below_viap (by assumption) ?_ ?_; (first | omega | (simp <;> omega)))))⟩
        · exact bodyPost_ret (v := .tuple #[.agg #[.int .i64 xa, .int .i64 xb, .int .i64 xc], .bool true]) (by simp [results, Try.results18, go_sem, *]) rfl ⟨congrArg Ending.returned (HX.out.trans (HT.out Hx.out)), (by repeat (first | with_reducible exact Below.refl _ _ | with_reducible assumption | with_reducible apply Below.drew | with_reducible apply below_drewN | (with_reducible apply below_setp; (first | omega | (simp <;> omega))) | (with_reducible apply below_allocp; (first | omega | (simp <;> omega))) | (with_reducible refine below_viap (by assumption) ?_ ?_; (first | omega | (simp <;> omega)))))⟩
end Go.Proofs.Ytdhennlanngjgaa
