/- Contracts: the words of the laws on lists of points: equality, marks. -/
import Derived.Test.YtblcmkhkbgikoaaI4
import Derived.Test.YtblcmkhkbgikoaaG7
namespace Go.Proofs.Ytblcmkhkbgikoaa
open Go.RowKit
set_option maxHeartbeats 400000 in
theorem eqPoint_same (a b : Int) (w : World) :
    Calls Try.prog 22 #[.agg #[.int .i64 a, .int .i64 b], .agg #[.int .i64 a, .int .i64 b]] w fun e w' => e = .returned (.bool true) ∧ Below w.heap.size w w' := by
  go_enter Try.func22, Try.ntmps22
  go_wp2
  go_ret
  exact ⟨rfl, (by repeat (first | with_reducible exact Below.refl _ _ | with_reducible assumption | with_reducible apply Below.drew | with_reducible apply below_drewN | (with_reducible apply below_setp; (first | omega | (simp <;> omega))) | (with_reducible apply below_allocp; (first | omega | (simp <;> omega))) | (with_reducible refine below_viap (by assumption) ?_ ?_; (first | omega | (simp <;> omega)))))⟩
set_option maxRecDepth 100000 in
set_option maxHeartbeats 1600000 in
theorem eqPointS_same (v u : Value) (B B2 : Nat) (L : List (Int × Int)) (w : World) (hl : L.length ≤ 100000) (h1 : w.ownsRow B 45 2 v L.length (cellsP L)) (h2 : w.ownsRow B2 45 2 u L.length (cellsP L)) :
    Calls Try.prog 8 #[v, u] w fun e w' => e = .returned (.bool true) ∧ Below w.heap.size w w' := by
  obtain ⟨b1, c1, rfl⟩ := own_shape h1
  obtain ⟨b2, c2, rfl⟩ := own_shape h2
  have H1 := Lib.hid h1
  have H2 := Lib.hid h2
  clear h1 h2
  go_enter Try.func8, Try.ntmps8
  go_wp2
  go_loopw [5] (fun i wr => ∃ k : Nat, i = .int .i64 k ∧ k ≤ L.length ∧ Below w.heap.size w wr) (fun i _ => L.length - (intOf i).toNat)
  case atStart => exact ⟨0, rfl, Nat.zero_le _, (by repeat (first | with_reducible exact Below.refl _ _ | with_reducible assumption | with_reducible apply Below.drew | with_reducible apply below_drewN | (with_reducible apply below_setp; (first | omega | (simp <;> omega))) | (with_reducible apply below_allocp; (first | omega | (simp <;> omega))) | (with_reducible refine below_viap (by assumption) ?_ ?_; (first | omega | (simp <;> omega)))))⟩
  case round =>
    obtain ⟨k, rfl, hk, hbel⟩ := hrel
    by_cases hlt : k < L.length
    · obtain ⟨g1, rfl, hg1, d1, d2⟩ := own_elemP H1.out hlt
      obtain ⟨g2, rfl, hg2, e1, e2⟩ := own_elemP H2.out hlt
      have d4 := (hbel.cell (p := ⟨g1, k * 2, none⟩) hg1).trans d1
      have d5 := (hbel.cell (p := ⟨g1, k * 2 + 1, none⟩) hg1).trans d2
      have e4 := (hbel.cell (p := ⟨g2, k * 2, none⟩) hg2).trans e1
      have e5 := (hbel.cell (p := ⟨g2, k * 2 + 1, none⟩) hg2).trans e2
      clear d1 d2 e1 e2
      generalize L[k].1 = r at d4 e4
      generalize L[k].2 = s at d5 e5
      have hz := hbel.size
      have hg3 : g1 < wr.heap.size := by omega
      have hg4 : g2 < wr.heap.size := by omega
      go_wp2
      refine wp_region_calm 10 (Below (wr.heap.size) _) (by kernel_rfl) (by kernel_rfl) ((Below.refl _ _).drew) ?_
      simp only [List.take_succ_cons, List.take_zero, List.drop_succ_cons, List.drop_zero]
      repeat (first | (apply wpCalm_go; go_simp; (intro w' hw' hcc hff; go_simp; first | exact rfl | (refine (eqPoint_same r s _).mono ?_; rintro e w1 ⟨rfl, hb⟩; exact ⟨rfl, calm_call (Nat.le_refl _) hw' hb⟩)); (intro K hK; go_simp; refine hK _ ?_; clear hK K)) | (apply wpCalm_skip; go_simp; (try (focus (simp [undef]; done))); (intro K hK; go_simp; refine hK _ ?_; clear hK K)))
      refine wpCalm_nil ?_
      intro w1 hw1
      have hcc := (calm_cells hw1).1
      have hff := (calm_cells hw1).2
      have hss := calm_size hw1
      have hsz := hw1.size
      (try simp at hsz)
      go_wp2
      exact ⟨⟨k + 1, rfl, hlt, below_via hbel hw1 hz⟩, by simp [intOf]; omega⟩
    · go_wp2
      go_ret
      exact ⟨rfl, hbel⟩
/-- The first n pairs of a row bear the marks. -/
def MarkP2 (m : Int) (n : Nat) (cur : Array Value) : Prop := ∀ j, j < n → cur[j * 2]? = some (.int .i64 (m + 2 * j)) ∧ cur[j * 2 + 1]? = some (.int .i64 (m + 2 * j + 1))
theorem MarkP2.next {m : Int} {k : Nat} {cur : Array Value} (h : MarkP2 m k cur) (hs : k * 2 + 2 ≤ cur.size) :
    MarkP2 m (k + 1) ((cur.setIfInBounds (k * 2) (.int .i64 (m + 2 * k))).setIfInBounds (k * 2 + 1) (.int .i64 (m + 2 * k + 1))) := by
  intro j hj
  by_cases he : j = k
  · subst he
    refine ⟨?_, ?_⟩
    · rw [Array.getElem?_setIfInBounds, if_neg (by omega), Array.getElem?_setIfInBounds, if_pos rfl, if_pos (by omega)]
    · rw [Array.getElem?_setIfInBounds, if_pos rfl, if_pos (by simp; omega)]
  · obtain ⟨h1, h2⟩ := h j (by omega)
    refine ⟨?_, ?_⟩
    · rw [Array.getElem?_setIfInBounds, if_neg (by omega), Array.getElem?_setIfInBounds, if_neg (by omega), h1]
    · rw [Array.getElem?_setIfInBounds, if_neg (by omega), Array.getElem?_setIfInBounds, if_neg (by omega), h2]
/-- A marked list of n points. -/
def MarkPt (B : Nat) (m : Int) (n : Nat) (v : Value) (w : World) : Prop :=
  (v = .slice none 0 0 ∧ n = 0) ∨ ∃ g cap cur, v = .slice (some ⟨g, 0, none⟩) n cap ∧ B ≤ g ∧ Blk w g 45 cur ∧ MarkP2 m n cur
theorem MarkPt.kept {B n : Nat} {m : Int} {v : Value} {w w' : World} (h : MarkPt B m n v w) (hb : Below w.heap.size w w') : MarkPt B m n v w' := by
  rcases h with h | ⟨g, cap, cur, h1, h2, h3, h4⟩
  · exact .inl h
  · exact .inr ⟨g, cap, cur, h1, h2, h3.call hb, h4⟩
set_option maxRecDepth 100000 in
set_option maxHeartbeats 1600000 in
theorem markPointS_any (v : Value) (B n : Nat) (xs : List Value) (w : World) (hl : n ≤ 100000) (h : w.ownsRow B 45 2 v n xs) :
    Calls Try.prog 9 #[v, .int .i64 1] w fun e w' => e = .returned (.int .i64 (1 + 2 * n)) ∧ MarkPt B 1 n v w' ∧ w.grownBy w' v.ownBlock := by
  rcases h.2 with ⟨rfl, rfl⟩ | ⟨g, cap, cur0, rfl, hbg, hg, hnc, hcm, hcs, htake⟩
  · clear h
    go_enter Try.func9, Try.ntmps9
    go_wp2
    refine wp_loop_rounds 1 ?_
    rw [rounds_succ]
    go_wp2
    go_ret
    exact ⟨rfl, .inl ⟨rfl, rfl⟩, ⟨rfl, rfl, rfl, Nat.le_refl _, fun _ _ _ => rfl⟩⟩
  · have hblk : Blk w g 45 cur0 := hg
    have hs0 : n * 2 ≤ cur0.size := by rw [hcs]; omega
    clear h hg hcs htake
    go_enter Try.func9, Try.ntmps9
    go_wp2
    go_loopw [1, 5] (fun m i wr => ∃ k : Nat, i = .int .i64 k ∧ k ≤ n ∧ m = .int .i64 (1 + 2 * k) ∧ ∃ cur, Hid (Blk wr g 45 cur) ∧ Hid (n * 2 ≤ cur.size) ∧ Hid (MarkP2 1 k cur) ∧ Hid (w.grownBy wr (some g))) (fun _ i _ => n - (intOf i).toNat)
    case atStart => exact ⟨0, rfl, Nat.zero_le _, by simp, cur0, Lib.hid hblk, Lib.hid hs0, Lib.hid (fun j hj => absurd hj (Nat.not_lt_zero _)), Lib.hid ⟨rfl, rfl, rfl, Nat.le_refl _, fun _ _ _ => rfl⟩⟩
    case round =>
      clear hblk hs0
      obtain ⟨k, rfl, hk, rfl, cur, hbk, hsz, hmk, hgr⟩ := hrel
      by_cases hlt : k < n
      · obtain ⟨x0, c0⟩ : ∃ x, wr.cell? ⟨g, k * 2, none⟩ = some x := ⟨_, (hbk.out.cell _).trans (Array.getElem?_eq_getElem (by have := hsz.out; omega))⟩
        obtain ⟨x1, c1⟩ : ∃ x, wr.cell? ⟨g, k * 2 + 1, none⟩ = some x := ⟨_, (hbk.out.cell _).trans (Array.getElem?_eq_getElem (by have := hsz.out; omega))⟩
        have f0 := hbk.out.frozen (k * 2)
        have f1 := hbk.out.frozen (k * 2 + 1)
        go_wp2
        exact ⟨⟨k + 1, rfl, hlt, by congr 1 <;> omega, _, Lib.hid ((hbk.out.set_ _ _).set_ _ _), Lib.hid (by simp; exact hsz.out), Lib.hid (hmk.out.next (by have := hsz.out; omega)), Lib.hid ((hgr.out.trans (grown_set3 _ _ _)).trans (grown_set3 _ _ _))⟩, by simp [intOf]; omega⟩
      · have e : k = n := by omega
        subst e
        go_wp2
        go_ret
        exact ⟨rfl, .inr ⟨g, cap, cur, rfl, hbg, hbk.out, hmk.out⟩, hgr.out⟩
set_option maxRecDepth 100000 in
set_option maxHeartbeats 1600000 in
theorem heldPointS_any (v : Value) (B n : Nat) (w : World) (hl : n ≤ 100000) (h : MarkPt B 1 n v w) :
    Calls Try.prog 10 #[v, .int .i64 1] w fun e w' => e = .returned (.int .i64 (1 + 2 * n)) ∧ w = w' := by
  rcases h with ⟨rfl, rfl⟩ | ⟨g, cap, cur, rfl, hbg, hblk, hmk⟩
  · go_enter Try.func10, Try.ntmps10
    go_wp2
    refine wp_loop_rounds 1 ?_
    rw [rounds_succ]
    go_wp2
    go_ret
    exact ⟨rfl, rfl⟩
  · have Hb := Lib.hid hblk
    have Hm := Lib.hid hmk
    clear hblk hmk
    go_enter Try.func10, Try.ntmps10
    go_wp2
    go_loopw [1, 5] (fun m i wr => ∃ k : Nat, i = .int .i64 k ∧ k ≤ n ∧ m = .int .i64 (1 + 2 * k) ∧ w = wr) (fun _ i _ => n - (intOf i).toNat)
    case atStart => exact ⟨0, rfl, Nat.zero_le _, by simp, rfl⟩
    case round =>
      obtain ⟨k, rfl, hk, rfl, rfl⟩ := hrel
      by_cases hlt : k < n
      · obtain ⟨m0, m1⟩ := Hm.out k hlt
        have c0 := (Hb.out.cell (k * 2)).trans m0
        have c1 := (Hb.out.cell (k * 2 + 1)).trans m1
        clear m0 m1
        go_wp2
        exact ⟨⟨k + 1, rfl, hlt, by congr 1 <;> omega, by simp⟩, by simp [intOf]; omega⟩
      · have e : k = n := by omega
        subst e
        go_wp2
        go_ret
        exact ⟨rfl, rfl⟩
end Go.Proofs.Ytblcmkhkbgikoaa
