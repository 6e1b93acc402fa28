/- Contracts: SplitsOf, and the words of its law on lists of splits. -/
import Derived.Test.YtifkmjmhhklkjaaG5
namespace Go.Proofs.Ytifkmjmhhklkjaa
open Go.RowKit

/-- What SplitsOf gives. -/
def splitsL (d : Int) : List (Int × Int) := if isDisc d = true then ((clsL d).filter ambB).map sp else []
theorem splitsL_len (d : Int) : (splitsL d).length ≤ 1640 := by
  unfold splitsL
  split
  · rw [List.length_map]; exact Nat.le_trans (List.length_filter_le _ _) (clsL_len d)
  · exact Nat.zero_le _
theorem isDisc_bd {d : Int} (h : isDisc d = true) : -2000 ≤ d ∧ d ≤ -3 := by
  unfold isDisc at h
  simp at h
  omega

set_option maxHeartbeats 400000 in
theorem implSplitsOf_any (d : Int) (w : World) : Calls Try.prog 23 #[.int .i64 d] w fun e w' => ∃ v, e = .returned (.tuple #[v, .bool (isDisc d)]) ∧ OwnS (splitsL d) w v w' := by
  unfold splitsL
  cases h : isDisc d with
  | true =>
    obtain ⟨h1, h2⟩ := isDisc_bd h
    exact implSplits_any d w h1 h2 h
  | false =>
    go_enter Try.func23, Try.ntmps23
    go_wp2_with (go_at_call 55; (with_reducible refine (isNegDisc_eq d false _ h).mono ?_); rintro e v ⟨rfl, rfl⟩)
    go_ret2
    exact ⟨_, rfl, own_empty (Nat.le_refl _), (by repeat (first | with_reducible exact Below.refl _ _ | with_reducible assumption | with_reducible apply Below.drew | with_reducible apply below_drewN | (with_reducible apply below_setp; (first | omega | (simp <;> omega))) | (with_reducible apply below_allocp; (first | omega | (simp <;> omega))) | (with_reducible refine below_viap (by assumption) ?_ ?_; (first | omega | (simp <;> omega)))))⟩

set_option maxHeartbeats 400000 in
theorem specSplitsOf_any (d : Int) (w : World) : Calls Try.prog 22 #[.int .i64 d] w fun e w' => ∃ v, e = .returned (.tuple #[v, .bool (isDisc d)]) ∧ OwnS (splitsL d) w v w' := by
  unfold splitsL
  cases h : isDisc d with
  | true =>
    obtain ⟨h1, h2⟩ := isDisc_bd h
    rw [if_pos rfl]
    have H := amAll_any d
    generalize ((clsL d).filter ambB).map sp = L at *
    go_enter Try.func22, Try.ntmps22
    go_wp2_with (first | (go_at_call 51; (with_reducible refine (reDisc_eq d true _ h).mono ?_); rintro e v ⟨rfl, rfl⟩) | (go_at_call 63; refine (H _ h1 h2).mono ?_; rintro e w1 ⟨v, rfl, ho⟩))
    go_ret2
    exact ⟨_, rfl, ho⟩
  | false =>
    go_enter Try.func22, Try.ntmps22
    go_wp2_with (go_at_call 51; (with_reducible refine (reDisc_eq d false _ h).mono ?_); rintro e v ⟨rfl, rfl⟩)
    go_ret2
    exact ⟨_, rfl, World.ownsRow_nil _ _ _ _, (by repeat (first | with_reducible exact Below.refl _ _ | with_reducible assumption | with_reducible apply Below.drew | with_reducible apply below_drewN | (with_reducible apply below_setp; (first | omega | (simp <;> omega))) | (with_reducible apply below_allocp; (first | omega | (simp <;> omega))) | (with_reducible refine below_viap (by assumption) ?_ ?_; (first | omega | (simp <;> omega)))))⟩

/-- The element k of an owned list of splits. -/
theorem own_elem2 {w : World} {B : Nat} {e : TypeId} {base : Option Addr} {n cap : Nat} {L : List (Int × Int)} (h : w.ownsRow B e 2 (.slice base n cap) L.length (cellsS L)) {k : Nat} (hk : k < L.length) :
    ∃ g, base = some ⟨g, 0, none⟩ ∧ g < w.heap.size ∧ w.cell? ⟨g, k * 2, none⟩ = some (.int .i64 L[k].1) ∧ w.cell? ⟨g, k * 2 + 1, none⟩ = some (.int .i64 L[k].2) := by
  rcases own_form h with ⟨hv, h0⟩ | ⟨g, c, hv, h1, h2, h3⟩
  · omega
  · injection hv with e1 e2 e3
    obtain ⟨c1, c2⟩ := cellsS_get L k hk
    rw [show k * 2 = 2 * k by omega]
    exact ⟨g, e1, h2, h3 _ _ c1, h3 _ _ c2⟩

set_option maxRecDepth 100000 in
set_option maxHeartbeats 1600000 in
theorem eqSplitS_same (v u : Value) (B B2 : Nat) (L : List (Int × Int)) (w : World) (hl : L.length ≤ 100000) (h1 : w.ownsRow B 30 2 v L.length (cellsS L)) (h2 : w.ownsRow B2 30 2 u L.length (cellsS L)) :
    Calls Try.prog 24 #[v, u] w fun e w' => e = .returned (.bool true) ∧ Below w.heap.size w w' := by
  obtain ⟨b1, c1, rfl⟩ := own_shape h1
  obtain ⟨b2, c2, rfl⟩ := own_shape h2
  have H1 := Lib.hid h1
  have H2 := Lib.hid h2
  clear h1 h2
  go_enter Try.func24, Try.ntmps24
  go_wp2
  go_loopw [5] (fun i wr => ∃ k : Nat, i = .int .i64 k ∧ k ≤ L.length ∧ Below w.heap.size w wr) (fun i _ => L.length - (intOf i).toNat)
  case atStart => exact ⟨0, rfl, Nat.zero_le _, (by repeat (first | with_reducible exact Below.refl _ _ | with_reducible assumption | with_reducible apply Below.drew | with_reducible apply below_drewN | (with_reducible apply below_setp; (first | omega | (simp <;> omega))) | (with_reducible apply below_allocp; (first | omega | (simp <;> omega))) | (with_reducible refine below_viap (by assumption) ?_ ?_; (first | omega | (simp <;> omega)))))⟩
  case round =>
    obtain ⟨k, rfl, hk, hbel⟩ := hrel
    by_cases hlt : k < L.length
    · obtain ⟨g1, rfl, hg1, d1, d2⟩ := own_elem2 H1.out hlt
      obtain ⟨g2, rfl, hg2, e1, e2⟩ := own_elem2 H2.out hlt
      have d3 := (hbel.cell (p := ⟨g1, k * 2, none⟩) hg1).trans d1
      have d4 := (hbel.cell (p := ⟨g1, k * 2 + 1, none⟩) hg1).trans d2
      have e3 := (hbel.cell (p := ⟨g2, k * 2, none⟩) hg2).trans e1
      have e4 := (hbel.cell (p := ⟨g2, k * 2 + 1, none⟩) hg2).trans e2
      clear d1 d2 e1 e2
      generalize L[k].1 = r at d3 e3
      generalize L[k].2 = s at d4 e4
      have hz := hbel.size
      have hg3 : g1 < wr.heap.size := by omega
      have hg4 : g2 < wr.heap.size := by omega
      go_wp2
      refine wp_region_calm 10 (Below (wr.heap.size) _) (by kernel_rfl) (by kernel_rfl) ((Below.refl _ _).drew) ?_
      simp only [List.take_succ_cons, List.take_zero, List.drop_succ_cons, List.drop_zero]
      repeat (first | (apply wpCalm_go; go_simp; (intro w' hw' hcc hff; go_simp; first | exact rfl | (refine (eqSplit_same r s _).mono ?_; rintro e w1 ⟨rfl, hb⟩; exact ⟨rfl, calm_call (Nat.le_refl _) hw' hb⟩)); (intro K hK; go_simp; refine hK _ ?_; clear hK K)) | (apply wpCalm_skip; go_simp; (intro K hK; go_simp; refine hK _ ?_; clear hK K)))
      refine wpCalm_nil ?_
      intro w1 hw1
      have hcc := (calm_cells hw1).1
      have hff := (calm_cells hw1).2
      have hss := calm_size hw1
      have hsz := hw1.size
      (try simp at hsz)
      go_wp2
      exact ⟨⟨k + 1, rfl, hlt, below_via hbel hw1 hz⟩, by simp [intOf]; omega⟩
    · go_wp2
      go_ret
      exact ⟨rfl, hbel⟩
/-- The first n pairs of a row bear the marks. -/
def Marked (m : Int) (n : Nat) (cur : Array Value) : Prop := ∀ j, j < n → cur[j * 2]? = some (.int .i64 (m + 2 * j)) ∧ cur[j * 2 + 1]? = some (.int .i64 (m + 2 * j + 1))
theorem Marked.next {m : Int} {k : Nat} {cur : Array Value} (h : Marked m k cur) (hs : k * 2 + 2 ≤ cur.size) :
    Marked m (k + 1) ((cur.setIfInBounds (k * 2) (.int .i64 (m + 2 * k))).setIfInBounds (k * 2 + 1) (.int .i64 (m + 2 * k + 1))) := by
  intro j hj
  by_cases he : j = k
  · subst he
    constructor
    · rw [Array.getElem?_setIfInBounds, if_neg (by omega), Array.getElem?_setIfInBounds, if_pos rfl, if_pos (by omega)]
    · rw [Array.getElem?_setIfInBounds, if_pos rfl, if_pos (by simp; omega)]
  · obtain ⟨h1, h2⟩ := h j (by omega)
    constructor
    · rw [Array.getElem?_setIfInBounds, if_neg (by omega), Array.getElem?_setIfInBounds, if_neg (by omega), h1]
    · rw [Array.getElem?_setIfInBounds, if_neg (by omega), Array.getElem?_setIfInBounds, if_neg (by omega), h2]
theorem grown_set (w : World) (a : Addr) (u : Value) : w.grownBy (w.setCell a u) (some a.block) :=
  ⟨rfl, rfl, rfl, by simp, fun k _ hne => Below.heap_setCell w a u k (fun e => hne (by rw [e]))⟩
/-- A marked list of n splits. -/
def MarkV (B : Nat) (m : Int) (n : Nat) (v : Value) (w : World) : Prop :=
  (v = .slice none 0 0 ∧ n = 0) ∨ ∃ g cap cur, v = .slice (some ⟨g, 0, none⟩) n cap ∧ B ≤ g ∧ Blk w g 30 cur ∧ Marked m n cur

set_option maxRecDepth 100000 in
set_option maxHeartbeats 1600000 in
theorem markSplitS_any (v : Value) (B n : Nat) (xs : List Value) (w : World) (hl : n ≤ 100000) (h : w.ownsRow B 30 2 v n xs) :
    Calls Try.prog 25 #[v, .int .i64 1] w fun e w' => e = .returned (.int .i64 (1 + 2 * n)) ∧ MarkV B 1 n v w' ∧ w.grownBy w' v.ownBlock := by
  rcases h.2 with ⟨rfl, rfl⟩ | ⟨g, cap, cur0, rfl, hbg, hg, hnc, hcm, hcs, htake⟩
  · clear h
    go_enter Try.func25, Try.ntmps25
    go_wp2
    refine wp_loop_rounds 1 ?_
    rw [rounds_succ]
    go_wp2
    go_ret
    exact ⟨rfl, .inl ⟨rfl, rfl⟩, ⟨rfl, rfl, rfl, Nat.le_refl _, fun _ _ _ => rfl⟩⟩
  · have hblk : Blk w g 30 cur0 := hg
    have hs0 : n * 2 ≤ cur0.size := by rw [hcs]; omega
    clear h hg hcs htake
    go_enter Try.func25, Try.ntmps25
    go_wp2
    go_loopw [1, 5] (fun m i wr => ∃ k : Nat, i = .int .i64 k ∧ k ≤ n ∧ m = .int .i64 (1 + 2 * k) ∧ ∃ cur, Hid (Blk wr g 30 cur) ∧ Hid (n * 2 ≤ cur.size) ∧ Hid (Marked 1 k cur) ∧ Hid (w.grownBy wr (some g))) (fun _ i _ => n - (intOf i).toNat)
    case atStart => exact ⟨0, rfl, Nat.zero_le _, by simp, cur0, Lib.hid hblk, Lib.hid hs0, Lib.hid (fun j hj => absurd hj (Nat.not_lt_zero _)), Lib.hid ⟨rfl, rfl, rfl, Nat.le_refl _, fun _ _ _ => rfl⟩⟩
    case round =>
      clear hblk hs0
      obtain ⟨k, rfl, hk, rfl, cur, hbk, hsz, hmk, hgr⟩ := hrel
      by_cases hlt : k < n
      · obtain ⟨x0, c0⟩ : ∃ x, wr.cell? ⟨g, k * 2, none⟩ = some x := ⟨_, (hbk.out.cell _).trans (Array.getElem?_eq_getElem (by have := hsz.out; omega))⟩
        obtain ⟨x1, c1⟩ : ∃ x, wr.cell? ⟨g, k * 2 + 1, none⟩ = some x := ⟨_, (hbk.out.cell _).trans (Array.getElem?_eq_getElem (by have := hsz.out; omega))⟩
        have f0 := hbk.out.frozen (k * 2)
        have f1 := hbk.out.frozen (k * 2 + 1)
        go_wp2
        exact ⟨⟨k + 1, rfl, hlt, by congr 1 <;> omega, _, Lib.hid ((hbk.out.set_ _ _).set_ _ _), Lib.hid (by simp; exact hsz.out), Lib.hid (hmk.out.next (by have := hsz.out; omega)), Lib.hid ((hgr.out.trans (grown_set _ _ _)).trans (grown_set _ _ _))⟩, by simp [intOf]; omega⟩
      · have e : k = n := by omega
        subst e
        go_wp2
        go_ret
        exact ⟨rfl, .inr ⟨g, cap, cur, rfl, hbg, hbk.out, hmk.out⟩, hgr.out⟩

set_option maxRecDepth 100000 in
set_option maxHeartbeats 1600000 in
theorem heldSplitS_any (v : Value) (B n : Nat) (w : World) (hl : n ≤ 100000) (h : MarkV B 1 n v w) :
    Calls Try.prog 26 #[v, .int .i64 1] w fun e w' => e = .returned (.int .i64 (1 + 2 * n)) ∧ w = w' := by
  rcases h with ⟨rfl, rfl⟩ | ⟨g, cap, cur, rfl, hbg, hblk, hmk⟩
  · go_enter Try.func26, Try.ntmps26
    go_wp2
    refine wp_loop_rounds 1 ?_
    rw [rounds_succ]
    go_wp2
    go_ret
    exact ⟨rfl, rfl⟩
  · have Hb := Lib.hid hblk
    have Hm := Lib.hid hmk
    clear hblk hmk
    go_enter Try.func26, Try.ntmps26
    go_wp2
    go_loopw [1, 5] (fun m i wr => ∃ k : Nat, i = .int .i64 k ∧ k ≤ n ∧ m = .int .i64 (1 + 2 * k) ∧ w = wr) (fun _ i _ => n - (intOf i).toNat)
    case atStart => exact ⟨0, rfl, Nat.zero_le _, by simp, rfl⟩
    case round =>
      obtain ⟨k, rfl, hk, rfl, rfl⟩ := hrel
      by_cases hlt : k < n
      · obtain ⟨m0, m1⟩ := Hm.out k hlt
        have c0 := (Hb.out.cell (k * 2)).trans m0
        have c1 := (Hb.out.cell (k * 2 + 1)).trans m1
        clear m0 m1
        go_wp2
        exact ⟨⟨k + 1, rfl, hlt, by congr 1 <;> omega, by simp⟩, by simp [intOf]; omega⟩
      · have e : k = n := by omega
        subst e
        go_wp2
        go_ret
        exact ⟨rfl, rfl⟩
end Go.Proofs.Ytifkmjmhhklkjaa
