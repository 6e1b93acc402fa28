/- Contracts: the words of the laws on lists of integers. -/
import Derived.Test.YtjfcaafmlghjlaaN5
namespace Go.Proofs.Ytjfcaafmlghjlaa
open Go.RowKit

set_option maxRecDepth 100000 in
set_option maxHeartbeats 1600000 in
theorem eqIntS_same (v u : Value) (B B2 : Nat) (L : List Int) (w : World) (hl : L.length ≤ 10000000) (h1 : w.ownsRow B 3 1 v L.length (cellsI L)) (h2 : w.ownsRow B2 3 1 u L.length (cellsI L)) :
    Calls Try.prog 84 #[v, u] w fun e w' => e = .returned (.bool true) ∧ Below w.heap.size w w' := by
  obtain ⟨b1, c1, rfl⟩ := own_shape h1
  obtain ⟨b2, c2, rfl⟩ := own_shape h2
  have H1 := Lib.hid h1
  have H2 := Lib.hid h2
  clear h1 h2
  go_enter Try.func84, Try.ntmps84
  go_wp2
  go_loopw [5] (fun i wr => ∃ k : Nat, i = .int .i64 k ∧ k ≤ L.length ∧ Below w.heap.size w wr) (fun i _ => L.length - (intOf i).toNat)
  case atStart => exact ⟨0, rfl, Nat.zero_le _, (by repeat (first | with_reducible exact Below.refl _ _ | with_reducible assumption | with_reducible apply Below.drew | with_reducible apply below_drewN | (with_reducible apply below_setp; (first | omega | (simp <;> omega))) | (with_reducible apply below_allocp; (first | omega | (simp <;> omega))) | (with_reducible refine below_viap (by assumption) ?_ ?_; (first | omega | (simp <;> omega)))))⟩
  case round =>
    obtain ⟨k, rfl, hk, hbel⟩ := hrel
    by_cases hlt : k < L.length
    · obtain ⟨g1, rfl, hg1, d1⟩ := own_elemI H1.out hlt
      obtain ⟨g2, rfl, hg2, e1⟩ := own_elemI H2.out hlt
      have d4 := (hbel.cell (p := ⟨g1, k, none⟩) hg1).trans d1
      have e4 := (hbel.cell (p := ⟨g2, k, none⟩) hg2).trans e1
      clear d1 e1
      generalize L[k] = r at d4 e4
      have hz := hbel.size
      have hg3 : g1 < wr.heap.size := by omega
      have hg4 : g2 < wr.heap.size := by omega
      go_wp2
      refine wp_region_calm 9 (Below (wr.heap.size) _) (by kernel_rfl) (by kernel_rfl) ((Below.refl _ _).drew) ?_
      simp only [List.take_succ_cons, List.take_zero, List.drop_succ_cons, List.drop_zero]
      repeat (first | (apply wpCalm_go; go_simp; (intro w' hw' hcc hff; go_simp; first | exact rfl | fail); (intro K hK; go_simp; refine hK _ ?_; clear hK K)) | (apply wpCalm_skip; go_simp; (intro K hK; go_simp; refine hK _ ?_; clear hK K)))
      refine wpCalm_nil ?_
      intro w1 hw1
      have hcc := (calm_cells hw1).1
      have hff := (calm_cells hw1).2
      have hss := calm_size hw1
      have hsz := hw1.size
      (try simp at hsz)
      go_wp2
      exact ⟨⟨k + 1, rfl, hlt, below_via hbel hw1 hz⟩, by simp [intOf]; omega⟩
    · go_wp2
      go_ret
      exact ⟨rfl, hbel⟩

/-- The first n cells of a row bear the marks. -/
def Mark1 (m : Int) (n : Nat) (cur : Array Value) : Prop := ∀ j, j < n → cur[j]? = some (.int .i64 (m + j))
theorem Mark1.next {m : Int} {k : Nat} {cur : Array Value} (h : Mark1 m k cur) (hs : k + 1 ≤ cur.size) :
    Mark1 m (k + 1) (cur.setIfInBounds k (.int .i64 (m + k))) := by
  intro j hj
  by_cases he : j = k
  · subst he
    rw [Array.getElem?_setIfInBounds, if_pos rfl, if_pos (by omega)]
  · rw [Array.getElem?_setIfInBounds, if_neg (by omega), h j (by omega)]
theorem grown_set1 (w : World) (a : Addr) (u : Value) : w.grownBy (w.setCell a u) (some a.block) :=
  ⟨rfl, rfl, rfl, by simp, fun k _ hne => Below.heap_setCell w a u k (fun e => hne (by rw [e]))⟩
/-- A marked list of n integers. -/
def MarkI (B : Nat) (m : Int) (n : Nat) (v : Value) (w : World) : Prop :=
  (v = .slice none 0 0 ∧ n = 0) ∨ ∃ g cap cur, v = .slice (some ⟨g, 0, none⟩) n cap ∧ B ≤ g ∧ Blk w g 3 cur ∧ Mark1 m n cur
theorem MarkI.kept {B n : Nat} {m : Int} {v : Value} {w w' : World} (h : MarkI B m n v w) (hb : Below w.heap.size w w') : MarkI B m n v w' := by
  rcases h with h | ⟨g, cap, cur, h1, h2, h3, h4⟩
  · exact .inl h
  · exact .inr ⟨g, cap, cur, h1, h2, h3.call hb, h4⟩
theorem apart_ltI {w w2 : World} {B B2 : Nat} {e e2 : TypeId} {sz n sz2 n2 : Nat} {v vl : Value} {xs xs2 : List Value} (h : w.ownsRow B e sz vl n xs) (h2 : w2.ownsRow B2 e2 sz2 v n2 xs2) (hB : w.heap.size ≤ B2) : vl.ownBlock = none ∨ vl.ownBlock ≠ v.ownBlock := by
  cases h3 : vl.ownBlock with
  | none => exact .inl rfl
  | some b =>
    have k1 := (h.lt b h3).2
    refine .inr (fun he => ?_)
    have k2 := (h2.lt b he.symm).1
    omega

set_option maxRecDepth 100000 in
set_option maxHeartbeats 1600000 in
theorem markIntS_any (v : Value) (B n : Nat) (xs : List Value) (w : World) (hl : n ≤ 10000000) (h : w.ownsRow B 3 1 v n xs) :
    Calls Try.prog 85 #[v, .int .i64 1] w fun e w' => e = .returned (.int .i64 (1 + n)) ∧ MarkI B 1 n v w' ∧ w.grownBy w' v.ownBlock := by
  rcases h.2 with ⟨rfl, rfl⟩ | ⟨g, cap, cur0, rfl, hbg, hg, hnc, hcm, hcs, htake⟩
  · clear h
    go_enter Try.func85, Try.ntmps85
    go_wp2
    refine wp_loop_rounds 1 ?_
    rw [rounds_succ]
    go_wp2
    go_ret
    exact ⟨rfl, .inl ⟨rfl, rfl⟩, ⟨rfl, rfl, rfl, Nat.le_refl _, fun _ _ _ => rfl⟩⟩
  · have hblk : Blk w g 3 cur0 := hg
    have hs0 : n ≤ cur0.size := by rw [hcs]; omega
    clear h hg hcs htake
    go_enter Try.func85, Try.ntmps85
    go_wp2
    go_loopw [1, 5] (fun m i wr => ∃ k : Nat, i = .int .i64 k ∧ k ≤ n ∧ m = .int .i64 (1 + k) ∧ ∃ cur, Hid (Blk wr g 3 cur) ∧ Hid (n ≤ cur.size) ∧ Hid (Mark1 1 k cur) ∧ Hid (w.grownBy wr (some g))) (fun _ i _ => n - (intOf i).toNat)
    case atStart => exact ⟨0, rfl, Nat.zero_le _, by simp, cur0, Lib.hid hblk, Lib.hid hs0, Lib.hid (fun j hj => absurd hj (Nat.not_lt_zero _)), Lib.hid ⟨rfl, rfl, rfl, Nat.le_refl _, fun _ _ _ => rfl⟩⟩
    case round =>
      clear hblk hs0
      obtain ⟨k, rfl, hk, rfl, cur, hbk, hsz, hmk, hgr⟩ := hrel
      by_cases hlt : k < n
      · obtain ⟨x0, c0⟩ : ∃ x, wr.cell? ⟨g, k, none⟩ = some x := ⟨_, (hbk.out.cell _).trans (Array.getElem?_eq_getElem (by have := hsz.out; omega))⟩
        have f0 := hbk.out.frozen k
        go_wp2
        exact ⟨⟨k + 1, rfl, hlt, by congr 1 <;> omega, _, Lib.hid (hbk.out.set_ _ _), Lib.hid (by simp; exact hsz.out), Lib.hid (hmk.out.next (by have := hsz.out; omega)), Lib.hid (hgr.out.trans (grown_set1 _ _ _))⟩, by simp [intOf]; omega⟩
      · have e : k = n := by omega
        subst e
        go_wp2
        go_ret
        exact ⟨rfl, .inr ⟨g, cap, cur, rfl, hbg, hbk.out, hmk.out⟩, hgr.out⟩

set_option maxRecDepth 100000 in
set_option maxHeartbeats 1600000 in
theorem heldIntS_any (v : Value) (B n : Nat) (w : World) (hl : n ≤ 10000000) (h : MarkI B 1 n v w) :
    Calls Try.prog 86 #[v, .int .i64 1] w fun e w' => e = .returned (.int .i64 (1 + n)) ∧ w = w' := by
  rcases h with ⟨rfl, rfl⟩ | ⟨g, cap, cur, rfl, hbg, hblk, hmk⟩
  · go_enter Try.func86, Try.ntmps86
    go_wp2
    refine wp_loop_rounds 1 ?_
    rw [rounds_succ]
    go_wp2
    go_ret
    exact ⟨rfl, rfl⟩
  · have Hb := Lib.hid hblk
    have Hm := Lib.hid hmk
    clear hblk hmk
    go_enter Try.func86, Try.ntmps86
    go_wp2
    go_loopw [1, 5] (fun m i wr => ∃ k : Nat, i = .int .i64 k ∧ k ≤ n ∧ m = .int .i64 (1 + k) ∧ w = wr) (fun _ i _ => n - (intOf i).toNat)
    case atStart => exact ⟨0, rfl, Nat.zero_le _, by simp, rfl⟩
    case round =>
      obtain ⟨k, rfl, hk, rfl, rfl⟩ := hrel
      by_cases hlt : k < n
      · have c0 := (Hb.out.cell k).trans (Hm.out k hlt)
        go_wp2
        exact ⟨⟨k + 1, rfl, hlt, by congr 1 <;> omega, by simp⟩, by simp [intOf]; omega⟩
      · have e : k = n := by omega
        subst e
        go_wp2
        go_ret
        exact ⟨rfl, rfl⟩
end Go.Proofs.Ytjfcaafmlghjlaa
