/- Contracts: drawn words (written by gen_WN.py). -/
import Derived.Test.YtdaofpjanklmeaaWC
import Derived.Test.YtdaofpjanklmeaaAN
import Derived.Test.YtdaofpjanklmeaaN6
import Derived.Deep.RegionLaw
import Derived.Test.YtdaofpjanklmeaaFB
import Derived.Test.YtdaofpjanklmeaaDK
namespace Go.Proofs.Ytdaofpjanklmeaa
open Go.RowKit Go

theorem own_frz2 {w : World} {B g n cap : Nat} {e : TypeId} {sz : Nat} {xs : List Value} (h : w.ownsRow B e sz (.slice (some ⟨g, 0, none⟩) n cap) n xs) (i : Nat) : w.frozen? ⟨g, i, none⟩ = false := by
  rcases h.2 with ⟨hv, _⟩ | ⟨g', cap', cur, hv, hbg, hg, _⟩
  · cases hv
  · injection hv with e1 _ _
    injection e1 with e1
    injection e1 with e1
    subst e1
    exact Blk.frozen (cs := cur) hg i
theorem own_put_res {w : World} {B g n cap sz i R : Nat} {e : TypeId} {x y z : Value} {xs : List Value} (h : w.ownsRow B e sz (.slice (some ⟨g, 0, none⟩) n cap) n xs) (hR : ¬ g = R) :
    (((w.setCell ⟨g, i, none⟩ x).setCell ⟨R, 0, none⟩ y).setCell ⟨R, 1, none⟩ z).ownsRow B e sz (.slice (some ⟨g, 0, none⟩) n cap) n (xs.set i x) :=
  own_nqv (fun q hq => by injection hq with hq; subst hq; exact hR) (own_nqv (fun q hq => by injection hq with hq; subst hq; exact hR) (own_put h x))
section
variable {zs : List Int} {v : Value} {B G n m : Nat} {w0 w w1 w2 : World}
/-- A drawn word. -/
def RetWo (zs : List Int) (v : Value) (B G n : Nat) (w0 w : World) (e : Ending) (w' : World) : Prop :=
  ∃ (s : Int) (L : List Int) (u : Value), e = .returned (.agg #[.int .i64 s, u]) ∧ ((-2 ≤ s ∧ s ≤ 2) ∧ L.length ≤ 50) ∧ w'.ownsRow w.heap.size 3 1 u L.length (cellsI L) ∧ Drw zs v B G n w0 w' ∧ w.grownBy w' (some G)
/-- The loops of a drawn word. -/
def WdSt (zs : List Int) (v : Value) (B G n : Nat) (w : World) (bW : Nat) (s : Int) (k0 : Nat) (vk : Value) (wr : World) : Prop :=
  ∃ (k : Nat) (L : List Int) (u : Value), vk = .int .i64 k ∧ k + L.length = k0 ∧ Hid (Drw zs v B G (n + 4 + 2 * L.length) w wr) ∧ Blk wr w.heap.size 70 #[.int .i64 0, .slice none 0 0] ∧ Blk wr bW 70 #[.int .i64 s, u] ∧ wr.ownsRow (bW + 1) 3 1 u L.length (cellsI L)
def WdSt2 (zs : List Int) (v : Value) (B G n : Nat) (w : World) (bW : Nat) (s : Int) (vk : Value) (wr : World) : Prop :=
  ∃ (L : List Int) (u : Value), vk = .int .i64 L.length ∧ L.length ≤ 41 ∧ Hid (Drw zs v B G (n + 20 + 4 * L.length) w wr) ∧ Blk wr w.heap.size 70 #[.int .i64 0, .slice none 0 0] ∧ Blk wr bW 70 #[.int .i64 s, u] ∧ wr.ownsRow (bW + 1) 3 1 u L.length (cellsI L)
set_option maxRecDepth 100000 in
set_option maxHeartbeats 12800000 in
theorem word_d (h : Drw zs v B G n w0 w) (hB : B ≤ G) (hn : n + 250 ≤ 100000000) :
    Calls Try.prog 126 #[.pointer (some ⟨G, 0, none⟩)] w (RetWo zs v B G (n + 250) w0 w) := by
  obtain ⟨i0, hi0, hz0, hz1, hz2⟩ := info_parts infoInt
  have H := Lib.hid h
  have lG0 := h.lt
  have hD0 := Lib.hid (Drw.start h.rd h.cur)
  clear h
  have hfin : Hid (∀ (s : Int) (L : List Int) (u : Value) (B2 k : Nat) (w' : World), Drw zs v B G k w w' → k ≤ n + 250 → w'.ownsRow B2 3 1 u L.length (cellsI L) → w.heap.size ≤ B2 → (-2 ≤ s ∧ s ≤ 2) → L.length ≤ 50 → RetWo zs v B G (n + 250) w0 w (.returned (.agg #[.int .i64 s, u])) w') :=
    Lib.hid (fun s L u B2 k w' hd hk ho hB2 hs hL => ⟨s, L, u, rfl, ⟨hs, hL⟩, own_base hB2 ho, (H.out.next hB hd.cur hd.gr).more hk, hd.gr⟩)
  go_enter Try.func126, Try.ntmps126
  go_wp2_with fail
  refine (among_at (w := w.alloc (.cells #[.int .i64 0, .slice none 0 0] 70)) (w0 := w) (by repeat (first | with_reducible assumption | (with_reducible apply Hid.out; assumption) | with_reducible apply Drw.drewN | with_reducible apply Drw.drew | with_reducible apply Drw.alloc | (with_reducible refine Drw.setp ?_ ?_ ?_ ?_; (first | omega | (simp <;> omega)); (first | omega | (simp <;> omega)); (first | omega | (simp <;> omega))))) hB [1, 1, 1, -1] (fun x => -2 ≤ x ∧ x ≤ 2) (by simp) (by simp) (by simp) (by omega) (by simp) rfl rfl).mono ?_
  rintro e v1 ⟨s, rfl, hs, hD1', hG1⟩
  have hD1 := Lib.hid hD1'
  have lG1 := hD1'.lt
  have zG1 := hG1.size
  (try simp at zG1)
  have hR1 : Blk v1 w.heap.size 70 #[.int .i64 0, .slice none 0 0] := Blk.grown (by (repeat (first | with_reducible assumption | (with_reducible apply Blk.new_at; (first | rfl | (simp; done))) | with_reducible apply Blk.store3 | with_reducible apply Blk.store4 | (with_reducible apply Blk.farp; (first | omega | (simp <;> omega))) | with_reducible apply Blk.allocp | with_reducible apply Blk.drew | with_reducible apply Blk.drewN))) hG1 (by simp <;> omega)
  have cR1 := hR1.cell; have fR1 := hR1.frozen; have lR1 := hR1.lt
  clear hD1' hG1
  go_wp2_with fail
  obtain ⟨bW, hbW⟩ : ∃ b : Nat, b = v1.heap.size := ⟨_, rfl⟩
  go_wp2_with fail
  refine (pick_d (by repeat (first | with_reducible assumption | (with_reducible apply Hid.out; assumption) | with_reducible apply Drw.drewN | with_reducible apply Drw.drew | with_reducible apply Drw.alloc | (with_reducible refine Drw.setp ?_ ?_ ?_ ?_; (first | omega | (simp <;> omega)); (first | omega | (simp <;> omega)); (first | omega | (simp <;> omega))))) hB 7 (by omega) (by omega)).mono ?_
  rintro e v4 ⟨x4, rfl, hx4, hD4', hG4⟩
  have hD4 := Lib.hid hD4'
  have lG4 := hD4'.lt
  have zG4 := hG4.size
  (try simp at zG4)
  have hR4 : Blk v4 (w.heap.size) 70 #[.int .i64 0, .slice none 0 0] := Blk.grown (by (repeat (first | with_reducible assumption | (with_reducible apply Blk.new_at; (first | rfl | (simp; done))) | with_reducible apply Blk.store3 | with_reducible apply Blk.store4 | (with_reducible apply Blk.farp; (first | omega | (simp <;> omega))) | with_reducible apply Blk.allocp | with_reducible apply Blk.drew | with_reducible apply Blk.drewN))) hG4 (by simp <;> omega)
  have cR4 := hR4.cell; have fR4 := hR4.frozen; have lR4 := hR4.lt; have mR4 := Nat.ne_of_gt lR4; have nR4 := Nat.ne_of_lt lR4
  have hW4 : Blk v4 (v1.heap.size) 70 #[.int .i64 s, .slice none 0 0] := Blk.grown (by (repeat (first | with_reducible assumption | (with_reducible apply Blk.new_at; (first | rfl | (simp; done))) | with_reducible apply Blk.store3 | with_reducible apply Blk.store4 | (with_reducible apply Blk.farp; (first | omega | (simp <;> omega))) | with_reducible apply Blk.allocp | with_reducible apply Blk.drew | with_reducible apply Blk.drewN))) hG4 (by simp <;> omega)
  have cW4 := hW4.cell; have fW4 := hW4.frozen; have lW4 := hW4.lt; have mW4 := Nat.ne_of_gt lW4; have nW4 := Nat.ne_of_lt lW4
  clear hD4' hG4
  obtain ⟨k4, rfl⟩ : ∃ k : Nat, x4 = k := ⟨x4.toNat, by omega⟩
  have hk4 : k4 ≤ 6 := by omega
  have hwk : IntKind.i64.wrap (1 + (k4 : Int)) = ((1 + k4 : Nat) : Int) := by rw [IntWalk.i64_in _ (by omega)]; omega
  go_wp2
  rw [← hbW]
  rw [← hbW] at hW4 lW4
  have hb2 : w.heap.size < bW := by omega
  have hb3 : ¬ w.heap.size = bW := by omega
  have hb4 : ¬ bW = w.heap.size := by omega
  have hb5 : ¬ G = bW := by omega
  have hb6 : ¬ bW = G := by omega
  clear cR1 fR1 lR1 hR1 cW4 fW4 mW4 nW4 cR4 fR4 mR4 nR4 hbW zG1 zG4 hx4 hwk
  go_loopw [4] (fun vk wr => WdSt zs v B G n w bW s (1 + k4) vk wr) (fun vk _ => (intOf vk).toNat)
  case atStart => exact ⟨1 + k4, [], _, by go_num, by simp, Lib.hid (hD4.out.more (by simp)), hR4, hW4, World.ownsRow_nil _ _ _ _⟩
  case round =>
    clear hD4 hD1 hD0 hR4 hW4 lW4 lR4
    obtain ⟨k, L, u, rfl, hk, hD, hR, hW, hown⟩ := hrel
    obtain ⟨ub, uc, rfl⟩ := own_shape hown
    have lG := hD.out.lt
    have zz := hD.out.size
    have cR := hR.cell; have fR := hR.frozen; have lR := hR.lt; have mR := Nat.ne_of_gt lR; have nR := Nat.ne_of_lt lR
    have cW := hW.cell; have fW := hW.frozen; have lW := hW.lt; have mW := Nat.ne_of_gt lW; have nW := Nat.ne_of_lt lW
    by_cases hk0 : k = 0
    · subst hk0
      have hl1 : 1 ≤ L.length := by omega
      have hl7 : L.length ≤ 7 := by omega
      clear hk hk4
      go_wp2_with fail
      refine (pick_d (w0 := w) (Hid.out hD) hB 20 (by omega) (by omega)).mono ?_
      rintro e v5 ⟨x5, rfl, hx5, hD5', hG5⟩
      have hD5 := Lib.hid hD5'
      have lG5 := hD5'.lt
      have zG5 := hG5.size
      (try simp at zG5)
      have ho5 := own_drw hown (by omega) hG5
      have hR5 : Blk v5 (w.heap.size) 70 #[.int .i64 0, .slice none 0 0] := Blk.grown (by (repeat (first | with_reducible assumption | (with_reducible apply Blk.new_at; (first | rfl | (simp; done))) | with_reducible apply Blk.store3 | with_reducible apply Blk.store4 | (with_reducible apply Blk.farp; (first | omega | (simp <;> omega))) | with_reducible apply Blk.allocp | with_reducible apply Blk.drew | with_reducible apply Blk.drewN))) hG5 (by simp <;> omega)
      have cR5 := hR5.cell
      have fR5 := hR5.frozen
      have lR5 := hR5.lt
      have mR5 := Nat.ne_of_gt lR5
      have nR5 := Nat.ne_of_lt lR5
      have hW5 : Blk v5 (bW) 70 #[.int .i64 s, .slice ub L.length uc] := Blk.grown (by (repeat (first | with_reducible assumption | (with_reducible apply Blk.new_at; (first | rfl | (simp; done))) | with_reducible apply Blk.store3 | with_reducible apply Blk.store4 | (with_reducible apply Blk.farp; (first | omega | (simp <;> omega))) | with_reducible apply Blk.allocp | with_reducible apply Blk.drew | with_reducible apply Blk.drewN))) hG5 (by simp <;> omega)
      have cW5 := hW5.cell
      have fW5 := hW5.frozen
      have lW5 := hW5.lt
      have mW5 := Nat.ne_of_gt lW5
      have nW5 := Nat.ne_of_lt lW5
      clear hD5' hG5
      clear hR cR fR lR mR nR hW cW fW lW mW nW hown hD
      have hx5' : 0 ≤ x5 ∧ x5 ≤ 19 := by omega
      clear hx5
      by_cases e0 : x5 = 0
      · subst e0
        go_wp2_with fail
        refine (among_at (w := v5) (w0 := w) (Hid.out hD5) hB [0, 2, -2] (fun x => -2 ≤ x ∧ x ≤ 2) (by simp) (by simp) (by simp) (by omega) rfl rfl rfl).mono ?_
        rintro e v6 ⟨x6, rfl, hx6, hD6', hG6⟩
        have hD6 := Lib.hid hD6'
        have lG6 := hD6'.lt
        have zG6 := hG6.size
        (try simp at zG6)
        have ho6 := own_drw ho5 (by omega) hG6
        have hR6 : Blk v6 (w.heap.size) 70 #[.int .i64 0, .slice none 0 0] := Blk.grown (by (repeat (first | with_reducible assumption | (with_reducible apply Blk.new_at; (first | rfl | (simp; done))) | with_reducible apply Blk.store3 | with_reducible apply Blk.store4 | (with_reducible apply Blk.farp; (first | omega | (simp <;> omega))) | with_reducible apply Blk.allocp | with_reducible apply Blk.drew | with_reducible apply Blk.drewN))) hG6 (by simp <;> omega)
        have cR6 := hR6.cell
        have fR6 := hR6.frozen
        have lR6 := hR6.lt
        have mR6 := Nat.ne_of_gt lR6
        have nR6 := Nat.ne_of_lt lR6
        have hW6 : Blk v6 (bW) 70 #[.int .i64 s, .slice ub L.length uc] := Blk.grown (by (repeat (first | with_reducible assumption | (with_reducible apply Blk.new_at; (first | rfl | (simp; done))) | with_reducible apply Blk.store3 | with_reducible apply Blk.store4 | (with_reducible apply Blk.farp; (first | omega | (simp <;> omega))) | with_reducible apply Blk.allocp | with_reducible apply Blk.drew | with_reducible apply Blk.drewN))) hG6 (by simp <;> omega)
        have cW6 := hW6.cell
        have fW6 := hW6.frozen
        have lW6 := hW6.lt
        have mW6 := Nat.ne_of_gt lW6
        have nW6 := Nat.ne_of_lt lW6
        clear hD6' hG6
        clear hR5 cR5 fR5 lR5 mR5 nR5 hW5 cW5 fW5 lW5 mW5 nW5 ho5 hD5
        go_wp2
        have hne6 := own_ge ho6
        exact bodyPost_ret (v := .agg #[.int .i64 x6, .slice ub L.length uc]) (by simp [results, Try.results126, go_sem, *]) rfl (hfin.out _ L _ (bW + 1) (n + 4 + 2 * L.length + 2 + 2) _ (by repeat (first | with_reducible assumption | (with_reducible apply Hid.out; assumption) | with_reducible apply Drw.drewN | with_reducible apply Drw.drew | with_reducible apply Drw.alloc | (with_reducible refine Drw.setp ?_ ?_ ?_ ?_; (first | omega | (simp <;> omega)); (first | omega | (simp <;> omega)); (first | omega | (simp <;> omega))))) (by omega) (by repeat (first | exact ho6 | refine own_nqv (fun q hq => by have := hne6 q hq; simp; omega) ?_)) (by omega) hx6 (by omega))
      · have n0 : (x5 == 0) = false := by rw [beq_eq_false_iff_ne]; exact e0
        by_cases e1 : x5 = 1
        · subst e1
          clear e0 n0
          go_wp2
          obtain ⟨gu, cu, hue, hgu, lgu, hcu⟩ := own_some ho5 (by omega)
          injection hue with hue1 _ hue3
          subst hue1; subst hue3
          have q1 : ¬ gu = bW := by omega
          have q2 : ¬ bW = gu := by omega
          have q3 : ¬ gu = w.heap.size := by omega
          have q4 : ¬ w.heap.size = gu := by omega
          go_region_with (first
            | (go_at_call 149; refine (pick_d (w0 := w) (by repeat (first | with_reducible assumption | (with_reducible apply Hid.out; assumption) | with_reducible apply Drw.drewN | with_reducible apply Drw.drew | with_reducible apply Drw.alloc | (with_reducible refine Drw.setp ?_ ?_ ?_ ?_; (first | omega | (simp <;> omega)); (first | omega | (simp <;> omega)); (first | omega | (simp <;> omega))))) hB _ (by omega) (by omega)).mono ?_; rintro e v6 ⟨x6, rfl, hx6, hD6', hG6⟩; obtain ⟨k6, rfl⟩ : ∃ k : Nat, x6 = k := ⟨x6.toNat, by omega⟩; have hk6 : (k6 : Int) < (L.length : Int) := (by omega); have ho6 : v6.ownsRow (bW + 1) 3 1 (.slice (some ⟨gu, 0, none⟩) L.length uc) L.length (cellsI L) := (by first | exact own_drw (own_drew ho5) (by omega) hG6 | exact own_drw ho7 (by omega) hG6); have fr6 := own_frz2 ho6; have cr6 := row_cells ho6 k6 _ (cellsI_get L k6 (by omega)); have hD6 := Lib.hid hD6'; have lG6 := hD6'.lt; have zG6 := hG6.size; (try simp at zG6); have lgu6 : gu < v6.heap.size := own_lt ho6 gu rfl; have hR6 : Blk v6 (w.heap.size) 70 #[.int .i64 0, .slice none 0 0] := Blk.grown (by (repeat (first | with_reducible assumption | (with_reducible apply Blk.new_at; (first | rfl | (simp; done))) | with_reducible apply Blk.store3 | with_reducible apply Blk.store4 | (with_reducible apply Blk.farp; (first | omega | (simp <;> omega))) | with_reducible apply Blk.allocp | with_reducible apply Blk.drew | with_reducible apply Blk.drewN))) hG6 (by simp <;> omega); have cR6 := hR6.cell; have fR6 := hR6.frozen; have lR6 := hR6.lt; have mR6 := Nat.ne_of_gt lR6; have nR6 := Nat.ne_of_lt lR6; have hW6 : Blk v6 (bW) 70 #[.int .i64 s, .slice (some ⟨gu, 0, none⟩) L.length uc] := Blk.grown (by (repeat (first | with_reducible assumption | (with_reducible apply Blk.new_at; (first | rfl | (simp; done))) | with_reducible apply Blk.store3 | with_reducible apply Blk.store4 | (with_reducible apply Blk.farp; (first | omega | (simp <;> omega))) | with_reducible apply Blk.allocp | with_reducible apply Blk.drew | with_reducible apply Blk.drewN))) hG6 (by simp <;> omega); have cW6 := hW6.cell; have fW6 := hW6.frozen; have lW6 := hW6.lt; have mW6 := Nat.ne_of_gt lW6; have nW6 := Nat.ne_of_lt lW6)
            | (go_at_call 206; refine (number_d (w0 := w) (by repeat (first | with_reducible assumption | (with_reducible apply Hid.out; assumption) | with_reducible apply Drw.drewN | with_reducible apply Drw.drew | with_reducible apply Drw.alloc | (with_reducible refine Drw.setp ?_ ?_ ?_ ?_; (first | omega | (simp <;> omega)); (first | omega | (simp <;> omega)); (first | omega | (simp <;> omega))))) hB (by omega)).mono ?_; rintro e v7 ⟨x7, rfl, _, hD7', hG7⟩; have ho7 : v7.ownsRow (bW + 1) 3 1 (.slice (some ⟨gu, 0, none⟩) L.length uc) L.length (cellsI L) := (by first | exact own_drw (own_drew ho5) (by omega) hG7 | exact own_drw ho6 (by omega) hG7); have fr7 := own_frz2 ho7; (try have cr7 := row_cells ho7 k6 _ (cellsI_get L k6 (by omega))); have hD7 := Lib.hid hD7'; have lG7 := hD7'.lt; have zG7 := hG7.size; (try simp at zG7); have lgu7 : gu < v7.heap.size := own_lt ho7 gu rfl; have hR7 : Blk v7 (w.heap.size) 70 #[.int .i64 0, .slice none 0 0] := Blk.grown (by (repeat (first | with_reducible assumption | (with_reducible apply Blk.new_at; (first | rfl | (simp; done))) | with_reducible apply Blk.store3 | with_reducible apply Blk.store4 | (with_reducible apply Blk.farp; (first | omega | (simp <;> omega))) | with_reducible apply Blk.allocp | with_reducible apply Blk.drew | with_reducible apply Blk.drewN))) hG7 (by simp <;> omega); have cR7 := hR7.cell; have fR7 := hR7.frozen; have lR7 := hR7.lt; have mR7 := Nat.ne_of_gt lR7; have nR7 := Nat.ne_of_lt lR7; have hW7 : Blk v7 (bW) 70 #[.int .i64 s, .slice (some ⟨gu, 0, none⟩) L.length uc] := Blk.grown (by (repeat (first | with_reducible assumption | (with_reducible apply Blk.new_at; (first | rfl | (simp; done))) | with_reducible apply Blk.store3 | with_reducible apply Blk.store4 | (with_reducible apply Blk.farp; (first | omega | (simp <;> omega))) | with_reducible apply Blk.allocp | with_reducible apply Blk.drew | with_reducible apply Blk.drewN))) hG7 (by simp <;> omega); have cW7 := hW7.cell; have fW7 := hW7.frozen; have lW7 := hW7.lt; have mW7 := Nat.ne_of_gt lW7; have nW7 := Nat.ne_of_lt lW7))
          all_goals
            clear hx6
            have hset : cellsI (L.set k6 x7) = (cellsI L).set k6 (.int .i64 x7) := by simp [cellsI, List.map_set]
            have Hset := Lib.hid hset
            clear hset
            go_wp2
            exact bodyPost_ret (v := .agg #[.int .i64 s, .slice (some ⟨gu, 0, none⟩) L.length uc]) (by simp [results, Try.results126, go_sem, *]) rfl (hfin.out _ (L.set k6 x7) _ (bW + 1) (n + 4 + 2 * L.length + 20) _ (by first | (have hd := hD7.out.more (show _ ≤ n + 4 + 2 * L.length + 20 by omega); clear hD6 hD5 hD7; exact (by repeat (first | with_reducible assumption | (with_reducible apply Hid.out; assumption) | with_reducible apply Drw.drewN | with_reducible apply Drw.drew | with_reducible apply Drw.alloc | (with_reducible refine Drw.setp ?_ ?_ ?_ ?_; (first | omega | (simp <;> omega)); (first | omega | (simp <;> omega)); (first | omega | (simp <;> omega)))))) | (have hd := hD6.out.more (show _ ≤ n + 4 + 2 * L.length + 20 by omega); clear hD6 hD5 hD7; exact (by repeat (first | with_reducible assumption | (with_reducible apply Hid.out; assumption) | with_reducible apply Drw.drewN | with_reducible apply Drw.drew | with_reducible apply Drw.alloc | (with_reducible refine Drw.setp ?_ ?_ ?_ ?_; (first | omega | (simp <;> omega)); (first | omega | (simp <;> omega)); (first | omega | (simp <;> omega))))))) (by omega)
              (by rw [List.length_set, Hset.out]; first | exact own_put_res ho7 q3 | exact own_put_res ho6 q3) (by omega) hs (by rw [List.length_set]; omega))
        · have n1 : (x5 == 1) = false := by rw [beq_eq_false_iff_ne]; exact e1
          by_cases e2 : x5 = 2
          · subst e2
            clear e0 n0 e1 n1
            go_wp2
            exact bodyPost_ret (v := .agg #[.int .i64 s, .slice none 0 0]) (by simp [results, Try.results126, go_sem, *]) rfl (hfin.out _ [] _ (bW + 1) (n + 4 + 2 * L.length + 2) _ (by repeat (first | with_reducible assumption | (with_reducible apply Hid.out; assumption) | with_reducible apply Drw.drewN | with_reducible apply Drw.drew | with_reducible apply Drw.alloc | (with_reducible refine Drw.setp ?_ ?_ ?_ ?_; (first | omega | (simp <;> omega)); (first | omega | (simp <;> omega)); (first | omega | (simp <;> omega))))) (by omega) (World.ownsRow_nil _ _ _ _) (by omega) hs (by simp))
          · have n2 : (x5 == 2) = false := by rw [beq_eq_false_iff_ne]; exact e2
            by_cases e3 : x5 = 3
            · subst e3
              clear e0 n0 e1 n1 e2 n2
              go_wp2
              obtain ⟨wo, rfl⟩ : ∃ wo : World, wo = wr := ⟨_, rfl⟩
              go_loopw [5] (fun vk wr => WdSt2 zs v B G n w bW s vk wr) (fun vk _ => 41 - (intOf vk).toNat)
              case atStart => exact ⟨L, _, rfl, by omega, Lib.hid (hD5.out.more (by omega)), hR5, hW5, ho5⟩
              case round =>
                clear hD5 hR5 cR5 fR5 lR5 mR5 nR5 hW5 cW5 fW5 lW5 mW5 nW5 ho5 hl1 hl7
                obtain ⟨L, u, rfl, hl, hD, hR, hW, hown⟩ := hrel
                obtain ⟨ub, uc, rfl⟩ := own_shape hown
                have lG := hD.out.lt
                have zz := hD.out.size
                have cR := hR.cell; have fR := hR.frozen; have lR := hR.lt; have mR := Nat.ne_of_gt lR; have nR := Nat.ne_of_lt lR
                have cW := hW.cell; have fW := hW.frozen; have lW := hW.lt; have mW := Nat.ne_of_gt lW; have nW := Nat.ne_of_lt lW
                go_wp2_with fail
                refine (among_at (w := wr) (w0 := w) (Hid.out hD) hB [39, 40, 41] (fun x => x ≤ 41) (by simp) (by simp) (by simp) (by omega) rfl rfl rfl).mono ?_
                rintro e v8 ⟨x8, rfl, hx8, hD8', hG8⟩
                have hD8 := Lib.hid hD8'
                have lG8 := hD8'.lt
                have zG8 := hG8.size
                (try simp at zG8)
                have ho8 := own_drw hown (by omega) hG8
                have hR8 : Blk v8 (w.heap.size) 70 #[.int .i64 0, .slice none 0 0] := Blk.grown (by (repeat (first | with_reducible assumption | (with_reducible apply Blk.new_at; (first | rfl | (simp; done))) | with_reducible apply Blk.store3 | with_reducible apply Blk.store4 | (with_reducible apply Blk.farp; (first | omega | (simp <;> omega))) | with_reducible apply Blk.allocp | with_reducible apply Blk.drew | with_reducible apply Blk.drewN))) hG8 (by simp <;> omega)
                have cR8 := hR8.cell
                have fR8 := hR8.frozen
                have lR8 := hR8.lt
                have mR8 := Nat.ne_of_gt lR8
                have nR8 := Nat.ne_of_lt lR8
                have hW8 : Blk v8 (bW) 70 #[.int .i64 s, .slice ub L.length uc] := Blk.grown (by (repeat (first | with_reducible assumption | (with_reducible apply Blk.new_at; (first | rfl | (simp; done))) | with_reducible apply Blk.store3 | with_reducible apply Blk.store4 | (with_reducible apply Blk.farp; (first | omega | (simp <;> omega))) | with_reducible apply Blk.allocp | with_reducible apply Blk.drew | with_reducible apply Blk.drewN))) hG8 (by simp <;> omega)
                have cW8 := hW8.cell
                have fW8 := hW8.frozen
                have lW8 := hW8.lt
                have mW8 := Nat.ne_of_gt lW8
                have nW8 := Nat.ne_of_lt lW8
                clear hD8' hG8
                clear hR cR fR lR mR nR hW cW fW lW mW nW hown hD
                by_cases hlt : (L.length : Int) < x8
                · have hl40 : L.length ≤ 40 := by omega
                  clear hl hx8
                  go_wp2
                  go_region_law (first
                    | (refine step_append_any (v2.alloc (.cells #[.int .i64 (x2 - 1)] 3)) rfl (.tmp 61) (.tmp 65) 31 rfl (bW + 1) 3 i0 _ 1 8 Try.underlying31 hi0 hz0 hz1 hz2 rfl (by omega) (.slice ub L.length uc) L.length (cellsI L) rfl (own_alloc hon2) (v2.heap.size + 1) (some ⟨v2.heap.size, 0, none⟩) 1 1 [.int .i64 (x2 - 1)] rfl ⟨rfl, fun _ => ⟨_, rfl, (by simp), cells1 (Blk.new _ _ _)⟩⟩ (one1 _) (by unfold maxLen; omega) (by omega) (by simp; omega) ?_; intro x3 v3 hown3 hgr3 hloc3; obtain ⟨xb, xc, rfl⟩ := own_shape hown3; have hgs := hgr3.size; (try simp at hgs); have hR3 : Blk v3 (w.heap.size) 70 #[.int .i64 0, .slice none 0 0] := Blk.grown (by (repeat (first | with_reducible assumption | (with_reducible apply Blk.new_at; (first | rfl | (simp; done))) | with_reducible apply Blk.store3 | with_reducible apply Blk.store4 | (with_reducible apply Blk.farp; (first | omega | (simp <;> omega))) | with_reducible apply Blk.allocp | with_reducible apply Blk.drew | with_reducible apply Blk.drewN))) hgr3 (fun e => by have := own_ge ho8 _ e.symm; omega); have cR3 := hR3.cell; have fR3 := hR3.frozen; have lR3 := hR3.lt; have mR3 := Nat.ne_of_gt lR3; have nR3 := Nat.ne_of_lt lR3; have hW3 : Blk v3 (bW) 70 #[.int .i64 s, .slice ub L.length uc] := Blk.grown (by (repeat (first | with_reducible assumption | (with_reducible apply Blk.new_at; (first | rfl | (simp; done))) | with_reducible apply Blk.store3 | with_reducible apply Blk.store4 | (with_reducible apply Blk.farp; (first | omega | (simp <;> omega))) | with_reducible apply Blk.allocp | with_reducible apply Blk.drew | with_reducible apply Blk.drewN))) hgr3 (fun e => by have := own_ge ho8 _ e.symm; omega); have cW3 := hW3.cell; have fW3 := hW3.frozen; have lW3 := hW3.lt; have mW3 := Nat.ne_of_gt lW3; have nW3 := Nat.ne_of_lt lW3)
                    | (go_simp; go_wp2_with (go_at_call 149; refine (pick_d (w0 := w) (by repeat (first | with_reducible assumption | (with_reducible apply Hid.out; assumption) | with_reducible apply Drw.drewN | with_reducible apply Drw.drew | with_reducible apply Drw.alloc | (with_reducible refine Drw.setp ?_ ?_ ?_ ?_; (first | omega | (simp <;> omega)); (first | omega | (simp <;> omega)); (first | omega | (simp <;> omega))))) hB 3 (by omega) (by omega)).mono ?_; rintro e v2 ⟨x2, rfl, hx2, hD2', hG2⟩; have hD2 := Lib.hid hD2'; have lG2 := hD2'.lt; have zG2 := hG2.size; (try simp at zG2); have hw2 : IntKind.i64.wrap (x2 - 1) = x2 - 1 := IntWalk.i64_in _ (by omega); have hon2 := own_drw (own_drew ho8) (by omega) hG2; have hR2 : Blk v2 (w.heap.size) 70 #[.int .i64 0, .slice none 0 0] := Blk.grown (by (repeat (first | with_reducible assumption | (with_reducible apply Blk.new_at; (first | rfl | (simp; done))) | with_reducible apply Blk.store3 | with_reducible apply Blk.store4 | (with_reducible apply Blk.farp; (first | omega | (simp <;> omega))) | with_reducible apply Blk.allocp | with_reducible apply Blk.drew | with_reducible apply Blk.drewN))) hG2 (by simp <;> omega); have cR2 := hR2.cell; have fR2 := hR2.frozen; have lR2 := hR2.lt; have mR2 := Nat.ne_of_gt lR2; have nR2 := Nat.ne_of_lt lR2; have hW2 : Blk v2 (bW) 70 #[.int .i64 s, .slice ub L.length uc] := Blk.grown (by (repeat (first | with_reducible assumption | (with_reducible apply Blk.new_at; (first | rfl | (simp; done))) | with_reducible apply Blk.store3 | with_reducible apply Blk.store4 | (with_reducible apply Blk.farp; (first | omega | (simp <;> omega))) | with_reducible apply Blk.allocp | with_reducible apply Blk.drew | with_reducible apply Blk.drewN))) hG2 (by simp <;> omega); have cW2 := hW2.cell; have fW2 := hW2.frozen; have lW2 := hW2.lt; have mW2 := Nat.ne_of_gt lW2; have nW2 := Nat.ne_of_lt lW2; have q2 : v2.heap.size < v2.heap.size + 1 := Nat.lt_succ_self _)))
                  all_goals
                    have hd3 : Drw zs v B G _ w v3 := Drw.row (Drw.alloc (Hid.out hD2) _) hB hgr3 (fun q hq => by have := own_ge ho8 q hq; omega) lG0
                    have hD3 := Lib.hid hd3
                    have hge3 := own_ge hown3
                    go_wp2
                    go_roundw
                    case rel =>
                      refine ⟨L ++ [x2 - 1], .slice xb (L.length + 1) xc, by simp, by simp; omega, Lib.hid (by have hd4 := hd3.more (show _ ≤ n + 20 + 4 * (L.length + 1) by omega); clear hD2 hD3 hD8 hd3; simp only [List.length_append, List.length_singleton]; exact (by repeat (first | with_reducible assumption | (with_reducible apply Hid.out; assumption) | with_reducible apply Drw.drewN | with_reducible apply Drw.drew | with_reducible apply Drw.alloc | (with_reducible refine Drw.setp ?_ ?_ ?_ ?_; (first | omega | (simp <;> omega)); (first | omega | (simp <;> omega)); (first | omega | (simp <;> omega)))))), (by (repeat (first | with_reducible assumption | (with_reducible apply Blk.new_at; (first | rfl | (simp; done))) | with_reducible apply Blk.store3 | with_reducible apply Blk.store4 | (with_reducible apply Blk.farp; (first | omega | (simp <;> omega))) | with_reducible apply Blk.allocp | with_reducible apply Blk.drew | with_reducible apply Blk.drewN))), hW3.set_ 1 _, own_nqv (fun q hq => by have := hge3 q hq; simp; omega) (own_snocI rfl hown3)⟩
                    case measure => simp [intOf] <;> omega
                · go_wp2
                  have hne8 := own_ge ho8
                  exact bodyPost_ret (v := .agg #[.int .i64 s, .slice ub L.length uc]) (by simp [results, Try.results126, go_sem, *]) rfl (hfin.out _ L _ (bW + 1) (n + 20 + 4 * L.length + 2) _ (by repeat (first | with_reducible assumption | (with_reducible apply Hid.out; assumption) | with_reducible apply Drw.drewN | with_reducible apply Drw.drew | with_reducible apply Drw.alloc | (with_reducible refine Drw.setp ?_ ?_ ?_ ?_; (first | omega | (simp <;> omega)); (first | omega | (simp <;> omega)); (first | omega | (simp <;> omega))))) (by omega) (by repeat (first | exact ho8 | refine own_nqv (fun q hq => by have := hne8 q hq; simp; omega) ?_)) (by omega) hs (by omega))
            · have n3 : (x5 == 3) = false := by rw [beq_eq_false_iff_ne]; exact e3
              clear e0 e1 e2 e3
              go_wp2
              have hne5 := own_ge ho5
              exact bodyPost_ret (v := .agg #[.int .i64 s, .slice ub L.length uc]) (by simp [results, Try.results126, go_sem, *]) rfl (hfin.out _ L _ (bW + 1) (n + 4 + 2 * L.length + 2) _ (by repeat (first | with_reducible assumption | (with_reducible apply Hid.out; assumption) | with_reducible apply Drw.drewN | with_reducible apply Drw.drew | with_reducible apply Drw.alloc | (with_reducible refine Drw.setp ?_ ?_ ?_ ?_; (first | omega | (simp <;> omega)); (first | omega | (simp <;> omega)); (first | omega | (simp <;> omega))))) (by omega) (by repeat (first | exact ho5 | refine own_nqv (fun q hq => by have := hne5 q hq; simp; omega) ?_)) (by omega) hs (by omega))
    · obtain ⟨j, rfl⟩ : ∃ j, k = j + 1 := ⟨k - 1, by omega⟩
      have hk1 : 0 < ((j + 1 : Nat) : Int) := by omega
      have hk2 : wrap64 (((j + 1 : Nat) : Int) - 1) = (j : Int) := by rw [IntWalk.wrap64_in _ (by omega)]; omega
      have hl7 : L.length ≤ 7 := by omega
      clear hk0
      go_wp2
      go_region_law (first
        | (refine step_append_any (v2.alloc (.cells #[.int .i64 (x2 - 5)] 3)) rfl (.tmp 18) (.tmp 22) 31 rfl (bW + 1) 3 i0 _ 1 8 Try.underlying31 hi0 hz0 hz1 hz2 rfl (by omega) (.slice ub L.length uc) L.length (cellsI L) rfl (own_alloc hon2) (v2.heap.size + 1) (some ⟨v2.heap.size, 0, none⟩) 1 1 [.int .i64 (x2 - 5)] rfl ⟨rfl, fun _ => ⟨_, rfl, (by simp), cells1 (Blk.new _ _ _)⟩⟩ (one1 _) (by unfold maxLen; omega) (by omega) (by simp; omega) ?_; intro x3 v3 hown3 hgr3 hloc3; obtain ⟨xb, xc, rfl⟩ := own_shape hown3; have hgs := hgr3.size; (try simp at hgs); have hR3 : Blk v3 (w.heap.size) 70 #[.int .i64 0, .slice none 0 0] := Blk.grown (by (repeat (first | with_reducible assumption | (with_reducible apply Blk.new_at; (first | rfl | (simp; done))) | with_reducible apply Blk.store3 | with_reducible apply Blk.store4 | (with_reducible apply Blk.farp; (first | omega | (simp <;> omega))) | with_reducible apply Blk.allocp | with_reducible apply Blk.drew | with_reducible apply Blk.drewN))) hgr3 (fun e => by have := own_ge hown _ e.symm; omega); have cR3 := hR3.cell; have fR3 := hR3.frozen; have lR3 := hR3.lt; have mR3 := Nat.ne_of_gt lR3; have nR3 := Nat.ne_of_lt lR3; have hW3 : Blk v3 (bW) 70 #[.int .i64 s, .slice ub L.length uc] := Blk.grown (by (repeat (first | with_reducible assumption | (with_reducible apply Blk.new_at; (first | rfl | (simp; done))) | with_reducible apply Blk.store3 | with_reducible apply Blk.store4 | (with_reducible apply Blk.farp; (first | omega | (simp <;> omega))) | with_reducible apply Blk.allocp | with_reducible apply Blk.drew | with_reducible apply Blk.drewN))) hgr3 (fun e => by have := own_ge hown _ e.symm; omega); have cW3 := hW3.cell; have fW3 := hW3.frozen; have lW3 := hW3.lt; have mW3 := Nat.ne_of_gt lW3; have nW3 := Nat.ne_of_lt lW3)
        | (go_simp; go_wp2_with (go_at_call 149; refine (pick_d (w0 := w) (by repeat (first | with_reducible assumption | (with_reducible apply Hid.out; assumption) | with_reducible apply Drw.drewN | with_reducible apply Drw.drew | with_reducible apply Drw.alloc | (with_reducible refine Drw.setp ?_ ?_ ?_ ?_; (first | omega | (simp <;> omega)); (first | omega | (simp <;> omega)); (first | omega | (simp <;> omega))))) hB 11 (by omega) (by omega)).mono ?_; rintro e v2 ⟨x2, rfl, hx2, hD2', hG2⟩; have hD2 := Lib.hid hD2'; have lG2 := hD2'.lt; have zG2 := hG2.size; (try simp at zG2); have hw2 : IntKind.i64.wrap (x2 - 5) = x2 - 5 := IntWalk.i64_in _ (by omega); have hon2 := own_drw (own_drew hown) (by omega) hG2; have hR2 : Blk v2 (w.heap.size) 70 #[.int .i64 0, .slice none 0 0] := Blk.grown (by (repeat (first | with_reducible assumption | (with_reducible apply Blk.new_at; (first | rfl | (simp; done))) | with_reducible apply Blk.store3 | with_reducible apply Blk.store4 | (with_reducible apply Blk.farp; (first | omega | (simp <;> omega))) | with_reducible apply Blk.allocp | with_reducible apply Blk.drew | with_reducible apply Blk.drewN))) hG2 (by simp <;> omega); have cR2 := hR2.cell; have fR2 := hR2.frozen; have lR2 := hR2.lt; have mR2 := Nat.ne_of_gt lR2; have nR2 := Nat.ne_of_lt lR2; have hW2 : Blk v2 (bW) 70 #[.int .i64 s, .slice ub L.length uc] := Blk.grown (by (repeat (first | with_reducible assumption | (with_reducible apply Blk.new_at; (first | rfl | (simp; done))) | with_reducible apply Blk.store3 | with_reducible apply Blk.store4 | (with_reducible apply Blk.farp; (first | omega | (simp <;> omega))) | with_reducible apply Blk.allocp | with_reducible apply Blk.drew | with_reducible apply Blk.drewN))) hG2 (by simp <;> omega); have cW2 := hW2.cell; have fW2 := hW2.frozen; have lW2 := hW2.lt; have mW2 := Nat.ne_of_gt lW2; have nW2 := Nat.ne_of_lt lW2; have q2 : v2.heap.size < v2.heap.size + 1 := Nat.lt_succ_self _)))
      all_goals
        have hd3 : Drw zs v B G _ w v3 := Drw.row (Drw.alloc (Hid.out hD2) _) hB hgr3 (fun q hq => by have := own_ge hown q hq; omega) lG0
        have hD3 := Lib.hid hd3
        have hge3 := own_ge hown3
        go_wp2
        go_roundw
        case rel =>
          refine ⟨j, L ++ [x2 - 5], .slice xb (L.length + 1) xc, by simp, by simp; omega, Lib.hid (by have hd4 := hd3.more (show _ ≤ n + 4 + 2 * (L.length + 1) by omega); clear hD2 hD3 hD hd3; simp only [List.length_append, List.length_singleton]; exact (by repeat (first | with_reducible assumption | (with_reducible apply Hid.out; assumption) | with_reducible apply Drw.drewN | with_reducible apply Drw.drew | with_reducible apply Drw.alloc | (with_reducible refine Drw.setp ?_ ?_ ?_ ?_; (first | omega | (simp <;> omega)); (first | omega | (simp <;> omega)); (first | omega | (simp <;> omega)))))), (by (repeat (first | with_reducible assumption | (with_reducible apply Blk.new_at; (first | rfl | (simp; done))) | with_reducible apply Blk.store3 | with_reducible apply Blk.store4 | (with_reducible apply Blk.farp; (first | omega | (simp <;> omega))) | with_reducible apply Blk.allocp | with_reducible apply Blk.drew | with_reducible apply Blk.drewN))), hW3.set_ 1 _, own_nqv (fun q hq => by have := hge3 q hq; simp; omega) (own_snocI rfl hown3)⟩
        case measure => simp [intOf] <;> omega
end
end Go.Proofs.Ytdaofpjanklmeaa
