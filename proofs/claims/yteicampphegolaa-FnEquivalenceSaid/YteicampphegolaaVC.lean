/- Contract: the turns of a reduced form, of the program (written by gen_VC.py). -/
import Derived.Test.YteicampphegolaaVB
namespace Go.Proofs.Yteicampphegolaa
open Go.RowKit

/-- The cells of a block that is read while a row grows. -/
theorem view_keep {W w' : World} {B n g0 : Nat} {e : TypeId} {v : Value} {xs tc : List Value} (hk : w'.ownsRow B e 4 v n xs) (hg : W.grownBy w' v.ownBlock) (hlt : g0 < W.heap.size) (hpre : ∀ (j : Nat) (u : Value), tc[j]? = some u → xs[j]? = some u)
    (hc : ∀ (j : Nat) (u : Value), tc[j]? = some u → W.cell? ⟨g0, j, none⟩ = some u) : ∀ (j : Nat) (u : Value), tc[j]? = some u → w'.cell? ⟨g0, j, none⟩ = some u := by
  intro j u hu
  by_cases hb : v.ownBlock = some g0
  · have := hk.cells hb j u (hpre j u hu)
    have e : ((⟨g0, 0, none⟩ : Addr).add j) = ⟨g0, j, none⟩ := by unfold Addr.add; split <;> simp_all
    rw [e] at this; exact this
  · rw [World.cell?_of_block (hg.block g0 hlt (fun e => hb e.symm))]
    exact hc j u hu
theorem pre_cellsM (T K : List M4) : ∀ (j : Nat) (u : Value), (cellsM T)[j]? = some u → (cellsM (T ++ K))[j]? = some u := by
  intro j u hu
  rw [cellsM_append, List.getElem?_append_left (by rw [List.getElem?_eq_some_iff] at hu; exact hu.1)]
  exact hu
theorem one8m : ∀ u ∈ ([.int .i64 0, .int .i64 (-1), .int .i64 1, .int .i64 1, .int .i64 1, .int .i64 1, .int .i64 (-1), .int .i64 0] : List Value), u.oneCell' = true := by
  intro u hu
  simp only [List.mem_cons, List.not_mem_nil, or_false] at hu
  rcases hu with rfl | rfl | rfl | rfl | rfl | rfl | rfl | rfl <;> rfl
def smT (T : List M4) : Prop := ∀ m ∈ T, (-1 ≤ m.p ∧ m.p ≤ 1) ∧ (-1 ≤ m.q ∧ m.q ≤ 1) ∧ (-1 ≤ m.r ∧ m.r ≤ 1) ∧ (-1 ≤ m.s ∧ m.s ≤ 1)
theorem row_cells {w : World} {B n m g : Nat} {e : TypeId} {sz c : Nat} {xs : List Value} (h : w.ownsRow B e sz (.slice (some ⟨g, 0, none⟩) n c) m xs) : ∀ (j : Nat) (u : Value), xs[j]? = some u → w.cell? ⟨g, j, none⟩ = some u := by
  intro j u hu
  have := h.cells (g := g) rfl j u hu
  have e : ((⟨g, 0, none⟩ : Addr).add j) = ⟨g, j, none⟩ := by unfold Addr.add; split <;> simp_all
  rw [e] at this; exact this
theorem tn_start {w : World} {B : Nat} {e : TypeId} {v : Value} {T : List M4} (h : w.ownsRow B e 4 v T.length (cellsM T)) : w.ownsRow B e 4 v (T ++ (T.take 0).map M4.neg).length (cellsM (T ++ (T.take 0).map M4.neg)) := by
  rw [List.take_zero, List.map_nil, List.append_nil]; exact h
theorem tn_next {T : List M4} {k : Nat} (h : k < T.length) : T ++ (T.take (k + 1)).map M4.neg = (T ++ (T.take k).map M4.neg) ++ [⟨-T[k].p, -T[k].q, -T[k].r, -T[k].s⟩] := by
  rw [List.take_succ_eq_append_getElem h, List.map_append, ← List.append_assoc]; rfl
theorem cell_al2 {w : World} {o1 o2 : Obj} {g j : Nat} (h : g < w.heap.size) : ((w.alloc o1).alloc o2).cell? ⟨g, j, none⟩ = w.cell? ⟨g, j, none⟩ := by
  rw [World.cell?_of_block (w := w.alloc o1) ((World.grownBy_alloc (w.alloc o1) o2 none).block g (by simp; omega) (by simp)), World.cell?_of_block (w := w) ((World.grownBy_alloc w o1 none).block g h (by simp))]
theorem own_some {w : World} {B : Nat} {e : TypeId} {sz : Nat} {v : Value} {n : Nat} {xs : List Value} (h : w.ownsRow B e sz v n xs) (hn : n ≠ 0) : ∃ g cap, v = .slice (some ⟨g, 0, none⟩) n cap ∧ B ≤ g ∧ g < w.heap.size ∧ n ≤ cap := by
  rcases h.2 with ⟨_, h0⟩ | ⟨g, cap, cur, rfl, hbg, hg, hnc, _⟩
  · exact absurd h0 hn
  · exact ⟨g, cap, rfl, hbg, (Array.getElem?_eq_some_iff.1 hg).1, hnc⟩
theorem blk_news {w : World} {g : Nat} {e : TypeId} {cs : List Value} (h : Blk w g e cs.toArray) : ∀ (j : Nat) (u : Value), cs[j]? = some u → w.cell? ((⟨g, 0, none⟩ : Addr).add j) = some u := by
  intro j u hu
  have e : ((⟨g, 0, none⟩ : Addr).add j) = ⟨g, j, none⟩ := by unfold Addr.add; split <;> simp_all
  rw [e, h.cell j]
  simpa using hu
theorem smT_1 : smT [M4.one, ⟨0, -1, 1, 0⟩] := by intro m hm; simp at hm; rcases hm with rfl | rfl <;> simp [M4.one]
theorem smT_2 : smT [M4.one, ⟨0, -1, 1, 1⟩, ⟨1, 1, -1, 0⟩] := by intro m hm; simp at hm; rcases hm with rfl | rfl | rfl <;> simp [M4.one]
theorem smT_3 : smT [M4.one] := by intro m hm; simp at hm; subst hm; simp [M4.one]
theorem own_blk4 {w : World} {g : Nat} {e : TypeId} {a b c d : Value} (h : Blk w g e #[a, b, c, d]) : w.ownsRow g e 4 (.slice (some ⟨g, 0, none⟩) 1 1) 1 [a, b, c, d] :=
  ⟨rfl, .inr ⟨g, 1, #[a, b, c, d], rfl, Nat.le_refl _, h, Nat.le_refl _, by decide, rfl, rfl⟩⟩
/-- The state of the loop: T the list as it is read (in the block g0), k of its matrices are through. -/
def TnSt (T : List M4) (g0 : Nat) (w : World) (v vi : Value) (wr : World) : Prop :=
  ∃ k : Nat, vi = .int .i64 k ∧ k ≤ T.length ∧ wr.ownsRow w.heap.size 49 4 v (T ++ (T.take k).map M4.neg).length (cellsM (T ++ (T.take k).map M4.neg)) ∧ Hid (∀ (j : Nat) (u : Value), (cellsM T)[j]? = some u → wr.cell? ⟨g0, j, none⟩ = some u) ∧ g0 < wr.heap.size ∧ Below w.heap.size w wr
theorem trn_len (g : Fm) : 1 ≤ (trnL g).length ∧ (trnL g).length ≤ 3 := by unfold trnL; split <;> (try split) <;> simp
/-- A list of matrices in new memory. -/
def RetM (L : List M4) (w : World) (e : Ending) (w' : World) : Prop := ∃ v, e = .returned v ∧ w'.ownsRow w.heap.size 49 4 v L.length (cellsM L) ∧ Below w.heap.size w w'
theorem one_gen (w : World) : Calls Try.prog 154 #[] w fun e w' => e = .returned (.agg #[.int .i64 1, .int .i64 0, .int .i64 0, .int .i64 1]) ∧ Below w.heap.size w w' := one_any w

set_option maxRecDepth 100000 in
set_option maxHeartbeats 6400000 in
theorem turns_any (g : Fm) (w : World) : Calls Try.prog 125 #[.agg #[.int .i64 g.a, .int .i64 g.b, .int .i64 g.c]] w (RetM (trnL g ++ (trnL g).map M4.neg) w) := by
  obtain ⟨i0, hi, hz0, hz1, hz2⟩ := info_parts infoMt
  obtain ⟨a, b, c⟩ := g
  obtain ⟨T, hT⟩ : ∃ T, trnL ⟨a, b, c⟩ = T := ⟨_, rfl⟩
  rw [hT]
  unfold trnL at hT
  dsimp only at hT
  by_cases h1 : a = c ∧ b = 0
  · rw [if_pos h1] at hT
    have HQ := Lib.hid hT.symm
    clear hT
    obtain ⟨rfl, rfl⟩ := h1
    have hs : smT T := by rw [HQ.out]; exact smT_1
    go_enter Try.func125, Try.ntmps125
    have hP := Lib.hid (fun w => one_gen w)
    go_wp2_with (first | (go_at_call 154; (with_reducible refine (hP.out _).mono ?_); rintro e v1 ⟨rfl, hB1⟩; have hZ1 := hB1.size; (try simp at hZ1); have zl1 : w.heap.size < v1.heap.size := (by omega); have hA1 : Blk v1 w.heap.size 35 #[.int .i64 a, .int .i64 0, .int .i64 a] := Blk.call (by (repeat (first | with_reducible assumption | (with_reducible apply Blk.new_at; (first | rfl | (simp; done))) | with_reducible apply Blk.store3 | with_reducible apply Blk.store4 | (with_reducible apply Blk.farp; (first | omega | (simp <;> omega))) | with_reducible apply Blk.allocp | with_reducible apply Blk.drew | with_reducible apply Blk.drewN))) hB1; have cA1 := hA1.cell; have fA1 := hA1.frozen; have lA1 := hA1.lt; have mA1 := Nat.ne_of_gt lA1; have nA1 := Nat.ne_of_lt lA1; have hb1 : Below w.heap.size w v1 := (by repeat (first | with_reducible exact Below.refl _ _ | with_reducible assumption | with_reducible apply Below.drew | with_reducible apply below_drewN | (with_reducible apply below_setp; (first | omega | (simp <;> omega))) | (with_reducible apply below_allocp; (first | omega | (simp <;> omega))) | (with_reducible refine below_viap (by assumption) ?_ ?_; (first | omega | (simp <;> omega)))))) | (at_builtin; refine wpList_append_own _ rfl (.tmp 19) (.tmp 21) 61 rfl v1.heap.size 49 i0 _ 4 32 Try.underlying61 hi hz0 hz1 hz2 rfl (by decide) (.slice (some ⟨v1.heap.size, 0, none⟩) 1 1) 1 [.int .i64 1, .int .i64 0, .int .i64 0, .int .i64 1] rfl (own_alloc (own_blk4 (Blk.new _ _ _))) ⟨v1.heap.size + 1, 0, none⟩ 1 1 [.int .i64 0, .int .i64 (-1), .int .i64 1, .int .i64 0] rfl rfl ?_ (one4m _ _ _ _) ?_ ?_ ?_ ?_; exact blk_news (Blk.new_at (by simp)); (unfold maxLen; omega); omega; (simp; omega); intro x2 w2 hown2 hgr _; obtain ⟨g3, c3, rfl, hg3, hl3, hc3⟩ := own_some hown2 (by omega); have hsy := hgr.size; (try simp at hsy)))
    have hown3 : w2.ownsRow w.heap.size 49 4 (.slice (some ⟨g3, 0, none⟩) 2 c3) T.length (cellsM T) := by rw [HQ.out]; exact own_base (by omega) hown2
    have hb3 : Below w.heap.size w w2 := Below.grown ((by repeat (first | with_reducible exact Below.refl _ _ | with_reducible assumption | with_reducible apply Below.drew | with_reducible apply below_drewN | (with_reducible apply below_setp; (first | omega | (simp <;> omega))) | (with_reducible apply below_allocp; (first | omega | (simp <;> omega))) | (with_reducible refine below_viap (by assumption) ?_ ?_; (first | omega | (simp <;> omega)))))) hgr (by simp; omega) (fun q hq => by simp [Value.ownBlock] at hq; omega)
    have HT : Hid (∀ (j : Nat) (u : Value), (cellsM T)[j]? = some u → w2.cell? ⟨g3, j, none⟩ = some u) := Lib.hid (row_cells hown3)
    have hTl : T.length = 2 := by rw [HQ.out]; rfl
    clear HQ
    go_loopw [3, 48] (fun v vi wr => TnSt T g3 w v vi wr) (fun _ vi _ => 2 - (intOf vi).toNat)
    case atStart => exact ⟨0, rfl, Nat.zero_le _, tn_start hown3, HT, hl3, hb3⟩
    case round =>
      clear hown3 HT hb3
      obtain ⟨k, rfl, hk, hown, hc, hg, hbel⟩ := hrel
      have hz := hbel.size
      by_cases hlt : k < T.length
      · obtain ⟨s1, s2, s3, s4⟩ := hs _ (List.getElem_mem hlt)
        obtain ⟨d1, d2, d3, d4⟩ := cellsM_get T k hlt
        have d1 := hc.out _ _ d1; have d2 := hc.out _ _ d2; have d3 := hc.out _ _ d3; have d4 := hc.out _ _ d4
        have hnx := Lib.hid (tn_next hlt)
        have hll : (T ++ (T.take k).map M4.neg).length ≤ 10 := by rw [List.length_append, List.length_map, List.length_take]; omega
        have hpre := Lib.hid (pre_cellsM T ((T.take k).map M4.neg))
        have hk1 : (k : Int) < 2 := by omega
        generalize T[k] = m at *
        obtain ⟨p, q, r, s⟩ := m
        dsimp only at *
        have HC := hc
        clear hc
        generalize (T ++ (T.take k).map M4.neg) = R at *
        go_wp2_with (at_builtin; refine wpList_append_keep rfl (.tmp 52) (.tmp 66) 61 rfl w.heap.size 49 i0 _ 4 32 Try.underlying61 hi hz0 hz1 hz2 rfl (by decide) u3 R.length (cellsM R) rfl ?_ ⟨wr.heap.size + 1, 0, none⟩ 1 1 [.int .i64 (-p), .int .i64 (-q), .int .i64 (-r), .int .i64 (-s)] rfl rfl ?_ (one4m _ _ _ _) ?_ ?_ ?_ ?_; exact (by repeat (first | with_reducible assumption | with_reducible apply own_alloc | with_reducible apply own_drew | with_reducible apply own_drewN | (with_reducible refine own_setp (by assumption) ?_ ?_; (first | omega | (simp <;> omega))) | (with_reducible refine own_call (by assumption) ?_))); exact blk_news (Blk.new_at (by simp)); (unfold maxLen; omega); omega; (simp; omega); intro x2 w2 hown2 hgr hkp _; have hsy := hgr.size; (try simp at hsy))
        go_roundw
        case rel => exact ⟨k + 1, by go_num, hlt, own_snocM (m := ⟨-p, -q, -r, -s⟩) hnx.out hown2, Lib.hid (view_keep hkp hgr (by simp; omega) hpre.out (fun j u hu => by rw [cell_al2 (by omega)]; exact HC.out j u hu)), by omega, Below.grown ((by repeat (first | with_reducible exact Below.refl _ _ | with_reducible assumption | with_reducible apply Below.drew | with_reducible apply below_drewN | (with_reducible apply below_setp; (first | omega | (simp <;> omega))) | (with_reducible apply below_allocp; (first | omega | (simp <;> omega))) | (with_reducible refine below_viap (by assumption) ?_ ?_; (first | omega | (simp <;> omega)))))) hgr (by simp; omega) (fun q hq => by have := own_ge hown q hq; omega)⟩
        case measure => simp [intOf]; omega
      · obtain rfl : k = T.length := by omega
        rw [List.take_length] at hown
        have hk1 : ¬ ((T.length : Nat) : Int) < 2 := by omega
        go_wp2
        go_ret
        exact ⟨u3, rfl, hown, hbel⟩
  · rw [if_neg h1] at hT
    by_cases h2 : a = c ∧ b = a
    · rw [if_pos h2] at hT
      have HQ := Lib.hid hT.symm
      clear hT
      obtain ⟨rfl, rfl⟩ := h2
      have hb0 : (b == 0) = false := beq_eq_false_iff_ne.2 (fun e => h1 ⟨rfl, e⟩)
      clear h1
      have hs : smT T := by rw [HQ.out]; exact smT_2
      go_enter Try.func125, Try.ntmps125
      have hP := Lib.hid (fun w => one_gen w)
      go_wp2_with (first | (go_at_call 154; (with_reducible refine (hP.out _).mono ?_); rintro e v1 ⟨rfl, hB1⟩; have hZ1 := hB1.size; (try simp at hZ1); have zl1 : w.heap.size < v1.heap.size := (by omega); have hA1 : Blk v1 w.heap.size 35 #[.int .i64 b, .int .i64 b, .int .i64 b] := Blk.call (by (repeat (first | with_reducible assumption | (with_reducible apply Blk.new_at; (first | rfl | (simp; done))) | with_reducible apply Blk.store3 | with_reducible apply Blk.store4 | (with_reducible apply Blk.farp; (first | omega | (simp <;> omega))) | with_reducible apply Blk.allocp | with_reducible apply Blk.drew | with_reducible apply Blk.drewN))) hB1; have cA1 := hA1.cell; have fA1 := hA1.frozen; have lA1 := hA1.lt; have mA1 := Nat.ne_of_gt lA1; have nA1 := Nat.ne_of_lt lA1; have hb1 : Below w.heap.size w v1 := (by repeat (first | with_reducible exact Below.refl _ _ | with_reducible assumption | with_reducible apply Below.drew | with_reducible apply below_drewN | (with_reducible apply below_setp; (first | omega | (simp <;> omega))) | (with_reducible apply below_allocp; (first | omega | (simp <;> omega))) | (with_reducible refine below_viap (by assumption) ?_ ?_; (first | omega | (simp <;> omega)))))) | (at_builtin; refine wpList_append_own _ rfl (.tmp 36) (.tmp 39) 61 rfl v1.heap.size 49 i0 _ 4 32 Try.underlying61 hi hz0 hz1 hz2 rfl (by decide) (.slice (some ⟨v1.heap.size, 0, none⟩) 1 1) 1 [.int .i64 1, .int .i64 0, .int .i64 0, .int .i64 1] rfl (own_alloc (own_blk4 (Blk.new _ _ _))) ⟨v1.heap.size + 1, 0, none⟩ 2 2 [.int .i64 0, .int .i64 (-1), .int .i64 1, .int .i64 1, .int .i64 1, .int .i64 1, .int .i64 (-1), .int .i64 0] rfl rfl ?_ one8m ?_ ?_ ?_ ?_; exact blk_news (Blk.new_at (by simp)); (unfold maxLen; omega); omega; (simp; omega); intro x2 w2 hown2 hgr _; obtain ⟨g3, c3, rfl, hg3, hl3, hc3⟩ := own_some hown2 (by omega); have hsy := hgr.size; (try simp at hsy)))
      have hown3 : w2.ownsRow w.heap.size 49 4 (.slice (some ⟨g3, 0, none⟩) 3 c3) T.length (cellsM T) := by rw [HQ.out]; exact own_base (by omega) hown2
      have hb3 : Below w.heap.size w w2 := Below.grown ((by repeat (first | with_reducible exact Below.refl _ _ | with_reducible assumption | with_reducible apply Below.drew | with_reducible apply below_drewN | (with_reducible apply below_setp; (first | omega | (simp <;> omega))) | (with_reducible apply below_allocp; (first | omega | (simp <;> omega))) | (with_reducible refine below_viap (by assumption) ?_ ?_; (first | omega | (simp <;> omega)))))) hgr (by simp; omega) (fun q hq => by simp [Value.ownBlock] at hq; omega)
      have HT : Hid (∀ (j : Nat) (u : Value), (cellsM T)[j]? = some u → w2.cell? ⟨g3, j, none⟩ = some u) := Lib.hid (row_cells hown3)
      have hTl : T.length = 3 := by rw [HQ.out]; rfl
      clear HQ
      go_loopw [3, 48] (fun v vi wr => TnSt T g3 w v vi wr) (fun _ vi _ => 3 - (intOf vi).toNat)
      case atStart => exact ⟨0, rfl, Nat.zero_le _, tn_start hown3, HT, hl3, hb3⟩
      case round =>
        clear hown3 HT hb3
        obtain ⟨k, rfl, hk, hown, hc, hg, hbel⟩ := hrel
        have hz := hbel.size
        by_cases hlt : k < T.length
        · obtain ⟨s1, s2, s3, s4⟩ := hs _ (List.getElem_mem hlt)
          obtain ⟨d1, d2, d3, d4⟩ := cellsM_get T k hlt
          have d1 := hc.out _ _ d1; have d2 := hc.out _ _ d2; have d3 := hc.out _ _ d3; have d4 := hc.out _ _ d4
          have hnx := Lib.hid (tn_next hlt)
          have hll : (T ++ (T.take k).map M4.neg).length ≤ 10 := by rw [List.length_append, List.length_map, List.length_take]; omega
          have hpre := Lib.hid (pre_cellsM T ((T.take k).map M4.neg))
          have hk1 : (k : Int) < 3 := by omega
          generalize T[k] = m at *
          obtain ⟨p, q, r, s⟩ := m
          dsimp only at *
          have HC := hc
          clear hc
          generalize (T ++ (T.take k).map M4.neg) = R at *
          go_wp2_with (at_builtin; refine wpList_append_keep rfl (.tmp 52) (.tmp 66) 61 rfl w.heap.size 49 i0 _ 4 32 Try.underlying61 hi hz0 hz1 hz2 rfl (by decide) u3 R.length (cellsM R) rfl ?_ ⟨wr.heap.size + 1, 0, none⟩ 1 1 [.int .i64 (-p), .int .i64 (-q), .int .i64 (-r), .int .i64 (-s)] rfl rfl ?_ (one4m _ _ _ _) ?_ ?_ ?_ ?_; exact (by repeat (first | with_reducible assumption | with_reducible apply own_alloc | with_reducible apply own_drew | with_reducible apply own_drewN | (with_reducible refine own_setp (by assumption) ?_ ?_; (first | omega | (simp <;> omega))) | (with_reducible refine own_call (by assumption) ?_))); exact blk_news (Blk.new_at (by simp)); (unfold maxLen; omega); omega; (simp; omega); intro x2 w2 hown2 hgr hkp _; have hsy := hgr.size; (try simp at hsy))
          go_roundw
          case rel => exact ⟨k + 1, by go_num, hlt, own_snocM (m := ⟨-p, -q, -r, -s⟩) hnx.out hown2, Lib.hid (view_keep hkp hgr (by simp; omega) hpre.out (fun j u hu => by rw [cell_al2 (by omega)]; exact HC.out j u hu)), by omega, Below.grown ((by repeat (first | with_reducible exact Below.refl _ _ | with_reducible assumption | with_reducible apply Below.drew | with_reducible apply below_drewN | (with_reducible apply below_setp; (first | omega | (simp <;> omega))) | (with_reducible apply below_allocp; (first | omega | (simp <;> omega))) | (with_reducible refine below_viap (by assumption) ?_ ?_; (first | omega | (simp <;> omega)))))) hgr (by simp; omega) (fun q hq => by have := own_ge hown q hq; omega)⟩
          case measure => simp [intOf]; omega
        · obtain rfl : k = T.length := by omega
          rw [List.take_length] at hown
          have hk1 : ¬ ((T.length : Nat) : Int) < 3 := by omega
          go_wp2
          go_ret
          exact ⟨u3, rfl, hown, hbel⟩
    · rw [if_neg h2] at hT
      have HQ := Lib.hid hT.symm
      clear hT
      by_cases h3 : a = c
      · subst h3
        have hb0 : (b == 0) = false := beq_eq_false_iff_ne.2 (fun e => h1 ⟨rfl, e⟩)
        have hb1 : (b == a) = false := beq_eq_false_iff_ne.2 (fun e => h2 ⟨rfl, e⟩)
        clear h1 h2
        have hs : smT T := by rw [HQ.out]; exact smT_3
        go_enter Try.func125, Try.ntmps125
        have hP := Lib.hid (fun w => one_gen w)
        go_wp2_with (go_at_call 154; (with_reducible refine (hP.out _).mono ?_); rintro e v1 ⟨rfl, hB1⟩; have hZ1 := hB1.size; (try simp at hZ1); have zl1 : w.heap.size < v1.heap.size := (by omega); have hA1 : Blk v1 w.heap.size 35 #[.int .i64 a, .int .i64 b, .int .i64 a] := Blk.call (by (repeat (first | with_reducible assumption | (with_reducible apply Blk.new_at; (first | rfl | (simp; done))) | with_reducible apply Blk.store3 | with_reducible apply Blk.store4 | (with_reducible apply Blk.farp; (first | omega | (simp <;> omega))) | with_reducible apply Blk.allocp | with_reducible apply Blk.drew | with_reducible apply Blk.drewN))) hB1; have cA1 := hA1.cell; have fA1 := hA1.frozen; have lA1 := hA1.lt; have mA1 := Nat.ne_of_gt lA1; have nA1 := Nat.ne_of_lt lA1; have hb1 : Below w.heap.size w v1 := (by repeat (first | with_reducible exact Below.refl _ _ | with_reducible assumption | with_reducible apply Below.drew | with_reducible apply below_drewN | (with_reducible apply below_setp; (first | omega | (simp <;> omega))) | (with_reducible apply below_allocp; (first | omega | (simp <;> omega))) | (with_reducible refine below_viap (by assumption) ?_ ?_; (first | omega | (simp <;> omega))))))
        have hown3 : (v1.alloc (.cells #[.int .i64 1, .int .i64 0, .int .i64 0, .int .i64 1] 49)).ownsRow w.heap.size 49 4 (.slice (some ⟨v1.heap.size, 0, none⟩) 1 1) T.length (cellsM T) := by rw [HQ.out]; exact own_base (by omega) (own_blk4 (Blk.new _ _ _))
        have hb3 : Below w.heap.size w (v1.alloc (.cells #[.int .i64 1, .int .i64 0, .int .i64 0, .int .i64 1] 49)) := (by repeat (first | with_reducible exact Below.refl _ _ | with_reducible assumption | with_reducible apply Below.drew | with_reducible apply below_drewN | (with_reducible apply below_setp; (first | omega | (simp <;> omega))) | (with_reducible apply below_allocp; (first | omega | (simp <;> omega))) | (with_reducible refine below_viap (by assumption) ?_ ?_; (first | omega | (simp <;> omega)))))
        have hl3 : v1.heap.size < (v1.alloc (.cells #[.int .i64 1, .int .i64 0, .int .i64 0, .int .i64 1] 49)).heap.size := by simp
        have HT : Hid (∀ (j : Nat) (u : Value), (cellsM T)[j]? = some u → (v1.alloc (.cells #[.int .i64 1, .int .i64 0, .int .i64 0, .int .i64 1] 49)).cell? ⟨v1.heap.size, j, none⟩ = some u) := Lib.hid (row_cells hown3)
        have hTl : T.length = 1 := by rw [HQ.out]; rfl
        clear HQ
        go_loopw [3, 48] (fun v vi wr => TnSt T v1.heap.size w v vi wr) (fun _ vi _ => 1 - (intOf vi).toNat)
        case atStart => exact ⟨0, rfl, Nat.zero_le _, tn_start hown3, HT, hl3, hb3⟩
        case round =>
          clear hown3 HT hb3
          obtain ⟨k, rfl, hk, hown, hc, hg, hbel⟩ := hrel
          have hz := hbel.size
          by_cases hlt : k < T.length
          · obtain ⟨s1, s2, s3, s4⟩ := hs _ (List.getElem_mem hlt)
            obtain ⟨d1, d2, d3, d4⟩ := cellsM_get T k hlt
            have d1 := hc.out _ _ d1; have d2 := hc.out _ _ d2; have d3 := hc.out _ _ d3; have d4 := hc.out _ _ d4
            have hnx := Lib.hid (tn_next hlt)
            have hll : (T ++ (T.take k).map M4.neg).length ≤ 10 := by rw [List.length_append, List.length_map, List.length_take]; omega
            have hpre := Lib.hid (pre_cellsM T ((T.take k).map M4.neg))
            have hk1 : (k : Int) < 1 := by omega
            generalize T[k] = m at *
            obtain ⟨p, q, r, s⟩ := m
            dsimp only at *
            have HC := hc
            clear hc
            generalize (T ++ (T.take k).map M4.neg) = R at *
            go_wp2_with (at_builtin; refine wpList_append_keep rfl (.tmp 52) (.tmp 66) 61 rfl w.heap.size 49 i0 _ 4 32 Try.underlying61 hi hz0 hz1 hz2 rfl (by decide) u3 R.length (cellsM R) rfl ?_ ⟨wr.heap.size + 1, 0, none⟩ 1 1 [.int .i64 (-p), .int .i64 (-q), .int .i64 (-r), .int .i64 (-s)] rfl rfl ?_ (one4m _ _ _ _) ?_ ?_ ?_ ?_; exact (by repeat (first | with_reducible assumption | with_reducible apply own_alloc | with_reducible apply own_drew | with_reducible apply own_drewN | (with_reducible refine own_setp (by assumption) ?_ ?_; (first | omega | (simp <;> omega))) | (with_reducible refine own_call (by assumption) ?_))); exact blk_news (Blk.new_at (by simp)); (unfold maxLen; omega); omega; (simp; omega); intro x2 w2 hown2 hgr hkp _; have hsy := hgr.size; (try simp at hsy))
            go_roundw
            case rel => exact ⟨k + 1, by go_num, hlt, own_snocM (m := ⟨-p, -q, -r, -s⟩) hnx.out hown2, Lib.hid (view_keep hkp hgr (by simp; omega) hpre.out (fun j u hu => by rw [cell_al2 (by omega)]; exact HC.out j u hu)), by omega, Below.grown ((by repeat (first | with_reducible exact Below.refl _ _ | with_reducible assumption | with_reducible apply Below.drew | with_reducible apply below_drewN | (with_reducible apply below_setp; (first | omega | (simp <;> omega))) | (with_reducible apply below_allocp; (first | omega | (simp <;> omega))) | (with_reducible refine below_viap (by assumption) ?_ ?_; (first | omega | (simp <;> omega)))))) hgr (by simp; omega) (fun q hq => by have := own_ge hown q hq; omega)⟩
            case measure => simp [intOf]; omega
          · obtain rfl : k = T.length := by omega
            rw [List.take_length] at hown
            have hk1 : ¬ ((T.length : Nat) : Int) < 1 := by omega
            go_wp2
            go_ret
            exact ⟨u3, rfl, hown, hbel⟩
      · have hac : (a == c) = false := beq_eq_false_iff_ne.2 h3
        clear h1 h2 h3
        have hs : smT T := by rw [HQ.out]; exact smT_3
        go_enter Try.func125, Try.ntmps125
        have hP := Lib.hid (fun w => one_gen w)
        go_wp2_with (go_at_call 154; (with_reducible refine (hP.out _).mono ?_); rintro e v1 ⟨rfl, hB1⟩; have hZ1 := hB1.size; (try simp at hZ1); have zl1 : w.heap.size < v1.heap.size := (by omega); have hA1 : Blk v1 w.heap.size 35 #[.int .i64 a, .int .i64 b, .int .i64 c] := Blk.call (by (repeat (first | with_reducible assumption | (with_reducible apply Blk.new_at; (first | rfl | (simp; done))) | with_reducible apply Blk.store3 | with_reducible apply Blk.store4 | (with_reducible apply Blk.farp; (first | omega | (simp <;> omega))) | with_reducible apply Blk.allocp | with_reducible apply Blk.drew | with_reducible apply Blk.drewN))) hB1; have cA1 := hA1.cell; have fA1 := hA1.frozen; have lA1 := hA1.lt; have mA1 := Nat.ne_of_gt lA1; have nA1 := Nat.ne_of_lt lA1; have hb1 : Below w.heap.size w v1 := (by repeat (first | with_reducible exact Below.refl _ _ | with_reducible assumption | with_reducible apply Below.drew | with_reducible apply below_drewN | (with_reducible apply below_setp; (first | omega | (simp <;> omega))) | (with_reducible apply below_allocp; (first | omega | (simp <;> omega))) | (with_reducible refine below_viap (by assumption) ?_ ?_; (first | omega | (simp <;> omega))))))
        have hown3 : (v1.alloc (.cells #[.int .i64 1, .int .i64 0, .int .i64 0, .int .i64 1] 49)).ownsRow w.heap.size 49 4 (.slice (some ⟨v1.heap.size, 0, none⟩) 1 1) T.length (cellsM T) := by rw [HQ.out]; exact own_base (by omega) (own_blk4 (Blk.new _ _ _))
        have hb3 : Below w.heap.size w (v1.alloc (.cells #[.int .i64 1, .int .i64 0, .int .i64 0, .int .i64 1] 49)) := (by repeat (first | with_reducible exact Below.refl _ _ | with_reducible assumption | with_reducible apply Below.drew | with_reducible apply below_drewN | (with_reducible apply below_setp; (first | omega | (simp <;> omega))) | (with_reducible apply below_allocp; (first | omega | (simp <;> omega))) | (with_reducible refine below_viap (by assumption) ?_ ?_; (first | omega | (simp <;> omega)))))
        have hl3 : v1.heap.size < (v1.alloc (.cells #[.int .i64 1, .int .i64 0, .int .i64 0, .int .i64 1] 49)).heap.size := by simp
        have HT : Hid (∀ (j : Nat) (u : Value), (cellsM T)[j]? = some u → (v1.alloc (.cells #[.int .i64 1, .int .i64 0, .int .i64 0, .int .i64 1] 49)).cell? ⟨v1.heap.size, j, none⟩ = some u) := Lib.hid (row_cells hown3)
        have hTl : T.length = 1 := by rw [HQ.out]; rfl
        clear HQ
        go_loopw [3, 48] (fun v vi wr => TnSt T v1.heap.size w v vi wr) (fun _ vi _ => 1 - (intOf vi).toNat)
        case atStart => exact ⟨0, rfl, Nat.zero_le _, tn_start hown3, HT, hl3, hb3⟩
        case round =>
          clear hown3 HT hb3
          obtain ⟨k, rfl, hk, hown, hc, hg, hbel⟩ := hrel
          have hz := hbel.size
          by_cases hlt : k < T.length
          · obtain ⟨s1, s2, s3, s4⟩ := hs _ (List.getElem_mem hlt)
            obtain ⟨d1, d2, d3, d4⟩ := cellsM_get T k hlt
            have d1 := hc.out _ _ d1; have d2 := hc.out _ _ d2; have d3 := hc.out _ _ d3; have d4 := hc.out _ _ d4
            have hnx := Lib.hid (tn_next hlt)
            have hll : (T ++ (T.take k).map M4.neg).length ≤ 10 := by rw [List.length_append, List.length_map, List.length_take]; omega
            have hpre := Lib.hid (pre_cellsM T ((T.take k).map M4.neg))
            have hk1 : (k : Int) < 1 := by omega
            generalize T[k] = m at *
            obtain ⟨p, q, r, s⟩ := m
            dsimp only at *
            have HC := hc
            clear hc
            generalize (T ++ (T.take k).map M4.neg) = R at *
            go_wp2_with (at_builtin; refine wpList_append_keep rfl (.tmp 52) (.tmp 66) 61 rfl w.heap.size 49 i0 _ 4 32 Try.underlying61 hi hz0 hz1 hz2 rfl (by decide) u3 R.length (cellsM R) rfl ?_ ⟨wr.heap.size + 1, 0, none⟩ 1 1 [.int .i64 (-p), .int .i64 (-q), .int .i64 (-r), .int .i64 (-s)] rfl rfl ?_ (one4m _ _ _ _) ?_ ?_ ?_ ?_; exact (by repeat (first | with_reducible assumption | with_reducible apply own_alloc | with_reducible apply own_drew | with_reducible apply own_drewN | (with_reducible refine own_setp (by assumption) ?_ ?_; (first | omega | (simp <;> omega))) | (with_reducible refine own_call (by assumption) ?_))); exact blk_news (Blk.new_at (by simp)); (unfold maxLen; omega); omega; (simp; omega); intro x2 w2 hown2 hgr hkp _; have hsy := hgr.size; (try simp at hsy))
            go_roundw
            case rel => exact ⟨k + 1, by go_num, hlt, own_snocM (m := ⟨-p, -q, -r, -s⟩) hnx.out hown2, Lib.hid (view_keep hkp hgr (by simp; omega) hpre.out (fun j u hu => by rw [cell_al2 (by omega)]; exact HC.out j u hu)), by omega, Below.grown ((by repeat (first | with_reducible exact Below.refl _ _ | with_reducible assumption | with_reducible apply Below.drew | with_reducible apply below_drewN | (with_reducible apply below_setp; (first | omega | (simp <;> omega))) | (with_reducible apply below_allocp; (first | omega | (simp <;> omega))) | (with_reducible refine below_viap (by assumption) ?_ ?_; (first | omega | (simp <;> omega)))))) hgr (by simp; omega) (fun q hq => by have := own_ge hown q hq; omega)⟩
            case measure => simp [intOf]; omega
          · obtain rfl : k = T.length := by omega
            rw [List.take_length] at hown
            have hk1 : ¬ ((T.length : Nat) : Int) < 1 := by omega
            go_wp2
            go_ret
            exact ⟨u3, rfl, hown, hbel⟩
end Go.Proofs.Yteicampphegolaa
