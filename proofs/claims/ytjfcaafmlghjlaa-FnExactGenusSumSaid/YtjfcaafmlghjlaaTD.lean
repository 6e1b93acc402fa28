/- Contracts: the sum of the theta series of forms, of the reference and of the program. -/
import Derived.Test.YtjfcaafmlghjlaaTB
import Derived.Test.YtjfcaafmlghjlaaQX
namespace Go.Proofs.Ytjfcaafmlghjlaa
open Go.RowKit

/-- The number of points of all forms with the value m. -/
noncomputable def smN (d : Int) (L : List Fm) (m : Nat) : Nat := (L.map fun f => rN d f m).sum
noncomputable def smL (d : Int) (L : List Fm) (N : Nat) : List Int := (List.range N).map fun m => (smN d L m : Int)
theorem smL_len (d : Int) (L : List Fm) (N : Nat) : (smL d L N).length = N := by simp [smL]
theorem smN_next {d : Int} {L : List Fm} {k : Nat} (h : k < L.length) (m : Nat) : smN d (L.take (k + 1)) m = smN d (L.take k) m + rN d L[k] m := by
  unfold smN
  rw [List.take_succ_eq_append_getElem h, List.map_append, List.sum_append]
  simp
theorem smN_le {d : Int} (D : Dsc d) {L : List Fm} (hL : ∀ f ∈ L, f ∈ clsL d) {m : Nat} (hm : m ≤ 100) : smN d L m ≤ 50000 * L.length := by
  unfold smN
  induction L with
  | nil => simp
  | cons f L ih =>
    have h1 := ih (fun g hg => hL g (List.mem_cons_of_mem _ hg))
    have h2 := rN_le D (hL f (by simp)) hm
    rw [List.map_cons, List.sum_cons, List.length_cons]
    omega
/-- The state of the sums. -/
def SmW (g : Nat → Nat) (N O : Nat) (w wr : World) : Prop := Hid (wr.rowIs O 3 N (fun m => .int .i64 (g m : Nat))) ∧ O < wr.heap.size ∧ Below w.heap.size w wr
theorem SmW.below {g : Nat → Nat} {N O : Nat} {w wr w' : World} (h : SmW g N O w wr) (hb : Below wr.heap.size wr w') : SmW g N O w w' :=
  ⟨Lib.hid (h.1.out.of_block (hb.block _ h.2.1)), by have := hb.size; have := h.2.1; omega, below_via h.2.2 hb h.2.2.size⟩
theorem SmW.set {g h : Nat → Nat} {N O q x : Nat} {w wr : World} (hs : SmW g N O w wr) (hO : w.heap.size ≤ O) (hx : h q = x) (hg : ∀ j, j ≠ q → h j = g j) : SmW h N O w (wr.setCell ⟨O, q, none⟩ (.int .i64 (x : Nat))) := by
  refine ⟨Lib.hid ((hs.1.out.set q _).congr (fun j _ => ?_)), by simp; exact hs.2.1, below_setp hO hs.2.2⟩
  by_cases e : j = q
  · subst e; simp [hx]
  · simp [e, hg j e]
theorem SmW.congr {g h : Nat → Nat} {N O : Nat} {w wr : World} (hs : SmW g N O w wr) (hg : ∀ j, j < N → h j = g j) : SmW h N O w wr :=
  ⟨Lib.hid (hs.1.out.congr (fun j hj => by rw [hg j hj])), hs.2⟩
theorem own_ne2 {w : World} {B : Nat} {v : Value} {e : TypeId} {sz n s : Nat} {xs : List Value} (h : w.ownsRow B e sz v n xs) (hs : s < B) : v.ownBlock = none ∨ v.ownBlock ≠ some s := by
  cases hv : v.ownBlock with
  | none => exact .inl rfl
  | some q => exact .inr (fun he => by injection he with he; have := own_ge h q hv; omega)
theorem grown_refl2 (w : World) (row : Option Nat) : w.grownBy w row := ⟨rfl, rfl, rfl, Nat.le_refl _, fun _ _ _ => rfl⟩
theorem grown_set2 {w wr : World} {O n : Nat} {u : Value} (h : w.grownBy wr (some O)) : w.grownBy (wr.setCell ⟨O, n, none⟩ u) (some O) :=
  ⟨h.os, h.tape, h.output, by have := h.size; simp; exact this, fun j hj hne => (heap_setCell_other wr ⟨O, n, none⟩ j _ (fun e => hne (by rw [e]))).trans (h.block j hj hne)⟩

set_option maxRecDepth 100000 in
set_option maxHeartbeats 6400000 in
theorem thSum_any (d : Int) (n : Nat) (L : List Fm) (v : Value) (B : Nat) (w : World) (D : Dsc d) (hL : ∀ f ∈ L, f ∈ clsL d) (hl : L.length ≤ 2000) (hn : n ≤ 100) (ho : w.ownsRow B 35 3 v L.length (cellsF L)) :
    Calls Try.prog 197 #[v, .int .i64 n] w (RetI (smL d L (n + 1)) w) := by
  obtain ⟨base, cap, rfl⟩ := own_shape ho
  have HO := Lib.hid ho
  have hT := Lib.hid (fun f (hf : f ∈ L) w => thSeries_any d n f w D (hL f hf) hn)
  have hrN := Lib.hid (fun f (hf : f ∈ L) (m : Nat) (hm : m ≤ n) => rN_le D (hL f hf) (show m ≤ 100 by omega))
  have hsN := Lib.hid (fun (k m : Nat) (hm : m ≤ n) => (show smN d (L.take k) m ≤ 50000 * 2000 from by
    have h1 := smN_le D (L := L.take k) (fun f hf => hL f (List.mem_of_mem_take hf)) (show m ≤ 100 by omega)
    have h2 : (L.take k).length ≤ 2000 := by rw [List.length_take]; omega
    have h3 := Nat.mul_le_mul_left 50000 h2
    omega))
  have hmk := run_make_row' (P := Try.prog) 31 3 (.int .i64 0) 8 Try.underlying31 infoInt rfl .i64 .i64 (n + 1) (by omega) (by omega)
  rw [show ((n + 1 : Nat) : Int) = (n : Int) + 1 by omega] at hmk
  obtain ⟨N, hNe⟩ : ∃ N, n + 1 = N := ⟨_, rfl⟩
  rw [hNe] at hmk hT
  rw [hNe]
  have hNn : N = n + 1 := hNe.symm
  have hw0 : wrap64 ((n : Int) + 1) = (n : Int) + 1 := IntWalk.wrap64_in _ (by omega)
  clear ho D hL hNe
  have HN := Lib.hid hNn
  have hN1 : N ≤ 101 := by omega
  clear hNn
  obtain ⟨M, hM⟩ : ∃ M, L.length = M := ⟨_, rfl⟩
  have HM := Lib.hid hM
  rw [hM] at hl ⊢
  clear hM
  go_enter Try.func197, Try.ntmps197
  go_wp2
  have hW0 : SmW (fun m => smN d (L.take 0) m) N w.heap.size w (w.alloc (.cells (madeCells #[.int .i64 0] N) 3)) :=
    ⟨Lib.hid ((World.rowIs_made w (.int .i64 0) N 3).congr (fun j _ => by simp [smN])), by simp, (by repeat (first | with_reducible exact Below.refl _ _ | with_reducible assumption | with_reducible apply Below.drew | with_reducible apply below_drewN | (with_reducible apply below_setp; (first | omega | (simp <;> omega))) | (with_reducible apply below_allocp; (first | omega | (simp <;> omega))) | (with_reducible refine below_viap (by assumption) ?_ ?_; (first | omega | (simp <;> omega)))))⟩
  go_loopw [15] (fun vi wr => ∃ k : Nat, vi = .int .i64 k ∧ k ≤ M ∧ SmW (fun m => smN d (L.take k) m) N w.heap.size w wr) (fun vi _ => M - (intOf vi).toNat)
  case atStart => exact ⟨0, rfl, Nat.zero_le _, hW0⟩
  case round =>
    clear hW0
    obtain ⟨k, rfl, hk, hR, hsz, hbel⟩ := hrel
    have hz := hbel.size
    by_cases hlt : k < M
    · have hkL : k < L.length := by rw [HM.out]; exact hlt
      obtain ⟨g, rfl, hg, d1, d2, d3⟩ := own_elem (own_bel hbel (own_lt HO.out) HO.out) hkL
      have hTf := Lib.hid (fun w => hT.out _ (List.getElem_mem hkL) w)
      have hrf := Lib.hid (fun m hm => hrN.out _ (List.getElem_mem hkL) m hm)
      have hnx := Lib.hid (smN_next (d := d) hkL)
      generalize L[k] = f at d1 d2 d3 hTf hrf hnx
      have hW := Lib.hid (show SmW (fun m => smN d (L.take k) m) N w.heap.size w wr from ⟨hR, hsz, hbel⟩)
      have n1 : ¬ w.heap.size = wr.heap.size := by omega
      have n2 : w.heap.size < wr.heap.size + 1 := by omega
      clear hR
      go_wp2_with fail
      refine (hTf.out _).mono ?_
      rintro e v2 ⟨vt, rfl, hot, hB2⟩
      obtain ⟨bt, ct, rfl⟩ := own_shape hot
      have hZ2 := hB2.size
      (try simp at hZ2)
      have hb2 : Below wr.heap.size wr v2 := (by repeat (first | with_reducible exact Below.refl _ _ | with_reducible assumption | with_reducible apply Below.drew | with_reducible apply below_drewN | (with_reducible apply below_setp; (first | omega | (simp <;> omega))) | (with_reducible apply below_allocp; (first | omega | (simp <;> omega))) | (with_reducible refine below_viap (by assumption) ?_ ?_; (first | omega | (simp <;> omega)))))
      have hW2 := Lib.hid (hW.out.below hb2)
      have HT := Lib.hid hot
      have hlT : (thL d f N).length = N := thL_len d f N
      have HlT := Lib.hid hlT
      rw [hlT] at hot ⊢
      have hsz2 : w.heap.size < wr.heap.size := hsz
      clear hB2 hot hlT
      have hI0 : SmW (fun m => smN d (L.take k) m + if m < 0 then rN d f m else 0) N w.heap.size w v2 := hW2.out.congr (fun j _ => by simp)
      go_wp2
      obtain ⟨wo, rfl⟩ : ∃ wo : World, wo = wr := ⟨_, rfl⟩
      go_loopw [23] (fun vi wr => ∃ q : Nat, vi = .int .i64 q ∧ q ≤ N ∧ SmW (fun m => smN d (L.take k) m + if m < q then rN d f m else 0) N w.heap.size w wr ∧ Hid (v2.grownBy wr (some w.heap.size))) (fun vi _ => N - (intOf vi).toNat)
      case atStart => exact ⟨0, rfl, Nat.zero_le _, hI0, Lib.hid (grown_refl2 _ _)⟩
      case round =>
        clear hI0
        obtain ⟨q, rfl, hq, hS, hgr⟩ := hrel
        have HS := Lib.hid hS
        obtain ⟨hR, hsz3, hbel3⟩ := hS
        have hz3 := hbel3.size
        have hz4 := hgr.out.size
        by_cases hqt : q < N
        · obtain ⟨gt, rfl, lt, e1⟩ := own_elemI (HT.out.kept hgr.out (own_ne2 HT.out (by simp; omega))) (by rw [HlT.out]; exact hqt)
          rw [thL_get] at e1
          have cR : wr.cell? ⟨w.heap.size, q, none⟩ = some (.int .i64 ((smN d (L.take k) q : Nat) : Int)) := by have := hR.out.cell hqt; simpa using this
          have fR := hR.out.frozen q
          have h1 := hrf.out q (by have := HN.out; omega)
          have h2 := hsN.out k q (by have := HN.out; omega)
          have hSn := Lib.hid (HS.out.set (h := fun m => smN d (L.take k) m + if m < q + 1 then rN d f m else 0) (q := q) (x := smN d (L.take k) q + rN d f q) (Nat.le_refl _) (by simp) (fun j hj => by
            by_cases hjq : j < q
            · simp [hjq, show j < q + 1 by omega]
            · simp [hjq, show ¬ j < q + 1 by omega]))
          have hg3 := Lib.hid (grown_set2 (n := q) (u := .int .i64 ((smN d (L.take k) q + rN d f q : Nat) : Int)) hgr.out)
          generalize smN d (L.take k) q = a at *
          generalize rN d f q = b at *
          have hab : wrap64 ((a : Int) + b) = ((a + b : Nat) : Int) := by rw [IntWalk.wrap64_in _ (by omega)]; omega
          have e2 : ¬ gt = w.heap.size := by
            have := own_ge HT.out gt rfl
            simp at this
            omega
          clear h1 h2 hR HS hgr
          go_wp2
          exact ⟨⟨q + 1, by simp, hqt, hSn.out, hg3⟩, by simp [intOf]; omega⟩
        · have hqN : q = N := by omega
          have hSf : SmW (fun m => smN d (L.take (k + 1)) m) N w.heap.size w wr := HS.out.congr (fun j hj => by rw [hnx.out, if_pos (by omega)])
          clear hR HS hgr
          go_wp2
          exact ⟨⟨k + 1, by simp, hlt, hSf⟩, by simp [intOf]; omega⟩
    · have hkM : k = M := by omega
      subst hkM
      go_wp2
      go_ret
      have hfull : L.take k = L := by rw [← HM.out, List.take_length]
      rw [hfull] at hR
      have hown := rowIs_own (xs := cellsI (smL d L N)) (B := w.heap.size) hR.out (by rw [cellsI_len, smL_len]) (fun m hm => by simp [cellsI, smL, hm]) (Nat.le_refl _) (by unfold maxLen; omega)
      exact ⟨_, rfl, by rw [smL_len]; exact hown, hbel⟩

set_option maxRecDepth 100000 in
set_option maxHeartbeats 6400000 in
theorem thetaSum_any (d : Int) (n : Nat) (L : List Fm) (v : Value) (B : Nat) (w : World) (D : Dsc d) (hL : ∀ f ∈ L, f ∈ clsL d) (hl : L.length ≤ 2000) (hn : n ≤ 100) (ho : w.ownsRow B 35 3 v L.length (cellsF L)) :
    Calls Try.prog 202 #[v, .int .i64 n] w (RetI (smL d L (n + 1)) w) := by
  obtain ⟨base, cap, rfl⟩ := own_shape ho
  have HO := Lib.hid ho
  have hT := Lib.hid (fun f (hf : f ∈ L) w => theta_any d n f w D (hL f hf) hn)
  have hrN := Lib.hid (fun f (hf : f ∈ L) (m : Nat) (hm : m ≤ n) => rN_le D (hL f hf) (show m ≤ 100 by omega))
  have hsN := Lib.hid (fun (k m : Nat) (hm : m ≤ n) => (show smN d (L.take k) m ≤ 50000 * 2000 from by
    have h1 := smN_le D (L := L.take k) (fun f hf => hL f (List.mem_of_mem_take hf)) (show m ≤ 100 by omega)
    have h2 : (L.take k).length ≤ 2000 := by rw [List.length_take]; omega
    have h3 := Nat.mul_le_mul_left 50000 h2
    omega))
  have hmk := run_make_row' (P := Try.prog) 31 3 (.int .i64 0) 8 Try.underlying31 infoInt rfl .i64 .i64 (n + 1) (by omega) (by omega)
  rw [show ((n + 1 : Nat) : Int) = (n : Int) + 1 by omega] at hmk
  obtain ⟨N, hNe⟩ : ∃ N, n + 1 = N := ⟨_, rfl⟩
  rw [hNe] at hmk hT
  rw [hNe]
  have hNn : N = n + 1 := hNe.symm
  have hw0 : wrap64 ((n : Int) + 1) = (n : Int) + 1 := IntWalk.wrap64_in _ (by omega)
  clear ho D hL hNe
  have HN := Lib.hid hNn
  have hN1 : N ≤ 101 := by omega
  clear hNn
  obtain ⟨M, hM⟩ : ∃ M, L.length = M := ⟨_, rfl⟩
  have HM := Lib.hid hM
  rw [hM] at hl ⊢
  clear hM
  go_enter Try.func202, Try.ntmps202
  go_wp2
  have hW0 : SmW (fun m => smN d (L.take 0) m) N w.heap.size w (w.alloc (.cells (madeCells #[.int .i64 0] N) 3)) :=
    ⟨Lib.hid ((World.rowIs_made w (.int .i64 0) N 3).congr (fun j _ => by simp [smN])), by simp, (by repeat (first | with_reducible exact Below.refl _ _ | with_reducible assumption | with_reducible apply Below.drew | with_reducible apply below_drewN | (with_reducible apply below_setp; (first | omega | (simp <;> omega))) | (with_reducible apply below_allocp; (first | omega | (simp <;> omega))) | (with_reducible refine below_viap (by assumption) ?_ ?_; (first | omega | (simp <;> omega)))))⟩
  go_loopw [15] (fun vi wr => ∃ k : Nat, vi = .int .i64 k ∧ k ≤ M ∧ SmW (fun m => smN d (L.take k) m) N w.heap.size w wr) (fun vi _ => M - (intOf vi).toNat)
  case atStart => exact ⟨0, rfl, Nat.zero_le _, hW0⟩
  case round =>
    clear hW0
    obtain ⟨k, rfl, hk, hR, hsz, hbel⟩ := hrel
    have hz := hbel.size
    by_cases hlt : k < M
    · have hkL : k < L.length := by rw [HM.out]; exact hlt
      obtain ⟨g, rfl, hg, d1, d2, d3⟩ := own_elem (own_bel hbel (own_lt HO.out) HO.out) hkL
      have hTf := Lib.hid (fun w => hT.out _ (List.getElem_mem hkL) w)
      have hrf := Lib.hid (fun m hm => hrN.out _ (List.getElem_mem hkL) m hm)
      have hnx := Lib.hid (smN_next (d := d) hkL)
      generalize L[k] = f at d1 d2 d3 hTf hrf hnx
      have hW := Lib.hid (show SmW (fun m => smN d (L.take k) m) N w.heap.size w wr from ⟨hR, hsz, hbel⟩)
      have n1 : ¬ w.heap.size = wr.heap.size := by omega
      have n2 : w.heap.size < wr.heap.size + 1 := by omega
      clear hR
      go_wp2_with fail
      refine (hTf.out _).mono ?_
      rintro e v2 ⟨vt, rfl, hot, hB2⟩
      obtain ⟨bt, ct, rfl⟩ := own_shape hot
      have hZ2 := hB2.size
      (try simp at hZ2)
      have hb2 : Below wr.heap.size wr v2 := (by repeat (first | with_reducible exact Below.refl _ _ | with_reducible assumption | with_reducible apply Below.drew | with_reducible apply below_drewN | (with_reducible apply below_setp; (first | omega | (simp <;> omega))) | (with_reducible apply below_allocp; (first | omega | (simp <;> omega))) | (with_reducible refine below_viap (by assumption) ?_ ?_; (first | omega | (simp <;> omega)))))
      have hW2 := Lib.hid (hW.out.below hb2)
      have HT := Lib.hid hot
      have hlT : (thL d f N).length = N := thL_len d f N
      have HlT := Lib.hid hlT
      rw [hlT] at hot ⊢
      have hsz2 : w.heap.size < wr.heap.size := hsz
      clear hB2 hot hlT
      have hI0 : SmW (fun m => smN d (L.take k) m + if m < 0 then rN d f m else 0) N w.heap.size w v2 := hW2.out.congr (fun j _ => by simp)
      go_wp2
      obtain ⟨wo, rfl⟩ : ∃ wo : World, wo = wr := ⟨_, rfl⟩
      go_loopw [23] (fun vi wr => ∃ q : Nat, vi = .int .i64 q ∧ q ≤ N ∧ SmW (fun m => smN d (L.take k) m + if m < q then rN d f m else 0) N w.heap.size w wr ∧ Hid (v2.grownBy wr (some w.heap.size))) (fun vi _ => N - (intOf vi).toNat)
      case atStart => exact ⟨0, rfl, Nat.zero_le _, hI0, Lib.hid (grown_refl2 _ _)⟩
      case round =>
        clear hI0
        obtain ⟨q, rfl, hq, hS, hgr⟩ := hrel
        have HS := Lib.hid hS
        obtain ⟨hR, hsz3, hbel3⟩ := hS
        have hz3 := hbel3.size
        have hz4 := hgr.out.size
        by_cases hqt : q < N
        · obtain ⟨gt, rfl, lt, e1⟩ := own_elemI (HT.out.kept hgr.out (own_ne2 HT.out (by simp; omega))) (by rw [HlT.out]; exact hqt)
          rw [thL_get] at e1
          have cR : wr.cell? ⟨w.heap.size, q, none⟩ = some (.int .i64 ((smN d (L.take k) q : Nat) : Int)) := by have := hR.out.cell hqt; simpa using this
          have fR := hR.out.frozen q
          have h1 := hrf.out q (by have := HN.out; omega)
          have h2 := hsN.out k q (by have := HN.out; omega)
          have hSn := Lib.hid (HS.out.set (h := fun m => smN d (L.take k) m + if m < q + 1 then rN d f m else 0) (q := q) (x := smN d (L.take k) q + rN d f q) (Nat.le_refl _) (by simp) (fun j hj => by
            by_cases hjq : j < q
            · simp [hjq, show j < q + 1 by omega]
            · simp [hjq, show ¬ j < q + 1 by omega]))
          have hg3 := Lib.hid (grown_set2 (n := q) (u := .int .i64 ((smN d (L.take k) q + rN d f q : Nat) : Int)) hgr.out)
          generalize smN d (L.take k) q = a at *
          generalize rN d f q = b at *
          have hab : wrap64 ((a : Int) + b) = ((a + b : Nat) : Int) := by rw [IntWalk.wrap64_in _ (by omega)]; omega
          have e2 : ¬ gt = w.heap.size := by
            have := own_ge HT.out gt rfl
            simp at this
            omega
          clear h1 h2 hR HS hgr
          go_wp2
          exact ⟨⟨q + 1, by simp, hqt, hSn.out, hg3⟩, by simp [intOf]; omega⟩
        · have hqN : q = N := by omega
          have hSf : SmW (fun m => smN d (L.take (k + 1)) m) N w.heap.size w wr := HS.out.congr (fun j hj => by rw [hnx.out, if_pos (by omega)])
          clear hR HS hgr
          go_wp2
          exact ⟨⟨k + 1, by simp, hlt, hSf⟩, by simp [intOf]; omega⟩
    · have hkM : k = M := by omega
      subst hkM
      go_wp2
      go_ret
      have hfull : L.take k = L := by rw [← HM.out, List.take_length]
      rw [hfull] at hR
      have hown := rowIs_own (xs := cellsI (smL d L N)) (B := w.heap.size) hR.out (by rw [cellsI_len, smL_len]) (fun m hm => by simp [cellsI, smL, hm]) (Nat.le_refl _) (by unfold maxLen; omega)
      exact ⟨_, rfl, by rw [smL_len]; exact hown, hbel⟩

end Go.Proofs.Ytjfcaafmlghjlaa
