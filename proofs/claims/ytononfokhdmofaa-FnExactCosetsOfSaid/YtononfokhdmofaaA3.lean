/- Words: a slice of forms that came in; contracts: its copy, its size. -/
import Derived.Test.YtononfokhdmofaaA1
import Derived.Test.YtononfokhdmofaaG7
import Derived.Deep.RegionLaw
namespace Go.Proofs.Ytononfokhdmofaa
open Go.RowKit

/-- The value v is a slice that reads as zs. -/
def RdF (zs : List Fm) (v : Value) (w : World) : Prop :=
  ∃ (A : Option Addr) (cap : Nat), v = .slice A zs.length cap ∧ ∀ i (h : i < zs.length), ∃ a, A = some a ∧ w.cell? (a.add (i * 3)) = some (.int .i64 zs[i].a) ∧ w.cell? ⟨(a.add (i * 3)).block, (a.add (i * 3)).off + 1, none⟩ = some (.int .i64 zs[i].b) ∧ w.cell? ⟨(a.add (i * 3)).block, (a.add (i * 3)).off + 2, none⟩ = some (.int .i64 zs[i].c)
theorem RdF.call {zs : List Fm} {v : Value} {w w' : World} (h : RdF zs v w) (hb : Below w.heap.size w w') : RdF zs v w' := by
  obtain ⟨A, cap, rfl, hc⟩ := h
  refine ⟨A, cap, rfl, fun i hi => ?_⟩
  obtain ⟨a, rfl, h0, h1, h2⟩ := hc i hi
  exact ⟨a, rfl, (hb.cell (lt_of_cell h0)).trans h0, (hb.cell (lt_of_cell h1)).trans h1, (hb.cell (lt_of_cell h2)).trans h2⟩
theorem run_make3 (n : Nat) (hn : n ≤ 2000000) (w : World) :
    (Instr.makeSlice 29 (.int .i64 (n : Int)) (.int .i64 (n : Int))).run Try.prog w = .ok (.slice (some ⟨w.heap.size, 0, none⟩) n n) (w.alloc (.cells (madeCells #[.int .i64 0, .int .i64 0, .int .i64 0] (n * 3)) 26)) := by
  obtain ⟨i0, hi, hz0, hz1, hz2⟩ := info_parts infoForm
  have hr := run_make (P := Try.prog) w 29 26 i0 _ Try.underlying29 hi hz0 .i64 .i64 n n (by omega) (Int.le_refl _) (by rw [hz2]; omega) (by omega)
  simp only [Int.toNat_natCast, hz1] at hr
  exact hr
theorem rowIs_made3 (w : World) (n : Nat) (t : TypeId) : (w.alloc (.cells (madeCells #[.int .i64 0, .int .i64 0, .int .i64 0] n) t)).rowIs w.heap.size t n (fun _ => .int .i64 0) :=
  ⟨_, heap_alloc_new w _, size_madeCells _ _, fun i hi => by
    rcases (show i % 3 = 0 ∨ i % 3 = 1 ∨ i % 3 = 2 by omega) with e | e | e <;> simp [madeCells, hi, e]⟩
/-- The copy while it is made. -/
def copyF (zs : List Fm) (q j : Nat) : Value := if j < q * 3 then (cellsF zs).getD j (.int .i64 0) else .int .i64 0
theorem copyF_next {zs : List Fm} {q : Nat} (h : q < zs.length) : ∀ j, (if j = q * 3 + 2 then Value.int .i64 zs[q].c else if j = q * 3 + 1 then Value.int .i64 zs[q].b else if j = q * 3 then Value.int .i64 zs[q].a else copyF zs q j) = copyF zs (q + 1) j := by
  intro j
  obtain ⟨h0, h1, h2⟩ := cellsF_get zs q h
  unfold copyF
  by_cases e2 : j = q * 3 + 2
  · subst e2
    rw [if_pos rfl, if_pos (by omega), List.getD_eq_getElem?_getD, show q * 3 + 2 = 3 * q + 2 by omega, h2]; rfl
  · rw [if_neg e2]
    by_cases e1 : j = q * 3 + 1
    · subst e1
      rw [if_pos rfl, if_pos (by omega), List.getD_eq_getElem?_getD, show q * 3 + 1 = 3 * q + 1 by omega, h1]; rfl
    · rw [if_neg e1]
      by_cases e0 : j = q * 3
      · subst e0
        rw [if_pos rfl, if_pos (by omega), List.getD_eq_getElem?_getD, show q * 3 = 3 * q by omega, h0]; rfl
      · rw [if_neg e0]
        by_cases hj : j < q * 3
        · rw [if_pos hj, if_pos (by omega)]
        · rw [if_neg hj, if_neg (by omega)]
theorem copyF_full {zs : List Fm} : ∀ i, i < zs.length * 3 → (cellsF zs)[i]? = some (copyF zs zs.length i) := by
  intro i hi
  have hl := cellsF_len zs
  unfold copyF
  rw [if_pos hi, List.getD_eq_getElem?_getD, List.getElem?_eq_getElem (by omega)]
  rfl
theorem rowIs_own3 {w : World} {b B n : Nat} {t : TypeId} {f : Nat → Value} {xs : List Value} (h : w.rowIs b t (n * 3) f) (hl : xs.length = 3 * n) (hx : ∀ i, i < n * 3 → xs[i]? = some (f i)) (hB : B ≤ b) (hm : n ≤ maxLen) :
    w.ownsRow B t 3 (.slice (some ⟨b, 0, none⟩) n n) n xs := by
  obtain ⟨c, hb, hc, hv⟩ := h
  refine ⟨by omega, .inr ⟨b, n, c, rfl, hB, hb, Nat.le_refl _, hm, by omega, ?_⟩⟩
  refine List.ext_getElem? fun i => ?_
  by_cases hi : i < n * 3
  · rw [List.getElem?_take, if_pos (by omega), hx i hi]
    have := hv i hi
    rw [← Array.getElem?_toList] at this
    exact this
  · rw [List.getElem?_take, if_neg (by omega), List.getElem?_eq_none (by omega)]
def CfSt (zs : List Fm) (w : World) (vi : Value) (wr : World) : Prop :=
  ∃ q : Nat, vi = .int .i64 q ∧ q ≤ zs.length ∧ Hid (wr.rowIs w.heap.size 26 (zs.length * 3) (copyF zs q)) ∧ w.heap.size < wr.heap.size ∧ Below w.heap.size w wr

set_option maxRecDepth 100000 in
set_option maxHeartbeats 1600000 in
theorem toFormS_any (zs : List Fm) (v : Value) (w : World) (hl : zs.length ≤ 1048576) (h : RdF zs v w) :
    Calls Try.prog 33 #[v] w (RetF zs w) := by
  have H := Lib.hid h
  obtain ⟨A, cap, rfl, _⟩ := h
  have hmk2 := run_make3 zs.length (by omega)
  go_enter Try.func33, Try.ntmps33
  go_wp2
  go_loopw [4] (fun i wr => CfSt zs w i wr) (fun i _ => zs.length - (intOf i).toNat)
  case atStart => exact ⟨0, rfl, Nat.zero_le _, Lib.hid ((rowIs_made3 w _ _).congr (fun j _ => by unfold copyF; simp)), by simp, (by repeat (first | with_reducible exact Below.refl _ _ | with_reducible assumption | with_reducible apply Below.drew | with_reducible apply below_drewN | (with_reducible apply below_setp; (first | omega | (simp <;> omega))) | (with_reducible apply below_allocp; (first | omega | (simp <;> omega))) | (with_reducible refine below_viap (by assumption) ?_ ?_; (first | omega | (simp <;> omega)))))⟩
  case round =>
    obtain ⟨q, rfl, hq, hR, hlt0, hbel⟩ := hrel
    have hz := hbel.size
    by_cases hlt : q < zs.length
    · obtain ⟨A2, cap2, hA2, hc2⟩ := H.out.call hbel
      injection hA2 with e1 e2 e3
      subst e1; subst e3
      obtain ⟨a, rfl, ha, hb, hc⟩ := hc2 q hlt
      have hqn := Lib.hid (copyF_next hlt)
      generalize zs[q] = f at ha hb hc hqn
      have nW : ¬ w.heap.size = wr.heap.size := by omega
      clear hc2
      go_wp2_with (go_at_call 16; refine (toForm_any f.a f.b f.c _).mono ?_; rintro e v1 ⟨rfl, hB1⟩; have hZ1 := hB1.size; (try simp at hZ1); have hR1 := Lib.hid (hR.out.of_block (hB1.block _ hlt0)); have cR0 := hR1.out.cell (i := q * 3) (by omega); have cR1 := hR1.out.cell (i := q * 3 + 1) (by omega); have cR2 := hR1.out.cell (i := q * 3 + 2) (by omega); have fR0 := hR1.out.frozen (q * 3); have fR1 := hR1.out.frozen (q * 3 + 1); have fR2 := hR1.out.frozen (q * 3 + 2))
      all_goals
        have hb3 : Below w.heap.size w v1 := (by repeat (first | with_reducible exact Below.refl _ _ | with_reducible assumption | with_reducible apply Below.drew | with_reducible apply below_drewN | (with_reducible apply below_setp; (first | omega | (simp <;> omega))) | (with_reducible apply below_allocp; (first | omega | (simp <;> omega))) | (with_reducible refine below_viap (by assumption) ?_ ?_; (first | omega | (simp <;> omega)))))
        go_wp2
        exact ⟨⟨q + 1, rfl, hlt, Lib.hid ((((hR1.out.set _ _).set _ _).set _ _).congr (fun j _ => hqn.out j)), by simp; omega, (by repeat (first | with_reducible exact Below.refl _ _ | with_reducible assumption | with_reducible apply Below.drew | with_reducible apply below_drewN | (with_reducible apply below_setp; (first | omega | (simp <;> omega))) | (with_reducible apply below_allocp; (first | omega | (simp <;> omega))) | (with_reducible refine below_viap (by assumption) ?_ ?_; (first | omega | (simp <;> omega)))))⟩, by simp [intOf]; omega⟩
    · have e : q = zs.length := by omega
      have hown := rowIs_own3 (xs := cellsF zs) (B := w.heap.size) hR.out (cellsF_len zs) (e ▸ copyF_full) (Nat.le_refl _) (by unfold maxLen; omega)
      have Hown := Lib.hid hown
      clear hown hR
      subst e
      go_wp2
      go_ret
      exact ⟨_, rfl, Hown.out, hbel⟩

set_option maxRecDepth 100000 in
theorem szFormS_any (zs : List Fm) (v : Value) (w : World) (h : RdF zs v w) (hl : zs.length ≤ maxLen) :
    Calls Try.prog 31 #[v, .int .i64 1048576] w fun e w' => e = .returned (.int .i64 (if zs.length ≤ 1048576 then 1048576 - zs.length else -1)) ∧ w = w' := by
  obtain ⟨A, cap, rfl, _⟩ := h
  unfold maxLen at hl
  by_cases hz : zs.length ≤ 1048576
  · rw [if_pos hz]
    go_enter Try.func31, Try.ntmps31
    go_wp2
    go_ret
    exact ⟨rfl, rfl⟩
  · rw [if_neg hz]
    go_enter Try.func31, Try.ntmps31
    go_wp2
    go_ret
    exact ⟨rfl, rfl⟩
end Go.Proofs.Ytononfokhdmofaa
