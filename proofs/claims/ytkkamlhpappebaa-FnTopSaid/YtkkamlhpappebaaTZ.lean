/- Parts T6 T7 T8 laid together by tp.py. -/
import Derived.Test.YtkkamlhpappebaaKT
import Derived.Test.YtkkamlhpappebaaKX
import Derived.Deep.OwnRows
import Derived.Deep.RegionHeld3
import Derived.Test.YtkkamlhpappebaaT5
namespace Go.Proofs.Ytkkamlhpappebaa
section
open Go.RowKit

theorem infoSl : (Try.prog.info? 30).map (fun i => (i.zero, i.size, i.bytes)) = some (some (.slice none 0 0), 1, 24) := by kernel_rfl
/-- The row of the table at the class f. -/
noncomputable def rowT (d : Int) (L : List Fm) (f : Fm) : List Int := L.map fun g => gix L (cmp d f g)
theorem rowT_len (d : Int) (L : List Fm) (f : Fm) : (rowT d L f).length = L.length := by unfold rowT; simp
theorem rowT_get {d : Int} {L : List Fm} {f : Fm} {j : Nat} (h : j < L.length) : (cellsI (rowT d L f))[j]? = some (.int .i64 (gix L (cmp d f L[j]))) := by
  unfold rowT cellsI; simp [h]
theorem own_bel {w w' : World} {B N : Nat} {e : TypeId} {sz : Nat} {v : Value} {n : Nat} {xs : List Value} (hb : Below N w w') (hlt : ∀ k, v.ownBlock = some k → k < N) (h : w.ownsRow B e sz v n xs) : w'.ownsRow B e sz v n xs := by
  refine ⟨h.1, ?_⟩
  rcases h.2 with hn | ⟨g, cap, cur, hv, hg, hh, r⟩
  · exact .inl hn
  · exact .inr ⟨g, cap, cur, hv, hg, (hb.block g (hlt g (by rw [hv]; rfl))).trans hh, r⟩
theorem own_set_ne {w : World} {B : Nat} {e : TypeId} {sz : Nat} {v : Value} {n : Nat} {xs : List Value} {p : Addr} {u : Value} (hk : ∀ k, v.ownBlock = some k → k ≠ p.block) (h : w.ownsRow B e sz v n xs) : (w.setCell p u).ownsRow B e sz v n xs := by
  refine ⟨h.1, ?_⟩
  rcases h.2 with hn | ⟨g, cap, cur, hv, hg, hh, r⟩
  · exact .inl hn
  · refine .inr ⟨g, cap, cur, hv, hg, ?_, r⟩
    rw [Below.heap_setCell _ _ _ _ (hk g (by rw [hv]; rfl))]
    exact hh
theorem rowIs_own {w : World} {b B n : Nat} {t : TypeId} {f : Nat → Value} {xs : List Value} (h : w.rowIs b t n f) (hl : xs.length = n) (hx : ∀ i, i < n → xs[i]? = some (f i)) (hB : B ≤ b) (hm : n ≤ maxLen) :
    w.ownsRow B t 1 (.slice (some ⟨b, 0, none⟩) n n) n xs := by
  obtain ⟨c, hb, hc, hv⟩ := h
  refine ⟨by omega, .inr ⟨b, n, c, rfl, hB, hb, Nat.le_refl _, hm, by omega, ?_⟩⟩
  rw [Nat.mul_one]
  refine List.ext_getElem? fun i => ?_
  by_cases hi : i < n
  · rw [List.getElem?_take, if_pos hi, hx i hi]
    have := hv i hi
    rw [← Array.getElem?_toList] at this
    exact this
  · rw [List.getElem?_take, if_neg hi, List.getElem?_eq_none (by omega)]

/-- The table of the class group: rows of indices, each in a block of its own. -/
def Tab (d : Int) (L : List Fm) (B : Nat) (v : Value) (w : World) : Prop :=
  ∃ vs : List Value, w.ownsRow B 30 1 v L.length vs ∧ ∀ i (h : i < L.length), ∃ u, vs[i]? = some u ∧ w.ownsRow B 3 1 u L.length (cellsI (rowT d L L[i]))
theorem Tab.call {d : Int} {L : List Fm} {B : Nat} {v : Value} {w w' : World} (h : Tab d L B v w) (hb : Below w.heap.size w w') : Tab d L B v w' := by
  obtain ⟨vs, h1, h2⟩ := h
  refine ⟨vs, own_call hb h1, fun i hi => ?_⟩
  obtain ⟨u, h3, h4⟩ := h2 i hi
  exact ⟨u, h3, own_call hb h4⟩
theorem Tab.base {d : Int} {L : List Fm} {B B' : Nat} {v : Value} {w : World} (hB : B' ≤ B) (h : Tab d L B v w) : Tab d L B' v w := by
  obtain ⟨vs, h1, h2⟩ := h
  refine ⟨vs, own_base hB h1, fun i hi => ?_⟩
  obtain ⟨u, h3, h4⟩ := h2 i hi
  exact ⟨u, h3, own_base hB h4⟩
theorem Tab.elem {d : Int} {L : List Fm} {B : Nat} {base : Option Addr} {cap : Nat} {w : World} (h : Tab d L B (.slice base L.length cap) w) {i j : Nat} (hi : i < L.length) (hj : j < L.length) :
    ∃ G g c, base = some ⟨G, 0, none⟩ ∧ G < w.heap.size ∧ w.cell? ⟨G, i, none⟩ = some (.slice (some ⟨g, 0, none⟩) L.length c) ∧ g < w.heap.size ∧ w.cell? ⟨g, j, none⟩ = some (.int .i64 (gix L (cmp d L[i] L[j]))) := by
  obtain ⟨vs, h1, h2⟩ := h
  obtain ⟨u, h3, h4⟩ := h2 i hi
  rcases own_form h1 with ⟨hv, h0⟩ | ⟨G, c0, hv, _, hG2, hG3⟩
  · omega
  · injection hv with e1 e2 e3
    rcases own_form h4 with ⟨hu, h0⟩ | ⟨g, c, hu, _, hg2, hg3⟩
    · omega
    · refine ⟨G, g, c, e1, hG2, ?_, hg2, hg3 j _ (rowT_get hj)⟩
      rw [← hu]
      exact hG3 i u h3

/-- The row while it is filled. -/
noncomputable def rowQ (d : Int) (L : List Fm) (f : Fm) (q : Nat) (j : Nat) : Value := if j < q then .int .i64 (gix L (cmp d f (L.getD j ⟨0, 0, 0⟩))) else .int .i64 0
theorem rowQ_next {d : Int} {L : List Fm} {f : Fm} {q : Nat} (h : q < L.length) : ∀ j, (if j = q then Value.int .i64 (gix L (cmp d f L[q])) else rowQ d L f q j) = rowQ d L f (q + 1) j := by
  intro j
  unfold rowQ
  by_cases e : j = q
  · subst e
    rw [if_pos rfl, if_pos (by omega)]
    simp [List.getD_eq_getElem?_getD, h]
  · rw [if_neg e]
    by_cases h1 : j < q
    · rw [if_pos h1, if_pos (by omega)]
    · rw [if_neg h1, if_neg (by omega)]
theorem rowQ_full {d : Int} {L : List Fm} {f : Fm} : ∀ i, i < L.length → (cellsI (rowT d L f))[i]? = some (rowQ d L f L.length i) := by
  intro i hi
  rw [rowT_get hi]
  unfold rowQ
  rw [if_pos hi]
  simp [List.getD_eq_getElem?_getD, hi]
/-- The outer loop: the rows of the first k classes are done. -/
def TabSt (d : Int) (L : List Fm) (O : Nat) (w1 : World) (vi : Value) (wr : World) : Prop :=
  ∃ (k : Nat) (F : Nat → Value), vi = .int .i64 k ∧ k ≤ L.length ∧ Hid (wr.rowIs O 30 L.length F) ∧ Hid (∀ j (h : j < L.length), j < k → wr.ownsRow (O + 1) 3 1 (F j) L.length (cellsI (rowT d L L[j]))) ∧ O < wr.heap.size ∧ Below O w1 wr
/-- The inner loop: the first q entries of the row are done. -/
def TabIn (d : Int) (L : List Fm) (f : Fm) (R : Nat) (wi : World) (vj : Value) (wr : World) : Prop :=
  ∃ q : Nat, vj = .int .i64 q ∧ q ≤ L.length ∧ Hid (wr.rowIs R 3 L.length (rowQ d L f q)) ∧ R < wr.heap.size ∧ Below R wi wr
end

section
open Go.RowKit

/-- What grTable gives. -/
def RetT (d : Int) (L : List Fm) (w : World) (e : Ending) (w' : World) : Prop := ∃ base cap, e = .returned (.slice base L.length cap) ∧ Tab d L w.heap.size (.slice base L.length cap) w' ∧ Below w.heap.size w w'

set_option maxRecDepth 100000 in
set_option maxHeartbeats 6400000 in
theorem grTable_any (d : Int) (w : World) (hD : Dsc d) :
    Calls Try.prog 139 #[.int .i64 d] w (RetT d (clsL d) w) := by
  have hl : (clsL d).length ≤ 100000 := Nat.le_trans (clsL_len d) (by decide)
  have Hr := Lib.hid (fun w => reList_any d w hD.lo hD.hi)
  have hcm := Lib.hid (fun f (h : f ∈ clsL d) => CF.of_mem hD h)
  have hmm := Lib.hid (fun f (hf : f ∈ clsL d) g (hg : g ∈ clsL d) => hD.cmpm hf hg)
  generalize clsL d = L at *
  have hmk1 := run_make_row' (P := Try.prog) 128 30 (.slice none 0 0) 24 Try.underlying128 infoSl rfl .i64 .i64 L.length (by omega) (by omega)
  have hmk2 := run_make_row' (P := Try.prog) 30 3 (.int .i64 0) 8 Try.underlying30 infoInt rfl .i64 .i64 L.length (by omega) (by omega)
  go_enter Try.func139, Try.ntmps139
  go_wp2_with (go_at_call 75; refine (Hr.out _).mono ?_; rintro e w1 ⟨vl, rfl, howl, hb1⟩; obtain ⟨base, cap, rfl⟩ := own_shape howl)
  have hz1 := hb1.size
  have H1 := Lib.hid howl
  have hlt1 := Lib.hid (own_lt howl)
  clear howl
  go_loopw [16] (fun i wr => TabSt d L w1.heap.size w1 i wr) (fun i _ => L.length - (intOf i).toNat)
  case atStart => exact ⟨0, _, rfl, Nat.zero_le _, Lib.hid (World.rowIs_made w1 _ _ _), Lib.hid (fun j _ h => absurd h (Nat.not_lt_zero _)), by simp, (by repeat (first | with_reducible exact Below.refl _ _ | with_reducible assumption | with_reducible apply Below.drew | with_reducible apply below_drewN | (with_reducible apply below_setp; (first | omega | (simp <;> omega))) | (with_reducible apply below_allocp; (first | omega | (simp <;> omega))) | (with_reducible refine below_viap (by assumption) ?_ ?_; (first | omega | (simp <;> omega)))))⟩
  case round =>
    obtain ⟨k, F, rfl, hk, hrow, hrows, hO, hbel⟩ := hrel
    have hz := hbel.size
    have howl : wr.ownsRow w.heap.size 35 3 (.slice base L.length cap) L.length (cellsF L) := own_bel hbel hlt1.out H1.out
    by_cases hlt : k < L.length
    · obtain ⟨g, rfl, hg2, d1, d2, d3⟩ := own_elem howl hlt
      have hgO : g < w1.heap.size := hlt1.out g rfl
      have hfm := List.getElem_mem hlt
      have hcO := hrow.out.cell hlt
      have hfO := hrow.out.frozen
      have hLk := Lib.hid (fun j (h : j < L.length) (e : j = k) => (show L[j] = L[k] from by subst e; rfl))
      generalize L[k] = f at d1 d2 d3 hfm hLk
      have hgn : ¬ g = w1.heap.size := by omega
      go_wp2
      obtain ⟨WI, hWI⟩ : ∃ WI : World, WI = ((wr.setCell ⟨w1.heap.size, k, none⟩ (.slice (some ⟨wr.heap.size + 1, 0, none⟩) L.length L.length)).alloc (.cells #[.int .i64 f.a, .int .i64 f.b, .int .i64 f.c] 35)).alloc (.cells (madeCells #[.int .i64 0] L.length) 3) := ⟨_, rfl⟩
      rw [← hWI]
      have hsW : WI.heap.size = wr.heap.size + 2 := by rw [hWI]; simp
      have hRW : WI.rowIs (wr.heap.size + 1) 3 L.length (rowQ d L f 0) := by
        have h := World.rowIs_made ((wr.setCell ⟨w1.heap.size, k, none⟩ (.slice (some ⟨wr.heap.size + 1, 0, none⟩) L.length L.length)).alloc (.cells #[.int .i64 f.a, .int .i64 f.b, .int .i64 f.c] 35)) (.int .i64 0) L.length 3
        rw [← hWI] at h
        simp at h
        exact h.congr (fun j _ => by unfold rowQ; simp)
      have hFW : Blk WI wr.heap.size 35 #[.int .i64 f.a, .int .i64 f.b, .int .i64 f.c] := by rw [hWI]; exact Blk.allocp (Blk.new_at (by simp))
      have hOW : WI.rowIs w1.heap.size 30 L.length (fun j => if j = k then .slice (some ⟨wr.heap.size + 1, 0, none⟩) L.length L.length else F j) := by rw [hWI]; exact ((hrow.out.set k _).alloc _).alloc _
      have hrW : ∀ j (h : j < L.length), j < k → WI.ownsRow (w1.heap.size + 1) 3 1 (F j) L.length (cellsI (rowT d L L[j])) ∧ ∀ q, (F j).ownBlock = some q → q < wr.heap.size + 1 := by
        intro j hj hjk
        have h := hrows.out j hj hjk
        refine ⟨?_, fun q hq => by have := own_lt h q hq; omega⟩
        rw [hWI]
        exact own_alloc (own_alloc (own_set_ne (fun q hq => by have := own_ge h q hq; simp; omega) h))
      have hbW : Below w1.heap.size w1 WI := by rw [hWI]; exact ((hbel.setCell (Nat.le_refl _) _).alloc (by simp; omega) _).alloc (by simp; omega) _
      obtain ⟨FB, hFB⟩ : ∃ FB, FB = wr.heap.size := ⟨_, rfl⟩
      rw [← hFB] at hsW hRW hFW hOW hrW ⊢
      have HRW := Lib.hid hRW
      have HOW := Lib.hid hOW
      have HrW := Lib.hid hrW
      have HFW := Lib.hid hFW
      clear hRW hOW hrW hFW hrow hrows howl hcO hfO d1 d2 d3 hWI
      have hO2 : w1.heap.size < FB := by omega
      clear hFB hO hz hbel
      go_loopw [29] (fun j wx => TabIn d L f (FB + 1) WI j wx) (fun j _ => L.length - (intOf j).toNat)
      case atStart => exact ⟨0, rfl, Nat.zero_le _, HRW, by omega, Below.refl _ _⟩
      case round =>
        clear HRW
        obtain ⟨q, rfl, hq, hR, hRl, hbel⟩ := hrel
        have hz := hbel.size
        have hbO : Below w1.heap.size w1 wr := below_via hbW hbel (by omega)
        have howl : wr.ownsRow w.heap.size 35 3 (.slice (some ⟨g, 0, none⟩) L.length cap) L.length (cellsF L) := own_bel hbO hlt1.out H1.out
        have hOr := HOW.out.of_block (hbel.block w1.heap.size (by omega))
        by_cases hlq : q < L.length
        · obtain ⟨g', hgg, hgs, e1, e2, e3⟩ := own_elem howl hlq
          injection hgg with hgg; injection hgg with hgg; subst hgg
          have hpm := List.getElem_mem hlq
          have hqn := rowQ_next (d := d) (f := f) hlq
          generalize L[q] = p at e1 e2 e3 hpm hqn
          have hM := Lib.hid (fun w => coMul_cf d f p f p _ w (hcm.out f hfm) (hcm.out p hpm) rfl)
          have hrm := hmm.out f hfm p hpm
          have hqn' := Lib.hid hqn
          obtain ⟨x0, x1⟩ := gix_bd hrm
          generalize Go.Proofs.Ytkkamlhpappebaa.cmp d f p = r at hM hrm hqn' x0 x1
          have hG := Lib.hid (fun (wx : World) h => grIndex_any (.slice (some ⟨g, 0, none⟩) L.length cap) w.heap.size L r wx hl h)
          generalize gix L r = x at hG hqn' x0 x1
          have cO : wr.cell? ⟨w1.heap.size, k, none⟩ = some (.slice (some ⟨FB + 1, 0, none⟩) L.length L.length) := by have := hOr.cell hlt; simpa using this
          have bF := Blk.below HFW.out hbel (by omega)
          have cF := bF.cell; have fF := bF.frozen
          have cF0 := cF 0; have cF1 := cF 1; have cF2 := cF 2
          simp at cF0 cF1 cF2
          have cR := hR.out.cell hlq
          have fR := hR.out.frozen q
          generalize rowQ d L f q q = y at cR
          have n1 : ¬ w1.heap.size = wr.heap.size := by omega
          have n2 : ¬ FB = wr.heap.size := by omega
          have n3 : ¬ FB + 1 = wr.heap.size := by omega
          have n4 : ¬ g = wr.heap.size := by omega
          have m1 : ¬ FB + 1 = w1.heap.size := by omega
          have m2 : ¬ w1.heap.size = FB + 1 := by omega
          have m3 : ¬ wr.heap.size = FB + 1 := by omega
          have l1 : w1.heap.size < wr.heap.size + 1 := by omega
          have l2 : FB < wr.heap.size + 1 := by omega
          have l3 : FB + 1 < wr.heap.size + 1 := by omega
          have l4 : g < wr.heap.size + 1 := by omega
          clear hqn hrm hpm hOr bF cF fF
          go_wp2
          go_region_held3 (fun w' => w'.cell? ⟨w1.heap.size, k, none⟩ = some (.slice (some ⟨FB + 1, 0, none⟩) L.length L.length) ∧ w'.cell? ⟨FB, 0, none⟩ = some (.int .i64 f.a) ∧ w'.cell? ⟨FB, 1, none⟩ = some (.int .i64 f.b) ∧ w'.cell? ⟨FB, 2, none⟩ = some (.int .i64 f.c) ∧ w'.cell? ⟨wr.heap.size, 0, none⟩ = some (.int .i64 p.a) ∧ w'.cell? ⟨wr.heap.size, 1, none⟩ = some (.int .i64 p.b) ∧ w'.cell? ⟨wr.heap.size, 2, none⟩ = some (.int .i64 p.c)) (first | (go_keep; done) | (go_simp; done)) ((first
            | (go_at_call 195; (with_reducible refine (hM.out _).mono ?_); rintro e h1 ⟨rfl, hbA⟩; have hcc := (calm_cells hbA).1; have hff := (calm_cells hbA).2; have hszA := hbA.size; (try simp at hszA); have gA1 := fun o => hcc w1.heap.size o (by first | omega | (simp <;> omega)); have gA2 := fun o => hcc FB o (by first | omega | (simp <;> omega)); have gA3 := fun o => hcc (FB + 1) o (by first | omega | (simp <;> omega)); have gA4 := fun o => hff (FB + 1) o (by first | omega | (simp <;> omega)); have gA5 := fun o => hcc wr.heap.size o (by first | omega | (simp <;> omega)); have howA := own_call hbA (own_drew (own_alloc howl)); clear hcc hff)
            | (go_at_call 150; (with_reducible refine (hG.out _ howA).mono ?_); rintro e h2 ⟨rfl, hbB⟩; have hcc := (calm_cells hbB).1; have hff := (calm_cells hbB).2; have hszB := hbB.size; (try simp at hszB); have gB1 := fun o => hcc w1.heap.size o (by first | omega | (simp <;> omega)); have gB2 := fun o => hcc FB o (by first | omega | (simp <;> omega)); have gB3 := fun o => hcc (FB + 1) o (by first | omega | (simp <;> omega)); have gB4 := fun o => hff (FB + 1) o (by first | omega | (simp <;> omega)); have gB5 := fun o => hcc wr.heap.size o (by first | omega | (simp <;> omega)); clear hcc hff)))
          have hR1 := ((hR.out.alloc (.cells #[.int .i64 p.a, .int .i64 p.b, .int .i64 p.c] 35)).drew).of_block (hbA.block (FB + 1) (by simp; omega))
          have hR2 := hR1.of_block (hbB.block (FB + 1) (by omega))
          have hR3 := (hR2.set q (.int .i64 x)).congr (fun j _ => hqn'.out j)
          have hbN : Below (FB + 1) WI (h2.setCell ⟨FB + 1, q, none⟩ (.int .i64 x)) := (by repeat (first | with_reducible exact Below.refl _ _ | with_reducible assumption | with_reducible apply Below.drew | with_reducible apply below_drewN | (with_reducible apply below_setp; (first | omega | (simp <;> omega))) | (with_reducible apply below_allocp; (first | omega | (simp <;> omega))) | (with_reducible refine below_viap (by assumption) ?_ ?_; (first | omega | (simp <;> omega)))))
          have HR3 := Lib.hid hR3
          clear hR1 hR2 hR3
          go_wp2
          exact ⟨⟨q + 1, rfl, hlq, HR3, by simp; omega, hbN⟩, by simp [intOf]; omega⟩
        · have e : q = L.length := by omega
          subst e
          have hown := rowIs_own (xs := cellsI (rowT d L f)) (B := w1.heap.size + 1) hR.out (by rw [cellsI_len, rowT_len]) rowQ_full (by omega) (by unfold maxLen; omega)
          have HOr := Lib.hid hOr
          have Hrows : Hid (∀ j (h : j < L.length), j < k + 1 → wr.ownsRow (w1.heap.size + 1) 3 1 ((fun j => if j = k then .slice (some ⟨FB + 1, 0, none⟩) L.length L.length else F j) j) L.length (cellsI (rowT d L L[j]))) := Lib.hid (by
            intro j hj hjk
            by_cases e : j = k
            · simp only [e, if_true]
              have := hLk.out j hj e
              subst e
              rw [this]; exact hown
            · simp only [if_neg e]
              obtain ⟨a, b⟩ := HrW.out j hj (by omega)
              exact own_bel hbel b a)
          clear hown hOr hR HrW HOW
          go_wp2
          exact ⟨⟨k + 1, _, rfl, hlt, HOr, Hrows, by omega, hbO⟩, by simp [intOf]; omega⟩
    · have e : k = L.length := by omega
      have hown := rowIs_own (xs := (List.range L.length).map F) (B := w.heap.size) hrow.out (by simp) (fun i hi => by simp [hi]) (by omega) (by unfold maxLen; omega)
      have hT : Tab d L w.heap.size (.slice (some ⟨w1.heap.size, 0, none⟩) L.length L.length) wr := ⟨_, hown, fun i hi => ⟨F i, by simp [hi], own_base (B := w1.heap.size + 1) (by omega) (hrows.out i hi (by omega))⟩⟩
      have HT := Lib.hid hT
      clear hown hT hrow hrows howl
      subst e
      go_wp2
      go_ret
      exact ⟨_, _, rfl, HT.out, below_via hb1 hbel hz1⟩
end

section
open Go.RowKit

theorem own_elem2 {w : World} {B : Nat} {e : TypeId} {vl : Value} {L : List Fm} (h : w.ownsRow B e 3 vl L.length (cellsF L)) {k : Nat} (hk : k < L.length) :
    ∃ g cl, vl = .slice (some ⟨g, 0, none⟩) L.length cl ∧ g < w.heap.size ∧ w.cell? ⟨g, k * 3, none⟩ = some (.int .i64 L[k].a) ∧ w.cell? ⟨g, k * 3 + 1, none⟩ = some (.int .i64 L[k].b) ∧ w.cell? ⟨g, k * 3 + 2, none⟩ = some (.int .i64 L[k].c) := by
  obtain ⟨base, cap, rfl⟩ := own_shape h
  obtain ⟨g, rfl, h2, h3⟩ := own_elem h hk
  exact ⟨g, cap, rfl, h2, h3⟩
def GroSt (d : Int) (L : List Fm) (f : Fm) (N : Nat) (w : World) (vk vj : Value) (wr : World) : Prop :=
  ∃ n : Nat, 1 ≤ n ∧ n ≤ N ∧ vk = .int .i64 n ∧ vj = .int .i64 (gix L (pw d f n)) ∧ w = wr

set_option maxRecDepth 100000 in
set_option maxHeartbeats 1600000 in
theorem grOrder_any (d : Int) (i N : Nat) (L : List Fm) (B : Nat) (base : Option Addr) (cap : Nat) (w : World) (hD : Dsc d) (hL : clsL d = L) (hi : i < L.length) (hN : IsOrd d L[i] N) (hN2 : N ≤ 1640) (ht : Tab d L B (.slice base L.length cap) w) :
    Calls Try.prog 198 #[.slice base L.length cap, .int .i64 i] w fun e w' => e = .returned (.int .i64 N) ∧ w = w' := by
  have hl : L.length ≤ 100000 := by rw [← hL]; exact Nat.le_trans (clsL_len d) (by decide)
  have hmi : L[i] ∈ clsL d := by rw [hL]; exact List.getElem_mem hi
  have hE := Lib.hid (fun (m : Nat) (hm : m < L.length) => ht.elem hm hi)
  have hgi : gix L (pw d L[i] 1) = i := by
    rw [hD.pw_one hmi]
    exact gix_get (hL ▸ clsL_nodup d) hi
  generalize L[i] = f at *
  have hst := Lib.hid (fun n (h1 : 1 ≤ n) (h2 : n ≤ N) => (show (gix L (pw d f n) = 0 ↔ n = N) from by
    have := gix_zero hD (hD.pwm hmi n)
    rw [hL] at this
    exact this.trans (ord_ne hN h1 h2)))
  have hel := Lib.hid (fun n => (show ∃ m : Nat, ∃ h : m < L.length, gix L (pw d f n) = m ∧ L[m] = pw d f n from by
    obtain ⟨m, a, b, c⟩ := gix_mem (L := L) (f := pw d f n) (by rw [← hL]; exact hD.pwm hmi n)
    exact ⟨m, a, c, b⟩))
  have Hn1 := hN.1
  clear hN hD hmi ht hL
  go_enter Try.func198, Try.ntmps198
  go_wp2
  go_loopw [5, 6] (fun vk vj wr => GroSt d L f N w vk vj wr) (fun vk _ _ => N - (intOf vk).toNat)
  case atStart => exact ⟨1, Nat.le_refl _, Hn1, rfl, by rw [hgi], rfl⟩
  case round =>
    clear hgi
    obtain ⟨n, n1, n2, rfl, rfl, rfl⟩ := hrel
    obtain ⟨m, hm, hgm, hLm⟩ := hel.out n
    have hz0' := hst.out n n1 n2
    rw [hgm] at hz0' ⊢
    by_cases he : n = N
    · have h0 : m = 0 := by have := hz0'.2 he; omega
      subst h0
      subst he
      clear hz0'
      go_wp2
      go_ret
      exact ⟨rfl, rfl⟩
    · have h00 : ¬ m = 0 := by intro h; exact he (hz0'.1 (by omega))
      have hnN : n < N := by omega
      obtain ⟨G, g, c, rfl, hG, cG, hg, cg⟩ := hE.out m hm
      rw [hLm] at cg
      clear hz0' he
      go_wp2
      go_roundw
      case rel => exact ⟨n + 1, by omega, hnN, by simp, rfl, rfl⟩
      case measure => simp [intOf]; omega

noncomputable def ordQ (d : Int) (L : List Fm) (q : Nat) (j : Nat) : Value := if j < q then .int .i64 (ordF d (L.getD j ⟨0, 0, 0⟩) : Int) else .int .i64 0
theorem ordQ_next {d : Int} {L : List Fm} {q : Nat} (h : q < L.length) : ∀ j, (if j = q then Value.int .i64 (ordF d L[q] : Int) else ordQ d L q j) = ordQ d L (q + 1) j := by
  intro j
  unfold ordQ
  by_cases e : j = q
  · subst e
    rw [if_pos rfl, if_pos (by omega)]
    simp [List.getD_eq_getElem?_getD, h]
  · rw [if_neg e]
    by_cases h1 : j < q
    · rw [if_pos h1, if_pos (by omega)]
    · rw [if_neg h1, if_neg (by omega)]
theorem ordQ_full {d : Int} {L : List Fm} : ∀ i, i < L.length → (cellsI (ordsL d L))[i]? = some (ordQ d L L.length i) := by
  intro i hi
  unfold ordQ ordsL cellsI
  rw [if_pos hi]
  simp [List.getD_eq_getElem?_getD, hi]
def GrsSt (d : Int) (L : List Fm) (w : World) (vi : Value) (wr : World) : Prop :=
  ∃ q : Nat, vi = .int .i64 q ∧ q ≤ L.length ∧ Hid (wr.rowIs w.heap.size 3 L.length (ordQ d L q)) ∧ w.heap.size < wr.heap.size ∧ Below w.heap.size w wr

set_option maxRecDepth 100000 in
set_option maxHeartbeats 1600000 in
theorem grOrders_any (d : Int) (L : List Fm) (B : Nat) (base : Option Addr) (cap : Nat) (w : World) (hD : Dsc d) (hL : clsL d = L) (ht : Tab d L B (.slice base L.length cap) w) :
    Calls Try.prog 144 #[.slice base L.length cap] w (RetI (ordsL d L) w) := by
  have hl : L.length ≤ 100000 := by rw [← hL]; exact Nat.le_trans (clsL_len d) (by decide)
  have hO := Lib.hid (fun (i : Nat) (hi : i < L.length) (w : World) (ht : Tab d L B (.slice base L.length cap) w) =>
    (show Calls Try.prog 198 #[.slice base L.length cap, .int .i64 i] w (fun e w' => e = .returned (.int .i64 (ordF d L[i] : Nat)) ∧ w = w') from by
      obtain ⟨a, b⟩ := hD.ordm (f := L[i]) (by rw [hL]; exact List.getElem_mem hi)
      exact grOrder_any d i _ L B base cap w hD hL hi a b ht))
  have HT := Lib.hid ht
  have hmk2 := run_make_row' (P := Try.prog) 30 3 (.int .i64 0) 8 Try.underlying30 infoInt rfl .i64 .i64 L.length (by omega) (by omega)
  clear hD hL ht
  go_enter Try.func144, Try.ntmps144
  go_wp2
  go_loopw [10] (fun i wr => GrsSt d L w i wr) (fun i _ => L.length - (intOf i).toNat)
  case atStart => exact ⟨0, rfl, Nat.zero_le _, Lib.hid ((World.rowIs_made w _ _ _).congr (fun j _ => by unfold ordQ; simp)), by simp, (by repeat (first | with_reducible exact Below.refl _ _ | with_reducible assumption | with_reducible apply Below.drew | with_reducible apply below_drewN | (with_reducible apply below_setp; (first | omega | (simp <;> omega))) | (with_reducible apply below_allocp; (first | omega | (simp <;> omega))) | (with_reducible refine below_viap (by assumption) ?_ ?_; (first | omega | (simp <;> omega)))))⟩
  case round =>
    obtain ⟨q, rfl, hq, hR, hlt0, hbel⟩ := hrel
    have hz := hbel.size
    by_cases hlt : q < L.length
    · have hO2 := Lib.hid (hO.out q hlt wr (HT.out.call hbel))
      have cR := hR.out.cell hlt
      have fR := hR.out.frozen q
      have hqn := Lib.hid (ordQ_next (d := d) hlt)
      generalize ordQ d L q q = y at cR
      generalize ordF d L[q] = N at hO2 hqn
      go_wp2_with (go_at_call 198; (with_reducible refine (hO2.out).mono ?_); rintro e v ⟨rfl, rfl⟩)
      go_roundw
      case rel => exact ⟨q + 1, rfl, hlt, Lib.hid ((hR.out.set q _).congr (fun j _ => hqn.out j)), by simp; omega, (by repeat (first | with_reducible exact Below.refl _ _ | with_reducible assumption | with_reducible apply Below.drew | with_reducible apply below_drewN | (with_reducible apply below_setp; (first | omega | (simp <;> omega))) | (with_reducible apply below_allocp; (first | omega | (simp <;> omega))) | (with_reducible refine below_viap (by assumption) ?_ ?_; (first | omega | (simp <;> omega)))))⟩
      case measure => simp [intOf]; omega
    · have e : q = L.length := by omega
      subst e
      have hown := rowIs_own (xs := cellsI (ordsL d L)) (B := w.heap.size) hR.out (by rw [cellsI_len, ordsL_len]) ordQ_full (by omega) (by unfold maxLen; omega)
      have Hown := Lib.hid hown
      clear hown hR
      go_wp2
      go_ret
      exact ⟨_, rfl, by rw [ordsL_len]; exact Hown.out, hbel⟩

def CosSt (p : Fm → Bool) (L : List Fm) (w3 : World) (v vi : Value) (wr : World) : Prop :=
  ∃ k : Nat, vi = .int .i64 k ∧ k ≤ L.length ∧ wr.ownsRow w3.heap.size 35 3 v ((L.take k).filter p).length (cellsF ((L.take k).filter p)) ∧ Below w3.heap.size w3 wr

end
end Go.Proofs.Ytkkamlhpappebaa
