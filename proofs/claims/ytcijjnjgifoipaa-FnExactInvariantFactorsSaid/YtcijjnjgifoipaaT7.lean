/- Contracts of the reference: the table of a class group: the walk. -/
import Derived.Test.YtcijjnjgifoipaaT6
import Derived.Deep.RegionHeld3
namespace Go.Proofs.Ytcijjnjgifoipaa
open Go.RowKit

/-- What grTable gives. -/
def RetT (d : Int) (L : List Fm) (w : World) (e : Ending) (w' : World) : Prop := ∃ base cap, e = .returned (.slice base L.length cap) ∧ Tab d L w.heap.size (.slice base L.length cap) w' ∧ Below w.heap.size w w'

set_option maxRecDepth 100000 in
set_option maxHeartbeats 6400000 in
theorem grTable_any (d : Int) (w : World) (hD : Dsc d) :
    Calls Try.prog 32 #[.int .i64 d] w (RetT d (clsL d) w) := by
  have hl : (clsL d).length ≤ 100000 := Nat.le_trans (clsL_len d) (by decide)
  have Hr := Lib.hid (fun w => reList_any d w hD.lo hD.hi)
  have hcm := Lib.hid (fun f (h : f ∈ clsL d) => CF.of_mem hD h)
  have hmm := Lib.hid (fun f (hf : f ∈ clsL d) g (hg : g ∈ clsL d) => hD.cmpm hf hg)
  generalize clsL d = L at *
  have hmk1 := run_make_row' (P := Try.prog) 47 25 (.slice none 0 0) 24 Try.underlying47 infoSl rfl .i64 .i64 L.length (by omega) (by omega)
  have hmk2 := run_make_row' (P := Try.prog) 25 3 (.int .i64 0) 8 Try.underlying25 infoInt rfl .i64 .i64 L.length (by omega) (by omega)
  go_enter Try.func32, Try.ntmps32
  go_wp2_with (go_at_call 52; refine (Hr.out _).mono ?_; rintro e w1 ⟨vl, rfl, howl, hb1⟩; obtain ⟨base, cap, rfl⟩ := own_shape howl)
  have hz1 := hb1.size
  have H1 := Lib.hid howl
  have hlt1 := Lib.hid (own_lt howl)
  clear howl
  go_loopw [16] (fun i wr => TabSt d L w1.heap.size w1 i wr) (fun i _ => L.length - (intOf i).toNat)
  case atStart => exact ⟨0, _, rfl, Nat.zero_le _, Lib.hid (World.rowIs_made w1 _ _ _), Lib.hid (fun j _ h => absurd h (Nat.not_lt_zero _)), by simp, (by repeat (first | with_reducible exact Below.refl _ _ | with_reducible assumption | with_reducible apply Below.drew | with_reducible apply below_drewN | (with_reducible apply below_setp; (first | omega | (simp <;> omega))) | (with_reducible apply below_allocp; (first | omega | (simp <;> omega))) | (with_reducible refine below_viap (by assumption) ?_ ?_; (first | omega | (simp <;> omega)))))⟩
  case round =>
    obtain ⟨k, F, rfl, hk, hrow, hrows, hO, hbel⟩ := hrel
    have hz := hbel.size
    have howl : wr.ownsRow w.heap.size 32 3 (.slice base L.length cap) L.length (cellsF L) := own_bel hbel hlt1.out H1.out
    by_cases hlt : k < L.length
    · obtain ⟨g, rfl, hg2, d1, d2, d3⟩ := own_elem howl hlt
      have hgO : g < w1.heap.size := hlt1.out g rfl
      have hfm := List.getElem_mem hlt
      have hcO := hrow.out.cell hlt
      have hfO := hrow.out.frozen
      have hLk := Lib.hid (fun j (h : j < L.length) (e : j = k) => (show L[j] = L[k] from by subst e; rfl))
      generalize L[k] = f at d1 d2 d3 hfm hLk
      have hgn : ¬ g = w1.heap.size := by omega
      go_wp2
      obtain ⟨WI, hWI⟩ : ∃ WI : World, WI = ((wr.setCell ⟨w1.heap.size, k, none⟩ (.slice (some ⟨wr.heap.size + 1, 0, none⟩) L.length L.length)).alloc (.cells #[.int .i64 f.a, .int .i64 f.b, .int .i64 f.c] 32)).alloc (.cells (madeCells #[.int .i64 0] L.length) 3) := ⟨_, rfl⟩
      rw [← hWI]
      have hsW : WI.heap.size = wr.heap.size + 2 := by rw [hWI]; simp
      have hRW : WI.rowIs (wr.heap.size + 1) 3 L.length (rowQ d L f 0) := by
        have h := World.rowIs_made ((wr.setCell ⟨w1.heap.size, k, none⟩ (.slice (some ⟨wr.heap.size + 1, 0, none⟩) L.length L.length)).alloc (.cells #[.int .i64 f.a, .int .i64 f.b, .int .i64 f.c] 32)) (.int .i64 0) L.length 3
        rw [← hWI] at h
        simp at h
        exact h.congr (fun j _ => by unfold rowQ; simp)
      have hFW : Blk WI wr.heap.size 32 #[.int .i64 f.a, .int .i64 f.b, .int .i64 f.c] := by rw [hWI]; exact Blk.allocp (Blk.new_at (by simp))
      have hOW : WI.rowIs w1.heap.size 25 L.length (fun j => if j = k then .slice (some ⟨wr.heap.size + 1, 0, none⟩) L.length L.length else F j) := by rw [hWI]; exact ((hrow.out.set k _).alloc _).alloc _
      have hrW : ∀ j (h : j < L.length), j < k → WI.ownsRow (w1.heap.size + 1) 3 1 (F j) L.length (cellsI (rowT d L L[j])) ∧ ∀ q, (F j).ownBlock = some q → q < wr.heap.size + 1 := by
        intro j hj hjk
        have h := hrows.out j hj hjk
        refine ⟨?_, fun q hq => by have := own_lt h q hq; omega⟩
        rw [hWI]
        exact own_alloc (own_alloc (own_set_ne (fun q hq => by have := own_ge h q hq; simp; omega) h))
      have hbW : Below w1.heap.size w1 WI := by rw [hWI]; exact ((hbel.setCell (Nat.le_refl _) _).alloc (by simp; omega) _).alloc (by simp; omega) _
      obtain ⟨FB, hFB⟩ : ∃ FB, FB = wr.heap.size := ⟨_, rfl⟩
      rw [← hFB] at hsW hRW hFW hOW hrW ⊢
      have HRW := Lib.hid hRW
      have HOW := Lib.hid hOW
      have HrW := Lib.hid hrW
      have HFW := Lib.hid hFW
      clear hRW hOW hrW hFW hrow hrows howl hcO hfO d1 d2 d3 hWI
      have hO2 : w1.heap.size < FB := by omega
      clear hFB hO hz hbel
      go_loopw [29] (fun j wx => TabIn d L f (FB + 1) WI j wx) (fun j _ => L.length - (intOf j).toNat)
      case atStart => exact ⟨0, rfl, Nat.zero_le _, HRW, by omega, Below.refl _ _⟩
      case round =>
        clear HRW
        obtain ⟨q, rfl, hq, hR, hRl, hbel⟩ := hrel
        have hz := hbel.size
        have hbO : Below w1.heap.size w1 wr := below_via hbW hbel (by omega)
        have howl : wr.ownsRow w.heap.size 32 3 (.slice (some ⟨g, 0, none⟩) L.length cap) L.length (cellsF L) := own_bel hbO hlt1.out H1.out
        have hOr := HOW.out.of_block (hbel.block w1.heap.size (by omega))
        by_cases hlq : q < L.length
        · obtain ⟨g', hgg, hgs, e1, e2, e3⟩ := own_elem howl hlq
          injection hgg with hgg; injection hgg with hgg; subst hgg
          have hpm := List.getElem_mem hlq
          have hqn := rowQ_next (d := d) (f := f) hlq
          generalize L[q] = p at e1 e2 e3 hpm hqn
          have hM := Lib.hid (fun w => coMul_cf d f p f p _ w (hcm.out f hfm) (hcm.out p hpm) rfl)
          have hrm := hmm.out f hfm p hpm
          have hqn' := Lib.hid hqn
          obtain ⟨x0, x1⟩ := gix_bd hrm
          generalize Go.Proofs.Ytcijjnjgifoipaa.cmp d f p = r at hM hrm hqn' x0 x1
          have hG := Lib.hid (fun (wx : World) h => grIndex_any (.slice (some ⟨g, 0, none⟩) L.length cap) w.heap.size L r wx hl h)
          generalize gix L r = x at hG hqn' x0 x1
          have cO : wr.cell? ⟨w1.heap.size, k, none⟩ = some (.slice (some ⟨FB + 1, 0, none⟩) L.length L.length) := by have := hOr.cell hlt; simpa using this
          have bF := Blk.below HFW.out hbel (by omega)
          have cF := bF.cell; have fF := bF.frozen
          have cF0 := cF 0; have cF1 := cF 1; have cF2 := cF 2
          simp at cF0 cF1 cF2
          have cR := hR.out.cell hlq
          have fR := hR.out.frozen q
          generalize rowQ d L f q q = y at cR
          have n1 : ¬ w1.heap.size = wr.heap.size := by omega
          have n2 : ¬ FB = wr.heap.size := by omega
          have n3 : ¬ FB + 1 = wr.heap.size := by omega
          have n4 : ¬ g = wr.heap.size := by omega
          have m1 : ¬ FB + 1 = w1.heap.size := by omega
          have m2 : ¬ w1.heap.size = FB + 1 := by omega
          have m3 : ¬ wr.heap.size = FB + 1 := by omega
          have l1 : w1.heap.size < wr.heap.size + 1 := by omega
          have l2 : FB < wr.heap.size + 1 := by omega
          have l3 : FB + 1 < wr.heap.size + 1 := by omega
          have l4 : g < wr.heap.size + 1 := by omega
          clear hqn hrm hpm hOr bF cF fF
          go_wp2
          go_region_held3 (fun w' => w'.cell? ⟨w1.heap.size, k, none⟩ = some (.slice (some ⟨FB + 1, 0, none⟩) L.length L.length) ∧ w'.cell? ⟨FB, 0, none⟩ = some (.int .i64 f.a) ∧ w'.cell? ⟨FB, 1, none⟩ = some (.int .i64 f.b) ∧ w'.cell? ⟨FB, 2, none⟩ = some (.int .i64 f.c) ∧ w'.cell? ⟨wr.heap.size, 0, none⟩ = some (.int .i64 p.a) ∧ w'.cell? ⟨wr.heap.size, 1, none⟩ = some (.int .i64 p.b) ∧ w'.cell? ⟨wr.heap.size, 2, none⟩ = some (.int .i64 p.c)) (first | (go_keep; done) | (go_simp; done)) ((first
            | (go_at_call 39; (with_reducible refine (hM.out _).mono ?_); rintro e h1 ⟨rfl, hbA⟩; have hcc := (calm_cells hbA).1; have hff := (calm_cells hbA).2; have hszA := hbA.size; (try simp at hszA); have gA1 := fun o => hcc w1.heap.size o (by first | omega | (simp <;> omega)); have gA2 := fun o => hcc FB o (by first | omega | (simp <;> omega)); have gA3 := fun o => hcc (FB + 1) o (by first | omega | (simp <;> omega)); have gA4 := fun o => hff (FB + 1) o (by first | omega | (simp <;> omega)); have gA5 := fun o => hcc wr.heap.size o (by first | omega | (simp <;> omega)); have howA := own_call hbA (own_drew (own_alloc howl)); clear hcc hff)
            | (go_at_call 67; (with_reducible refine (hG.out _ howA).mono ?_); rintro e h2 ⟨rfl, hbB⟩; have hcc := (calm_cells hbB).1; have hff := (calm_cells hbB).2; have hszB := hbB.size; (try simp at hszB); have gB1 := fun o => hcc w1.heap.size o (by first | omega | (simp <;> omega)); have gB2 := fun o => hcc FB o (by first | omega | (simp <;> omega)); have gB3 := fun o => hcc (FB + 1) o (by first | omega | (simp <;> omega)); have gB4 := fun o => hff (FB + 1) o (by first | omega | (simp <;> omega)); have gB5 := fun o => hcc wr.heap.size o (by first | omega | (simp <;> omega)); clear hcc hff)))
          have hR1 := ((hR.out.alloc (.cells #[.int .i64 p.a, .int .i64 p.b, .int .i64 p.c] 32)).drew).of_block (hbA.block (FB + 1) (by simp; omega))
          have hR2 := hR1.of_block (hbB.block (FB + 1) (by omega))
          have hR3 := (hR2.set q (.int .i64 x)).congr (fun j _ => hqn'.out j)
          have hbN : Below (FB + 1) WI (h2.setCell ⟨FB + 1, q, none⟩ (.int .i64 x)) := (by repeat (first | with_reducible exact Below.refl _ _ | with_reducible assumption | with_reducible apply Below.drew | with_reducible apply below_drewN | (with_reducible apply below_setp; (first | omega | (simp <;> omega))) | (with_reducible apply below_allocp; (first | omega | (simp <;> omega))) | (with_reducible refine below_viap (by assumption) ?_ ?_; (first | omega | (simp <;> omega)))))
          have HR3 := Lib.hid hR3
          clear hR1 hR2 hR3
          go_wp2
          exact ⟨⟨q + 1, rfl, hlq, HR3, by simp; omega, hbN⟩, by simp [intOf]; omega⟩
        · have e : q = L.length := by omega
          subst e
          have hown := rowIs_own (xs := cellsI (rowT d L f)) (B := w1.heap.size + 1) hR.out (by rw [cellsI_len, rowT_len]) rowQ_full (by omega) (by unfold maxLen; omega)
          have HOr := Lib.hid hOr
          have Hrows : Hid (∀ j (h : j < L.length), j < k + 1 → wr.ownsRow (w1.heap.size + 1) 3 1 ((fun j => if j = k then .slice (some ⟨FB + 1, 0, none⟩) L.length L.length else F j) j) L.length (cellsI (rowT d L L[j]))) := Lib.hid (by
            intro j hj hjk
            by_cases e : j = k
            · simp only [e, if_true]
              have := hLk.out j hj e
              subst e
              rw [this]; exact hown
            · simp only [if_neg e]
              obtain ⟨a, b⟩ := HrW.out j hj (by omega)
              exact own_bel hbel b a)
          clear hown hOr hR HrW HOW
          go_wp2
          exact ⟨⟨k + 1, _, rfl, hlt, HOr, Hrows, by omega, hbO⟩, by simp [intOf]; omega⟩
    · have e : k = L.length := by omega
      have hown := rowIs_own (xs := (List.range L.length).map F) (B := w.heap.size) hrow.out (by simp) (fun i hi => by simp [hi]) (by omega) (by unfold maxLen; omega)
      have hT : Tab d L w.heap.size (.slice (some ⟨w1.heap.size, 0, none⟩) L.length L.length) wr := ⟨_, hown, fun i hi => ⟨F i, by simp [hi], own_base (B := w1.heap.size + 1) (by omega) (hrows.out i hi (by omega))⟩⟩
      have HT := Lib.hid hT
      clear hown hT hrow hrows howl
      subst e
      go_wp2
      go_ret
      exact ⟨_, _, rfl, HT.out, below_via hb1 hbel hz1⟩
end Go.Proofs.Ytcijjnjgifoipaa
