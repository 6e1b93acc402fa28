/- Contracts: the matrix of neighbours, by the program. -/
import Derived.Test.YtcijjnjgifoipaaHD
import Derived.Test.YtcijjnjgifoipaaHN
import Derived.Test.YtcijjnjgifoipaaK7
namespace Go.Proofs.Ytcijjnjgifoipaa
open Go.RowKit Go.Maps

theorem NestI.emptyq2 {w : World} {B g : Nat} (hg : g = w.heap.size) (hB : B ≤ w.heap.size) : NestI B [] (.slice (some ⟨g, 0, none⟩) 0 0) (w.alloc (.cells #[] 25)) := by
  subst hg; exact NestI.empty hB
theorem oneSl2 (x : Value) (h : x.oneCell' = true := by rfl) : ∀ u ∈ ([x] : List Value), u.oneCell' = true := by
  intro u hu; simp at hu; subst hu; exact h
/-- How many of the first q forms have the index k. -/
def ctN (L N : List Fm) (q k : Nat) : Nat := ((N.take q).filter fun h => decide (gix L h = (k : Int))).length
theorem ctN_next {L N : List Fm} {q n : Nat} (h : q < N.length) (hn : gix L N[q] = (n : Int)) (k : Nat) : ctN L N (q + 1) k = if k = n then ctN L N q k + 1 else ctN L N q k := by
  unfold ctN
  rw [filter_take h, List.length_append, hn]
  by_cases e : k = n
  · subst e; simp
  · have : ¬ ((n : Int) = (k : Int)) := by omega
    simp [e, this]
theorem ctN_le (L N : List Fm) (q k : Nat) : ctN L N q k ≤ N.length := filter_len N q (Nat.le_refl _)
def ctR (L N : List Fm) : List Int := (List.range L.length).map fun k => (ctN L N N.length k : Int)
theorem ctR_len (L N : List Fm) : (ctR L N).length = L.length := by simp [ctR]
theorem ctR_cells (L N : List Fm) : ∀ i, i < L.length → (cellsI (ctR L N))[i]? = some (.int .i64 (ctN L N N.length i : Nat)) := by
  intro i hi
  simp [cellsI, ctR, hi]
/-- The matrix. -/
def mtL (L : List Fm) (p : Int) : List (List Int) := L.map fun f => ctR L (nbL f p)
theorem mtL_take {L : List Fm} {p : Int} {k : Nat} (h : k < L.length) : (L.take (k + 1)).map (fun f => ctR L (nbL f p)) = (L.take k).map (fun f => ctR L (nbL f p)) ++ [ctR L (nbL L[k] p)] := by
  rw [List.take_succ_eq_append_getElem h, List.map_append]; rfl
def RetNm (G : List (List Int)) (w : World) (e : Ending) (w' : World) : Prop := ∃ v, e = .returned v ∧ NestI w.heap.size G v w' ∧ Below w.heap.size w w'
def NmSt (L : List Fm) (p : Int) (w1 : World) (v vi : Value) (wr : World) : Prop :=
  ∃ k : Nat, vi = .int .i64 k ∧ k ≤ L.length ∧ Hid (NestI w1.heap.size ((L.take k).map fun f => ctR L (nbL f p)) v wr) ∧ Below w1.heap.size w1 wr
def NmIn (L N : List Fm) (O : Nat) (w3 : World) (vq : Value) (wr : World) : Prop :=
  ∃ q : Nat, vq = .int .i64 q ∧ q ≤ N.length ∧ Hid (wr.rowIs O 3 L.length (fun k => .int .i64 (ctN L N q k : Nat))) ∧ Hid (w3.grownBy wr (some O))
theorem grown_set {w wr : World} {O n : Nat} {u : Value} {o : Obj} (h : w.grownBy wr (some O)) : w.grownBy ((wr.setCell ⟨O, n, none⟩ u).alloc o).drew (some O) := by
  have hs := h.size
  refine ⟨h.os, h.tape, h.output, by simp; omega, fun j hj hne => ?_⟩
  refine (((Below.refl (wr.setCell ⟨O, n, none⟩ u).heap.size (wr.setCell ⟨O, n, none⟩ u)).alloc (Nat.le_refl _) o).block j (by simp; omega)).trans ?_
  exact (heap_setCell_other wr ⟨O, n, none⟩ j _ (fun e => hne (by rw [e]))).trans (h.block j hj hne)

set_option maxRecDepth 100000 in
set_option maxHeartbeats 6400000 in
theorem neighbourMatrix_any (d p : Int) (w : World) (D : Dsc d) (hp : 2 ≤ p ∧ p ≤ 43) : Calls Try.prog 57 #[.int .i64 d, .int .i64 p] w (RetNm (mtL (clsL d) p) w) := by
  obtain ⟨j0, hj0, hy0, hy1, hy2⟩ := info_parts infoSl
  have hG := Lib.hid (fun w => groupOf_any d w D)
  have hNb := Lib.hid (fun f (hf : f ∈ clsL d) w => neighbours_any d f p w D hf hp)
  have hNm := Lib.hid (fun f (hf : f ∈ clsL d) => nbL_mem D hf hp.1 hp.2)
  have hNl := Lib.hid (fun f => nbL_len (f := f) hp.1 hp.2)
  have hwf := Lib.hid (fun f (hf : f ∈ clsL d) => cls_wf D.lo hf)
  have hl := clsL_len d
  generalize clsL d = L at *
  have hmk2 := run_make_row' (P := Try.prog) 25 3 (.int .i64 0) 8 Try.underlying25 infoInt rfl .i64 .i64 L.length (by omega) (by omega)
  clear D hp
  go_enter Try.func57, Try.ntmps57
  go_wp2_with (go_at_call 34; refine (hG.out _).mono ?_; rintro e w1 ⟨G, rfl, hg1, hG0, hb1⟩; have hz1' := hb1.size; have HG := Lib.hid hg1; obtain ⟨base, cap, M, Dm, hblk, howl, hmap, hidx⟩ := hg1; have cG := hblk.cell; have fG := hblk.frozen; have lG := hblk.lt; have nG := Nat.ne_of_lt lG; have nG2 : G < w1.heap.size + 1 := (by omega))
  have HB := Lib.hid hblk
  have HL := Lib.hid howl
  have HM := Lib.hid hmap
  have HI := Lib.hid hidx
  have hml := hmap.lt
  have hn0 : NestI w1.heap.size ((L.take 0).map fun f => ctR L (nbL f p)) (.slice (some ⟨w1.heap.size, 0, none⟩) 0 0) (w1.alloc (.cells #[] 25)) := NestI.emptyq2 rfl (Nat.le_refl _)
  have HN0 := Lib.hid hn0
  clear hn0 hblk howl hmap hidx
  go_loopw [6, 20] (fun v vi wr => NmSt L p w1 v vi wr) (fun _ vi _ => L.length - (intOf vi).toNat)
  case atStart => exact ⟨0, rfl, Nat.zero_le _, HN0, (by repeat (first | with_reducible exact Below.refl _ _ | with_reducible assumption | with_reducible apply Below.drew | with_reducible apply below_drewN | (with_reducible apply below_setp; (first | omega | (simp <;> omega))) | (with_reducible apply below_allocp; (first | omega | (simp <;> omega))) | (with_reducible refine below_viap (by assumption) ?_ ?_; (first | omega | (simp <;> omega)))))⟩
  case round =>
    clear HN0 cG fG
    obtain ⟨k, rfl, hk, hN, hbel⟩ := hrel
    have hz := hbel.size
    have hblk2 := HB.out.below hbel lG
    have cG := hblk2.cell; have fG := hblk2.frozen; have lG2 := hblk2.lt
    by_cases hlt : k < L.length
    · obtain ⟨g, rfl, hg2, d1, d2, d3⟩ := own_elem (own_bel hbel (own_lt HL.out) HL.out) hlt
      have hfm := List.getElem_mem hlt
      have hCall := Lib.hid (fun w => hNb.out L[k] hfm w)
      have hNme := Lib.hid (hNm.out L[k] hfm)
      have hNle := hNl.out L[k]
      have hmt := mtL_take (p := p) hlt
      generalize L[k] = f at d1 d2 d3 hCall hNme hNle hmt
      generalize nbL f p = N at hCall hNme hNle hmt
      have Hmt := Lib.hid hmt
      have nGw : ¬ G = wr.heap.size := by omega
      have nGw1 : ¬ G = wr.heap.size + 1 := by omega
      have lGw : G < wr.heap.size + 1 := by omega
      have lGw1 : G < wr.heap.size + 1 + 1 := by omega
      clear hmt hfm
      go_wp2_with (go_at_call 88; refine (hCall.out _).mono ?_; rintro e w3 ⟨vn, rfl, hon, hb3⟩; have hz3 := hb3.size; (try simp at hz3); obtain ⟨bn, cn, rfl⟩ := own_shape hon)
      have hrm := World.rowIs_made (wr.alloc (.cells #[.int .i64 f.a, .int .i64 f.b, .int .i64 f.c] 32)) (.int .i64 0) L.length 3
      rw [show (wr.alloc (.cells #[.int .i64 f.a, .int .i64 f.b, .int .i64 f.c] 32)).heap.size = wr.heap.size + 1 by simp] at hrm
      have hR0 : w3.rowIs (wr.heap.size + 1) 3 L.length (fun k => .int .i64 (ctN L N 0 k : Nat)) := (hrm.of_block (hb3.block _ (by simp))).congr (fun j _ => by simp [ctN])
      have HR0 := Lib.hid hR0
      have hbo : Below wr.heap.size wr w3 := below_via (((Below.refl wr.heap.size wr).alloc (Nat.le_refl _) (.cells #[.int .i64 f.a, .int .i64 f.b, .int .i64 f.c] 32)).alloc (by simp) (.cells (madeCells #[.int .i64 0] L.length) 3)) hb3 (by simp; omega)
      have hbw3 : Below w1.heap.size w1 w3 := below_via hbel hbo hz
      have Hon := Lib.hid (own_base (B' := wr.heap.size + 1 + 1) (by simp) hon)
      obtain ⟨wo, rfl⟩ : ∃ wo : World, wo = wr := ⟨_, rfl⟩
      clear hrm hR0 hon hb3 cG fG hblk2
      go_loopw [34] (fun vq wr => NmIn L N (wo.heap.size + 1) w3 vq wr) (fun vq _ => N.length - (intOf vq).toNat)
      case atStart => exact ⟨0, rfl, Nat.zero_le _, HR0, Lib.hid (grown_below _ (Below.refl _ _))⟩
      case round =>
        clear HR0
        obtain ⟨q, rfl, hq, hR, hgr⟩ := hrel
        have hs := hgr.out.size
        have hbwr : Below w1.heap.size w1 wr := hbw3.grown hgr.out (by omega) (fun b hb => by injection hb with hb; omega)
        have hblk3 := HB.out.below hbwr lG
        have lR := hR.out.lt
        by_cases hqt : q < N.length
        · obtain ⟨gn, rfl, ln, e1, e2, e3⟩ := own_elem (Hon.out.kept hgr.out (own_ne Hon.out (Nat.lt_succ_self _))) hqt
          have hmem := hNme.out N[q] (List.getElem_mem hqt)
          obtain ⟨n, hn, hnr, hng⟩ := gix_mem hmem
          have hct := ctN_next (L := L) hqt hng
          have hW := hwf.out N[q] hmem
          generalize N[q] = h at e1 e2 e3 hnr hW
          have cR := hR.out.cell hn
          have fR := hR.out.frozen n
          have hcb := ctN_le L N q n
          have hmap2 := ownsMap_below HM.out hbwr hml
          have hrun := idx_run (World.ownsMap.drew (ownsMap_below hmap2 ((Below.refl wr.heap.size wr).alloc (Nat.le_refl _) (.cells #[.int .i64 h.a, .int .i64 h.b, .int .i64 h.c] 32)) (by omega))) HI.out hW hn hnr
          have hblk4 := Blk.drew (Blk.allocp (o := .cells #[.int .i64 h.a, .int .i64 h.b, .int .i64 h.c] 32) hblk3)
          have hRn := Lib.hid (((hR.out.set n (.int .i64 ((ctN L N q n : Nat) + 1))).alloc (.cells #[.int .i64 h.a, .int .i64 h.b, .int .i64 h.c] 32)).drew.congr (g := fun k => .int .i64 (ctN L N (q + 1) k : Nat)) (fun j _ => by
            rw [hct j]
            by_cases e : j = n
            · subst e; simp
            · simp [e]))
          have hgn := Lib.hid (grown_set (n := n) (u := .int .i64 ((ctN L N q n : Nat) + 1)) (o := .cells #[.int .i64 h.a, .int .i64 h.b, .int .i64 h.c] 32) hgr.out)
          generalize ctN L N q n = C at cR hcb hRn hgn
          have cG := hblk3.cell; have fG := hblk3.frozen; have lG3 := hblk3.lt
          have m1 : ¬ G = wr.heap.size := by omega
          have m2 : ¬ wo.heap.size + 1 = wr.heap.size := by omega
          have m3 : G < wr.heap.size + 1 := by omega
          have m4 : wo.heap.size + 1 < wr.heap.size + 1 := by omega
          clear hct hnr hng hmem hW hR hgr hmap2 hblk4 hbwr
          go_wp2
          go_region
          all_goals
            go_wp2
            exact ⟨⟨q + 1, rfl, hqt, hRn, hgn⟩, by simp [intOf]; omega⟩
        · have e : q = N.length := by omega
          subst e
          have hown := rowIs_own (xs := cellsI (ctR L N)) (B := wo.heap.size) hR.out (by rw [cellsI_len, ctR_len]) (ctR_cells L N) (by omega) (by unfold maxLen; omega)
          have hboR : Below wo.heap.size wo wr := hbo.grown hgr.out (by omega) (fun b hb => by injection hb with hb; omega)
          obtain ⟨vs, hnest⟩ := hN.out
          have hGl : ((L.take k).map fun f => ctR L (nbL f p)).length ≤ 2000 := by rw [List.length_map, List.length_take]; omega
          generalize (L.take k).map (fun f => ctR L (nbL f p)) = Gk at hnest hGl Hmt
          have hno := own_call hboR hnest.1
          have hgn := Lib.hid hnest
          have hcl := ctR_len L N
          generalize ctR L N = Rw at hown hcl Hmt
          have hboR2 := Lib.hid hboR
          clear hnest hN hR
          go_wp2_with (at_builtin; refine wpList_append_own_at _ rfl (.tmp 50) (.tmp 52) 47 rfl w1.heap.size 25 j0 _ 1 24 Try.underlying47 hj0 hy0 hy1 hy2 rfl (by decide) u6 Gk.length vs rfl ?_ ⟨wr.heap.size, 0, none⟩ 1 1 [.slice (some ⟨wo.heap.size + 1, 0, none⟩) L.length L.length] rfl rfl ?_ (oneSl2 _) ?_ ?_ ?_ ?_; exact own_alloc hno; exact cells1 (Blk.new_at (by simp)); (unfold maxLen; omega); omega; (simp; omega); intro x2 w2 hown2 hgr2 _ hloc)
          have hboA : Below wo.heap.size wo (wr.alloc (.cells #[.slice (some ⟨wo.heap.size + 1, 0, none⟩) L.length L.length] 25)) := hboR2.out.alloc (by omega) _
          have hNn := hgn.out.snoc (grown_below (some G) hboA) lG (own_alloc (by rw [hcl]; exact hown)) (by omega) hown2 hgr2 hloc
          rw [← Hmt.out] at hNn
          have HNn := Lib.hid hNn
          have hbA : Below w1.heap.size w1 w2 := below_grown (own_ge hno) (by simp; omega) hgr2 (below_via hbel hboA hz)
          clear hgr2 hown2 hno hNn hown
          go_wp2
          exact ⟨⟨k + 1, rfl, hlt, HNn, hbA⟩, by simp [intOf]; omega⟩
    · have e : k = L.length := by omega
      have hx : (L.take k).map (fun f => ctR L (nbL f p)) = mtL L p := by rw [e, List.take_length]; rfl
      rw [hx] at hN
      clear hx
      subst e
      go_wp2
      go_ret
      exact ⟨_, rfl, hN.out.base (by omega), below_via hb1 hbel hz1'⟩
end Go.Proofs.Ytcijjnjgifoipaa
