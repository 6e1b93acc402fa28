/- Contracts: the matrix of neighbours, by the reference. -/
import Derived.Test.YtcijjnjgifoipaaHE
import Derived.Test.YtcijjnjgifoipaaK4
namespace Go.Proofs.Ytcijjnjgifoipaa
open Go.RowKit Go.Maps

theorem grown_call {w wr w' : World} {O n : Nat} {u : Value} {o : Obj} (h : w.grownBy wr (some O)) (hb : Below (wr.alloc o).heap.size (wr.alloc o) w') : w.grownBy (w'.setCell ⟨O, n, none⟩ u) (some O) := by
  have hs := h.size
  have hs2 := hb.size
  simp at hs2
  refine ⟨hb.os.trans h.os, hb.tape.trans h.tape, hb.output.trans h.output, by simp; omega, fun j hj hne => ?_⟩
  refine (heap_setCell_other w' ⟨O, n, none⟩ j _ (fun e => hne (by rw [e]))).trans ?_
  refine (hb.block j (by simp; omega)).trans ?_
  exact (((Below.refl wr.heap.size wr).alloc (Nat.le_refl _) o).block j (by omega)).trans (h.block j hj hne)

set_option maxRecDepth 100000 in
set_option maxHeartbeats 6400000 in
theorem hkMatrix_any (d p : Int) (w : World) (D : Dsc d) (hp : 2 ≤ p ∧ p ≤ 43) : Calls Try.prog 53 #[.int .i64 d, .int .i64 p] w (RetNm (mtL (clsL d) p) w) := by
  obtain ⟨j0, hj0, hy0, hy1, hy2⟩ := info_parts infoSl
  have hG := Lib.hid (fun w => reList_any d w D.lo D.hi)
  have hNb := Lib.hid (fun f (hf : f ∈ clsL d) w => hkNeighbours_any d f p w D hf hp)
  have hNm := Lib.hid (fun f (hf : f ∈ clsL d) => nbL_mem D hf hp.1 hp.2)
  have hNl := Lib.hid (fun f => nbL_len (f := f) hp.1 hp.2)
  have hl := clsL_len d
  have hl1 : 0 < (clsL d).length := List.length_pos_of_mem D.one
  generalize clsL d = L at *
  have hmk2 := run_make_row' (P := Try.prog) 25 3 (.int .i64 0) 8 Try.underlying25 infoInt rfl .i64 .i64 L.length (by omega) (by omega)
  clear D hp
  go_enter Try.func53, Try.ntmps53
  go_wp2_with (go_at_call 52; refine (hG.out _).mono ?_; rintro e w1 ⟨vl, rfl, howl, hb1⟩; have hz1' := hb1.size; obtain ⟨base, cap, rfl⟩ := own_shape howl)
  have HL := Lib.hid howl
  have hn0 : NestI w1.heap.size ((L.take 0).map fun f => ctR L (nbL f p)) (.slice none 0 0) w1 := NestI.nil
  have HN0 := Lib.hid hn0
  have hw1p : 0 < w1.heap.size := by
    obtain ⟨g0, _, h0, _⟩ := own_elem HL.out (k := 0) hl1
    omega
  clear hn0 howl
  go_loopw [6, 16] (fun v vi wr => NmSt L p w1 v vi wr) (fun _ vi _ => L.length - (intOf vi).toNat)
  case atStart => exact ⟨0, rfl, Nat.zero_le _, HN0, (by repeat (first | with_reducible exact Below.refl _ _ | with_reducible assumption | with_reducible apply Below.drew | with_reducible apply below_drewN | (with_reducible apply below_setp; (first | omega | (simp <;> omega))) | (with_reducible apply below_allocp; (first | omega | (simp <;> omega))) | (with_reducible refine below_viap (by assumption) ?_ ?_; (first | omega | (simp <;> omega)))))⟩
  case round =>
    clear HN0
    obtain ⟨k, rfl, hk, hN, hbel⟩ := hrel
    have hz := hbel.size
    by_cases hlt : k < L.length
    · obtain ⟨g, rfl, hg2, d1, d2, d3⟩ := own_elem (own_bel hbel (own_lt HL.out) HL.out) hlt
      have hfm := List.getElem_mem hlt
      have hCall := Lib.hid (fun w => hNb.out L[k] hfm w)
      have hNme := Lib.hid (hNm.out L[k] hfm)
      have hNle := hNl.out L[k]
      have hmt := mtL_take (p := p) hlt
      generalize L[k] = f at d1 d2 d3 hCall hNme hNle hmt
      generalize nbL f p = N at hCall hNme hNle hmt
      have Hmt := Lib.hid hmt
      clear hmt hfm
      go_wp2_with (go_at_call 86; refine (hCall.out _).mono ?_; rintro e w3 ⟨vn, rfl, hon, hb3⟩; have hz3 := hb3.size; (try simp at hz3); obtain ⟨bn, cn, rfl⟩ := own_shape hon)
      have hrm := World.rowIs_made (wr.alloc (.cells #[.int .i64 f.a, .int .i64 f.b, .int .i64 f.c] 32)) (.int .i64 0) L.length 3
      rw [show (wr.alloc (.cells #[.int .i64 f.a, .int .i64 f.b, .int .i64 f.c] 32)).heap.size = wr.heap.size + 1 by simp] at hrm
      have hR0 : w3.rowIs (wr.heap.size + 1) 3 L.length (fun k => .int .i64 (ctN L N 0 k : Nat)) := (hrm.of_block (hb3.block _ (by simp))).congr (fun j _ => by simp [ctN])
      have HR0 := Lib.hid hR0
      have hbo : Below wr.heap.size wr w3 := below_via (((Below.refl wr.heap.size wr).alloc (Nat.le_refl _) (.cells #[.int .i64 f.a, .int .i64 f.b, .int .i64 f.c] 32)).alloc (by simp) (.cells (madeCells #[.int .i64 0] L.length) 3)) hb3 (by simp; omega)
      have hbw3 : Below w1.heap.size w1 w3 := below_via hbel hbo hz
      have Hon := Lib.hid (own_base (B' := wr.heap.size + 1 + 1) (by simp) hon)
      obtain ⟨wo, rfl⟩ : ∃ wo : World, wo = wr := ⟨_, rfl⟩
      clear hrm hR0 hon hb3
      go_loopw [27] (fun vq wr => NmIn L N (wo.heap.size + 1) w3 vq wr) (fun vq _ => N.length - (intOf vq).toNat)
      case atStart => exact ⟨0, rfl, Nat.zero_le _, HR0, Lib.hid (grown_below _ (Below.refl _ _))⟩
      case round =>
        clear HR0
        obtain ⟨q, rfl, hq, hR, hgr⟩ := hrel
        have hs := hgr.out.size
        have hbwr : Below w1.heap.size w1 wr := hbw3.grown hgr.out (by omega) (fun b hb => by injection hb with hb; omega)
        have lR := hR.out.lt
        by_cases hqt : q < N.length
        · obtain ⟨gn, rfl, ln, e1, e2, e3⟩ := own_elem (Hon.out.kept hgr.out (own_ne Hon.out (Nat.lt_succ_self _))) hqt
          have hmem := hNme.out N[q] (List.getElem_mem hqt)
          obtain ⟨n, hn, hnr, hng⟩ := gix_mem hmem
          have hct := ctN_next (L := L) hqt hng
          generalize N[q] = h at e1 e2 e3 hng hct
          have cR := hR.out.cell hn
          have fR := hR.out.frozen n
          have hcb := ctN_le L N q n
          have hIx := Lib.hid (fun (w : World) (B : Nat) ho => (show Calls Try.prog 67 #[.slice (some ⟨g, 0, none⟩) L.length cap, .agg #[.int .i64 h.a, .int .i64 h.b, .int .i64 h.c]] w (fun e w' => e = .returned (.int .i64 (n : Nat)) ∧ Below w.heap.size w w') from by
            rw [← hng]
            exact grIndex_any _ B L h w (by omega) ho))
          have hLr := own_alloc (o := .cells #[.int .i64 h.a, .int .i64 h.b, .int .i64 h.c] 32) (own_bel hbwr (own_lt HL.out) HL.out)
          have hRn := Lib.hid (fun (v5 : World) (hB : Below (wr.alloc (.cells #[.int .i64 h.a, .int .i64 h.b, .int .i64 h.c] 32)).heap.size (wr.alloc (.cells #[.int .i64 h.a, .int .i64 h.b, .int .i64 h.c] 32)) v5) => (show (v5.setCell ⟨wo.heap.size + 1, n, none⟩ (.int .i64 ((ctN L N q n : Nat) + 1))).rowIs (wo.heap.size + 1) 3 L.length (fun k => .int .i64 (ctN L N (q + 1) k : Nat)) from
            ((((hR.out.alloc (.cells #[.int .i64 h.a, .int .i64 h.b, .int .i64 h.c] 32)).of_block (hB.block _ (by simp; omega))).set n (.int .i64 ((ctN L N q n : Nat) + 1))).congr (fun j _ => by
            rw [hct j]
            by_cases e : j = n
            · subst e; simp
            · simp [e]))))
          have hRr := Lib.hid (hR.out.alloc (.cells #[.int .i64 h.a, .int .i64 h.b, .int .i64 h.c] 32))
          have cR1 := hRr.out.cell hn
          have hgn := Lib.hid (fun (v5 : World) hB => grown_call (n := n) (u := .int .i64 ((ctN L N q n : Nat) + 1)) (o := .cells #[.int .i64 h.a, .int .i64 h.b, .int .i64 h.c] 32) (w' := v5) hgr.out hB)
          have hCr : Hid ((wr.alloc (.cells #[.int .i64 h.a, .int .i64 h.b, .int .i64 h.c] 32)).cell? ⟨wo.heap.size + 1, n, none⟩ = some (.int .i64 (ctN L N q n : Nat))) := Lib.hid cR1
          have hFr := Lib.hid (hRr.out.frozen n)
          generalize ctN L N q n = C at hcb hRn hgn hCr
          clear hct hng hnr hmem hR hgr cR fR cR1 hRr
          go_wp2_with (go_at_call 67; refine (hIx.out _ _ hLr).mono ?_; rintro e v5 ⟨rfl, hB5⟩; have hZ5 := hB5.size; (try simp at hZ5); have cR5 := ((calm_cells hB5).1 (wo.heap.size + 1) n (by simp; omega)).trans hCr.out; have fR5 := ((calm_cells hB5).2 (wo.heap.size + 1) n (by simp; omega)).trans hFr.out)
          go_roundw
          case rel => exact ⟨q + 1, rfl, hqt, Lib.hid (hRn.out v5 hB5), Lib.hid (hgn.out v5 hB5)⟩
          case measure => simp [intOf]; omega
        · have e : q = N.length := by omega
          subst e
          have hown := rowIs_own (xs := cellsI (ctR L N)) (B := wo.heap.size) hR.out (by rw [cellsI_len, ctR_len]) (ctR_cells L N) (by omega) (by unfold maxLen; omega)
          have hboR : Below wo.heap.size wo wr := hbo.grown hgr.out (by omega) (fun b hb => by injection hb with hb; omega)
          obtain ⟨vs, hnest⟩ := hN.out
          have hGl : ((L.take k).map fun f => ctR L (nbL f p)).length ≤ 2000 := by rw [List.length_map, List.length_take]; omega
          generalize (L.take k).map (fun f => ctR L (nbL f p)) = Gk at hnest hGl Hmt
          have hno := own_call hboR hnest.1
          have hgn := Lib.hid hnest
          have hcl := ctR_len L N
          generalize ctR L N = Rw at hown hcl Hmt
          have hboR2 := Lib.hid hboR
          clear hnest hN hR
          go_wp2_with (at_builtin; refine wpList_append_own_at _ rfl (.tmp 40) (.tmp 42) 47 rfl w1.heap.size 25 j0 _ 1 24 Try.underlying47 hj0 hy0 hy1 hy2 rfl (by decide) u6 Gk.length vs rfl ?_ ⟨wr.heap.size, 0, none⟩ 1 1 [.slice (some ⟨wo.heap.size + 1, 0, none⟩) L.length L.length] rfl rfl ?_ (oneSl2 _) ?_ ?_ ?_ ?_; exact own_alloc hno; exact cells1 (Blk.new_at (by simp)); (unfold maxLen; omega); omega; (simp; omega); intro x2 w2 hown2 hgr2 _ hloc)
          have hboA : Below wo.heap.size wo (wr.alloc (.cells #[.slice (some ⟨wo.heap.size + 1, 0, none⟩) L.length L.length] 25)) := hboR2.out.alloc (by omega) _
          have hNn := hgn.out.snoc (grown_below (some 0) hboA) hw1p (own_alloc (by rw [hcl]; exact hown)) (by omega) hown2 hgr2 hloc
          rw [← Hmt.out] at hNn
          have HNn := Lib.hid hNn
          have hbA : Below w1.heap.size w1 w2 := below_grown (own_ge hno) (by simp; omega) hgr2 (below_via hbel hboA hz)
          clear hgr2 hown2 hno hNn hown
          go_wp2
          exact ⟨⟨k + 1, rfl, hlt, HNn, hbA⟩, by simp [intOf]; omega⟩
    · have e : k = L.length := by omega
      have hx : (L.take k).map (fun f => ctR L (nbL f p)) = mtL L p := by rw [e, List.take_length]; rfl
      rw [hx] at hN
      clear hx
      subst e
      go_wp2
      go_ret
      exact ⟨_, rfl, hN.out.base (by omega), below_via hb1 hbel hz1'⟩
end Go.Proofs.Ytcijjnjgifoipaa
