/- Parts Z2 Z3 Z4 laid together by tp.py. -/
import Derived.Test.YteehcjjhkphdnaaGreatZ1
import Derived.Test.YteehcjjhkphdnaaGreatTX
import Derived.Test.YteehcjjhkphdnaaGreatTZ
import Derived.Test.YteehcjjhkphdnaaGreatK7
import Derived.Test.YteehcjjhkphdnaaGreatW4
import Derived.Deep.RegionLaw
namespace Go.Proofs.YteehcjjhkphdnaaGreat
section
open Go.RowKit Go.Maps

theorem infoBool : (Tryz.prog.info? 4).map (fun i => (i.zero, i.size, i.bytes)) = some (some (.bool false), 1, 1) := by kernel_rfl
/-- The index of the composite. -/
noncomputable def mulN (d : Int) (L : List Fm) (i k : Nat) : Nat := (gix L (cmp d (L.getD i ⟨0, 0, 0⟩) (L.getD k ⟨0, 0, 0⟩))).toNat
theorem getD_at {L : List Fm} {i : Nat} (h : i < L.length) : L.getD i ⟨0, 0, 0⟩ = L[i] := by simp [List.getD_eq_getElem?_getD, h]
theorem mulN_eq {d : Int} {L : List Fm} {i k : Nat} (hD : Dsc d) (hL : clsL d = L) (hi : i < L.length) (hk : k < L.length) : gix L (cmp d L[i] L[k]) = (mulN d L i k : Int) ∧ mulN d L i k < L.length := by
  have h1 : L[i] ∈ clsL d := by rw [hL]; exact List.getElem_mem hi
  have h2 : L[k] ∈ clsL d := by rw [hL]; exact List.getElem_mem hk
  have h3 := hD.cmpm h1 h2
  rw [hL] at h3
  have := gix_bd h3
  unfold mulN
  rw [getD_at hi, getD_at hk]
  omega
theorem gtimes_n (d : Int) (i k : Nat) (L : List Fm) (B G : Nat) (w : World) (hD : Dsc d) (hL : clsL d = L) (hi : i < L.length) (hk : k < L.length) (hg : Grp L B G w) :
    Calls Tryz.prog 116 #[.pointer (some ⟨G, 0, none⟩), .int .i64 i, .int .i64 k] w fun e w' => e = .returned (.int .i64 (mulN d L i k : Nat)) ∧ Below w.heap.size w w' := by
  have h := gtimes_any d i k L B G w hD hL hi hk hg
  rw [(mulN_eq hD hL hi hk).1] at h
  exact h
/-- A list of marks in new memory. -/
def RetBo (F : Nat → Bool) (m : Nat) (w : World) (e : Ending) (w' : World) : Prop :=
  ∃ O, e = .returned (.slice (some ⟨O, 0, none⟩) m m) ∧ w.heap.size ≤ O ∧ w'.rowIs O 4 m (fun i => .bool (F i)) ∧ Below w.heap.size w w'
def GnSt (mul : Nat → Nat → Nat) (J : List Nat) (m : Nat) (w : World) (v vi : Value) (wr : World) : Prop :=
  ∃ (i : Nat) (l : List Nat) (F : Nat → Bool), vi = .int .i64 i ∧ i ≤ l.length ∧ Hid (Brd mul J m l F) ∧ Hid (∀ t y, l[t]? = some y → t < i → ∀ j ∈ J, F (mul y j) = true) ∧
    Hid (wr.rowIs w.heap.size 4 m (fun i => .bool (F i))) ∧ wr.ownsRow (w.heap.size + 1) 3 1 v (nats l).length (cellsI (nats l)) ∧ Below w.heap.size w wr ∧ w.heap.size < wr.heap.size
def GnIn (mul : Nat → Nat → Nat) (J : List Nat) (m i x : Nat) (w : World) (v vq : Value) (wr : World) : Prop :=
  ∃ (q : Nat) (l : List Nat) (F : Nat → Bool), vq = .int .i64 q ∧ q ≤ J.length ∧ l[i]? = some x ∧ Hid (Brd mul J m l F) ∧ Hid (∀ t y, l[t]? = some y → t < i → ∀ j ∈ J, F (mul y j) = true) ∧
    Hid (∀ s (h : s < J.length), s < q → F (mul x J[s]) = true) ∧
    Hid (wr.rowIs w.heap.size 4 m (fun i => .bool (F i))) ∧ wr.ownsRow (w.heap.size + 1) 3 1 v (nats l).length (cellsI (nats l)) ∧ Below w.heap.size w wr ∧ w.heap.size < wr.heap.size

set_option maxRecDepth 100000 in
set_option maxHeartbeats 6400000 in
theorem generated_any (d : Int) (L : List Fm) (B G : Nat) (J : List Nat) (v : Value) (B2 : Nat) (w : World) (hD : Dsc d) (hL : clsL d = L) (hg : Grp L B G w) (hJ : ∀ j ∈ J, j < L.length) (hJl : J.length ≤ 20)
    (ho : w.ownsRow B2 3 1 v (nats J).length (cellsI (nats J))) :
    Calls Tryz.prog 97 #[.pointer (some ⟨G, 0, none⟩), v] w (RetBo (rchB (mulN d L) J) L.length w) := by
  obtain ⟨i0, hi0, hz0, hz1, hz2⟩ := info_parts infoInt
  have hl : L.length ≤ 100000 := by rw [← hL]; exact Nat.le_trans (clsL_len d) (by decide)
  have hm0 : 0 < L.length := by
    obtain ⟨L', h⟩ := cls_head hD
    rw [← hL, h]; simp
  have hT := Lib.hid (fun (i k : Nat) (hi : i < L.length) (hk : k < L.length) (w : World) hg => gtimes_n d i k L B G w hD hL hi hk hg)
  have hcl := Lib.hid (fun (i k : Nat) (hi : i < L.length) (hk : k < L.length) => (mulN_eq hD hL hi hk).2)
  obtain ⟨bJ, cJ, rfl⟩ := own_shape ho
  have HJ := Lib.hid ho
  have HG := Lib.hid hg
  have Hmem := Lib.hid hJ
  obtain ⟨base, cap, M, D, hblk, _, _, _⟩ := hg
  have cG := hblk.cell; have fG := hblk.frozen; have lG := hblk.lt
  have hmk := run_make_row' (P := Tryz.prog) 112 4 (.bool false) 1 Tryz.underlying112 infoBool rfl .i64 .i64 L.length (by omega) (by omega)
  have hnl := nats_len J
  rw [hnl] at HJ ⊢
  generalize mulN d L = mul at *
  clear hD hL hblk ho hJ hnl
  go_enter Tryz.func97, Tryz.ntmps97
  have hrw := World.rowIs_made w (.bool false) L.length 4
  have c0 := hrw.cell hm0
  have f0 := hrw.frozen 0
  go_wp2
  have hR0 : (w.alloc (.cells ((madeCells #[.bool false] L.length).setIfInBounds 0 (.bool true)) 4)).rowIs w.heap.size 4 L.length (fun i => .bool (decide (i = 0))) := by
    have h := World.rowIs_alloc w ((madeCells #[.bool false] L.length).setIfInBounds 0 (.bool true)) 4 (fun i => .bool (decide (i = 0))) (fun i hi => by
      simp [size_madeCells] at hi
      rw [Array.getElem?_setIfInBounds]
      by_cases e : i = 0
      · subst e; simp [size_madeCells, hm0]
      · rw [if_neg (fun h => e h.symm)]
        simp [madeCells, hi, Nat.mod_one, e])
    simpa [size_madeCells] using h
  have hR1 := hR0.alloc (.cells #[.int .i64 0] 3)
  have hln : ((w.alloc (.cells ((madeCells #[.bool false] L.length).setIfInBounds 0 (.bool true)) 4)).alloc (.cells #[.int .i64 0] 3)).ownsRow (w.heap.size + 1) 3 1 (.slice (some ⟨w.heap.size + 1, 0, none⟩) 1 1) (nats [0]).length (cellsI (nats [0])) := by
    have h := own_one (w := w.alloc (.cells ((madeCells #[.bool false] L.length).setIfInBounds 0 (.bool true)) 4)) (e := 3) (u := .int .i64 0) (B := w.heap.size + 1) (by simp)
    simp at h
    exact h
  have HR1 := Lib.hid hR1
  clear hrw c0 f0 hR0 hR1
  go_loopw [6, 7] (fun v i wr => GnSt mul J L.length w v i wr) (fun _ i _ => L.length - (intOf i).toNat)
  case atStart => exact ⟨0, [0], _, rfl, Nat.zero_le _, Lib.hid (Brd.start hm0), Lib.hid (fun _ _ _ h => absurd h (Nat.not_lt_zero _)), HR1, hln, (by repeat (first | with_reducible exact Below.refl _ _ | with_reducible assumption | with_reducible apply Below.drew | with_reducible apply below_drewN | (with_reducible apply below_setp; (first | omega | (simp <;> omega))) | (with_reducible apply below_allocp; (first | omega | (simp <;> omega))) | (with_reducible refine below_viap (by assumption) ?_ ?_; (first | omega | (simp <;> omega))))), by simp; omega⟩
  case round =>
    clear HR1 hln
    obtain ⟨i, l, F, rfl, hi, hB, hc, hR, hown, hbel, hsz⟩ := hrel
    have hz := hbel.size
    have hll := hB.out.len
    have hnl := nats_len l
    obtain ⟨lb, lc, rfl⟩ := own_shape hown
    rw [hnl] at hown ⊢
    by_cases hlt : i < l.length
    · obtain ⟨x, hx⟩ : ∃ x, l[i]? = some x := ⟨_, List.getElem?_eq_getElem hlt⟩
      have hxm : x < L.length := (hB.out.ok x (List.mem_of_getElem? hx)).1
      have hxr : Rch mul J x := (hB.out.ok x (List.mem_of_getElem? hx)).2.2
      go_wp2
      obtain ⟨wo, rfl⟩ : ∃ wo : World, wo = wr := ⟨_, rfl⟩
      go_loopw [6, 28] (fun v q wr => GnIn mul J L.length i x w v q wr) (fun _ q _ => J.length - (intOf q).toNat)
      case atStart => exact ⟨0, l, F, rfl, Nat.zero_le _, hx, hB, hc, Lib.hid (fun _ _ h => absurd h (Nat.not_lt_zero _)), hR, by rw [hnl]; exact hown, hbel, hsz⟩
      case round =>
        clear hB hc hR hown hbel hsz hz hll hnl hlt hi hx
        obtain ⟨q, l, F, rfl, hq, hx, hB, hc, hs, hR, hown, hbel, hsz⟩ := hrel
        have hz := hbel.size
        have hll := hB.out.len
        have hnl := nats_len l
        have hlt : i < l.length := (List.getElem?_eq_some_iff.1 hx).1
        obtain ⟨lb, lc, rfl⟩ := own_shape hown
        rw [hnl] at hown ⊢
        by_cases hqt : q < J.length
        · have hjm := Hmem.out J[q] (List.getElem_mem hqt)
          obtain ⟨g1, rfl, l1, k1⟩ := own_elemI (n := J.length) (L := nats J) (by rw [nats_len]; exact own_call hbel HJ.out) (k := q) (by rw [nats_len]; exact hqt)
          rw [(nats_get J hqt).2] at k1
          obtain ⟨g2, rfl, l2, k2⟩ := own_elemI (n := l.length) (L := nats l) (by rw [nats_len]; exact hown) (k := i) (by rw [nats_len]; exact hlt)
          rw [(nats_get l hlt).2, (List.getElem?_eq_some_iff.1 hx).2] at k2
          have hT2 := Lib.hid (hT.out x J[q] hxm hjm)
          have hpm := hcl.out x J[q] hxm hjm
          have hpr : Rch mul J (mul x J[q]) := hxr.step (List.getElem_mem hqt)
          have hsN := Lib.hid (fun (F' : Nat → Bool) (h1 : ∀ y, F y = true → F' y = true) (h2 : F' (mul x J[q]) = true) => (show ∀ s (h : s < J.length), s < q + 1 → F' (mul x J[s]) = true from fun s hs' hlt' => if e : s = q then (by subst e; exact h2) else h1 _ (hs.out s hs' (by omega))))
          generalize J[q] = j at k1 hT2 hpm hpr hsN
          generalize mul x j = p at hT2 hpm hpr hsN
          have hg2O : g2 ≠ w.heap.size := by have := own_ge hown g2 rfl; omega
          clear hs hjm
          by_cases hF : F p = true
          · have hsM := Lib.hid (hsN.out F (fun _ h => h) hF)
            clear hsN
            go_wp2_with (go_at_call 116; refine (hT2.out _ (HG.out.call hbel)).mono ?_; rintro e v1 ⟨rfl, hB1⟩; have hZ1 := hB1.size; have hR1 := hR.out.of_block (hB1.block w.heap.size (by omega)); have cR1 := hR1.cell hpm; simp only [hF] at cR1)
            have hon1 := own_call hB1 hown
            go_roundw
            case rel => exact ⟨q + 1, l, F, rfl, hqt, hx, hB, hc, hsM, Lib.hid hR1, by rw [hnl]; exact hon1, below_via hbel hB1 (by omega), by omega⟩
            case measure => simp [intOf]; omega
          · have hF2 : F p = false := by simpa using hF
            have hsM := Lib.hid (hsN.out (fun i => if i = p then true else F i) (fun y h => by simp only [h]; simp) (by simp))
            clear hsN hF
            go_wp2_with (first
              | (go_at_call 116; refine (hT2.out _ (HG.out.call hbel)).mono ?_; rintro e v1 ⟨rfl, hB1⟩; have hZ1 := hB1.size; have hR1 := hR.out.of_block (hB1.block w.heap.size (by omega)); have cR1 := hR1.cell hpm; simp only [hF2] at cR1; have fR1 := hR1.frozen p; have hon1 := own_set_ne (p := ⟨w.heap.size, p, none⟩) (u := .bool true) (fun q hq he => by (have h9 := own_ge hown q hq; simp at he; omega)) (own_call hB1 hown))
              | (at_builtin; refine wpList_append_own_at _ rfl (.tmp 47) (.tmp 49) 32 rfl (w.heap.size + 1) 3 i0 _ 1 8 Tryz.underlying32 hi0 hz0 hz1 hz2 rfl (by decide) (.slice (some ⟨g2, 0, none⟩) l.length lc) l.length (cellsI (nats l)) rfl ?_ ⟨v1.heap.size, 0, none⟩ 1 1 [.int .i64 p] rfl rfl ?_ (one1 _) ?_ ?_ ?_ ?_; exact own_alloc hon1; exact cells1 (Blk.new_at (by simp)); (unfold maxLen; omega); omega; (simp; omega); intro x2 w2 hown2 hgr _ _))
            have hgs := hgr.size
            simp at hgs
            have hRN := (((hR1.set p (.bool true)).alloc (.cells #[.int .i64 p] 3)).of_block (hgr.block w.heap.size (by simp; omega) (fun he => hg2O (by injection he with he; exact he.symm)))).congr (g := fun i => .bool (if i = p then true else F i)) (fun t _ => by by_cases e : t = p <;> simp [e])
            have hbN : Below w.heap.size w w2 := below_grown (fun q hq => by have := own_ge hown q hq; omega) (by simp; omega) hgr (by repeat (first | with_reducible exact Below.refl _ _ | with_reducible assumption | with_reducible apply Below.drew | with_reducible apply below_drewN | (with_reducible apply below_setp; (first | omega | (simp <;> omega))) | (with_reducible apply below_allocp; (first | omega | (simp <;> omega))) | (with_reducible refine below_viap (by assumption) ?_ ?_; (first | omega | (simp <;> omega)))))
            have hBN := Lib.hid (hB.out.add hpm hF2 hpr)
            have hcN : Hid (∀ t y, (l ++ [p])[t]? = some y → t < i → ∀ j ∈ J, (fun i => if i = p then true else F i) (mul y j) = true) := Lib.hid (fun t y hy ht j hj => by
              rw [List.getElem?_append_left (by omega)] at hy
              have := hc.out t y hy ht j hj
              simp only [this]; simp)
            have hxN : (l ++ [p])[i]? = some x := by rw [List.getElem?_append_left hlt]; exact hx
            have hoN := own_snocI (K := nats (l ++ [p])) (nats_snoc l p) (by rw [hnl]; exact hown2)
            have HRN := Lib.hid hRN
            clear hgr hown2 hown hon1 hRN hR1 hB hc
            go_wp2
            go_roundw
            case rel => exact ⟨q + 1, l ++ [p], _, rfl, hqt, hxN, hBN, hcN, hsM, HRN, hoN, hbN, by omega⟩
            case measure => simp [intOf]; omega
        · have e : q = J.length := by omega
          have hcN : Hid (∀ t y, l[t]? = some y → t < i + 1 → ∀ j ∈ J, F (mul y j) = true) := Lib.hid (fun t y hy ht j hj => by
            by_cases e2 : t = i
            · subst e2
              have : y = x := by rw [hx] at hy; injection hy with hy; exact hy.symm
              subst this
              obtain ⟨s, hs1, rfl⟩ := List.getElem_of_mem hj
              exact hs.out s hs1 (by omega)
            · exact hc.out t y hy (by omega) j hj)
          clear hc hs
          subst e
          go_wp2
          exact ⟨⟨i + 1, l, F, rfl, by omega, hB, hcN, hR, by rw [hnl]; exact hown, hbel, hsz⟩, by simp [intOf]; omega⟩
    · have e : i = l.length := by omega
      have hfin : wr.rowIs w.heap.size 4 L.length (fun i => .bool (rchB mul J i)) := hR.out.congr (fun t ht => by
        rw [hB.out.done hm0 (fun i k hi hk => hcl.out i k hi hk) Hmem.out (fun t ht j hj => hc.out t l[t] (List.getElem?_eq_getElem ht) (by omega) j hj) t ht])
      have Hfin := Lib.hid hfin
      clear hfin hR hB hc
      subst e
      go_wp2
      go_ret
      exact ⟨_, rfl, Nat.le_refl _, Hfin.out, hbel⟩
end

section
open Go.RowKit Go.Maps

/-- Whether f is a class form of the discriminant d. -/
def okF (d : Int) (f : Fm) : Bool := isCls f.a f.b f.c && decide (disc f = d)
def SgS (d : Int) (zs : List Fm) : Bool := isDisc d && (decide (zs.length ≤ 20) && zs.all (okF d))
/-- The indices of the classes of some forms. -/
noncomputable def gensN (L : List Fm) (zs : List Fm) : List Nat := zs.map fun f => (gix L (red f)).toNat
theorem gensN_len (L zs : List Fm) : (gensN L zs).length = zs.length := by unfold gensN; simp
theorem gensN_take {L zs : List Fm} {k : Nat} (h : k < zs.length) : gensN L (zs.take (k + 1)) = gensN L (zs.take k) ++ [(gix L (red zs[k])).toNat] := by
  unfold gensN
  rw [List.take_succ_eq_append_getElem h, List.map_append]; rfl
theorem okF_cf {d : Int} {f : Fm} (h : okF d f = true) : CF d f (red f) := by
  unfold okF at h
  simp only [Bool.and_eq_true, decide_eq_true_eq] at h
  have := CF.of_cls h.1
  rw [show disc (⟨f.a, f.b, f.c⟩ : Fm) = d from h.2] at this
  exact this
theorem gensN_lt {d : Int} {L zs : List Fm} (hL : clsL d = L) (h : ∀ f ∈ zs, okF d f = true) : ∀ j ∈ gensN L zs, j < L.length := by
  intro j hj
  obtain ⟨f, hf, rfl⟩ := List.mem_map.1 hj
  have hm := (okF_cf (h f hf)).mem
  rw [hL] at hm
  have := gix_bd hm
  omega
/-- What subgroup gives. -/
def RetSg (d : Int) (L zs : List Fm) (w : World) (e : Ending) (w' : World) : Prop :=
  (SgS d zs = false ∧ e = .returned (.tuple #[.pointer none, .slice none 0 0, .bool false]) ∧ Below w.heap.size w w') ∨
  (SgS d zs = true ∧ ∃ G O, e = .returned (.tuple #[.pointer (some ⟨G, 0, none⟩), .slice (some ⟨O, 0, none⟩) L.length L.length, .bool true]) ∧ Grp L w.heap.size G w' ∧ w.heap.size ≤ O ∧
    w'.rowIs O 4 L.length (fun i => .bool (rchB (mulN d L) (gensN L zs) i)) ∧ Below w.heap.size w w')
def SubSt (d : Int) (L zs : List Fm) (w1 : World) (v vi : Value) (wr : World) : Prop :=
  ∃ k : Nat, vi = .int .i64 k ∧ k ≤ zs.length ∧ Hid (∀ f ∈ zs.take k, okF d f = true) ∧ wr.ownsRow w1.heap.size 3 1 v (nats (gensN L (zs.take k))).length (cellsI (nats (gensN L (zs.take k)))) ∧ w1.heap.size < wr.heap.size ∧ Below w1.heap.size w1 wr

set_option maxRecDepth 100000 in
set_option maxHeartbeats 6400000 in
theorem subgroup_any (d : Int) (L zs : List Fm) (v : Value) (B2 : Nat) (w : World) (hL : clsL d = L) (hzl : zs.length ≤ 2000000) (ho : w.ownsRow B2 36 3 v zs.length (cellsF zs)) :
    Calls Tryz.prog 115 #[.int .i64 d, v] w (RetSg d L zs w) := by
  obtain ⟨bz, cz, rfl⟩ := own_shape ho
  cases hc : isDisc d with
  | false =>
    have hs : SgS d zs = false := by simp [SgS, hc]
    clear ho
    go_enter Tryz.func115, Tryz.ntmps115
    go_wp2_with (go_at_call 76; (with_reducible refine (negDisc_eq d false _ hc).mono ?_); rintro e v ⟨rfl, rfl⟩)
    go_ret3
    exact .inl ⟨hs, rfl, (by repeat (first | with_reducible exact Below.refl _ _ | with_reducible assumption | with_reducible apply Below.drew | with_reducible apply below_drewN | (with_reducible apply below_setp; (first | omega | (simp <;> omega))) | (with_reducible apply below_allocp; (first | omega | (simp <;> omega))) | (with_reducible refine below_viap (by assumption) ?_ ?_; (first | omega | (simp <;> omega)))))⟩
  | true =>
    by_cases h20 : zs.length ≤ 20
    · have D := dsc_of hc
      obtain ⟨i0, hi0, hz0, hz1, hz2⟩ := info_parts infoInt
      have hl : L.length ≤ 100000 := by rw [← hL]; exact Nat.le_trans (clsL_len d) (by decide)
      have hG := Lib.hid (fun w => groupOf_any d w D)
      rw [hL] at hG
      have hgt : ¬ ((20 : Int) < zs.length) := by omega
      have Hz := Lib.hid ho
      have hgen := Lib.hid (fun (B G : Nat) (v : Value) (B2 : Nat) (w : World) hg (hok : ∀ f ∈ zs, okF d f = true) ho => generated_any d L B G (gensN L zs) v B2 w D hL hg (gensN_lt hL hok) (by rw [gensN_len]; exact h20) ho)
      have hyes := Lib.hid (fun (h : ∀ f ∈ zs, okF d f = true) => (show SgS d zs = true from by simp [SgS, hc, h20]; exact h))
      have hno := Lib.hid (fun f (hf : f ∈ zs) (h : okF d f = false) => (show SgS d zs = false from by
        unfold SgS
        have : zs.all (okF d) = false := by rw [List.all_eq_false]; exact ⟨f, hf, by rw [h]; simp⟩
        rw [this]; simp))
      have hidx := Lib.hid (fun f (h : okF d f = true) => (show ∃ (n : Nat) (hn : n < L.length), L[n] = red f ∧ gix L (red f) = n from by
        have hm := (okF_cf h).mem
        rw [hL] at hm
        exact gix_mem hm))
      have hwf := Lib.hid (fun f (h : okF d f = true) => cls_wf D.lo (okF_cf h).mem)
      clear D hL ho
      go_enter Tryz.func115, Tryz.ntmps115
      go_wp2_with (first
        | (go_at_call 76; (with_reducible refine (negDisc_eq d true _ hc).mono ?_); rintro e v ⟨rfl, rfl⟩)
        | (go_at_call 96; refine (hG.out _).mono ?_; rintro e w1 ⟨G, rfl, hg1, hG0, hb1⟩; have hz1' := hb1.size))
      have HG1 := Lib.hid hg1
      clear hg1
      go_loopw [8, 24] (fun v i wr => SubSt d L zs w1 v i wr) (fun _ i _ => zs.length - (intOf i).toNat)
      case atStart => exact ⟨0, rfl, Nat.zero_le _, Lib.hid (by simp), own_empty (Nat.le_refl _), by simp, (by repeat (first | with_reducible exact Below.refl _ _ | with_reducible assumption | with_reducible apply Below.drew | with_reducible apply below_drewN | (with_reducible apply below_setp; (first | omega | (simp <;> omega))) | (with_reducible apply below_allocp; (first | omega | (simp <;> omega))) | (with_reducible refine below_viap (by assumption) ?_ ?_; (first | omega | (simp <;> omega)))))⟩
      case round =>
        obtain ⟨k, rfl, hk, hok, hown, hsz, hbel⟩ := hrel
        have hz := hbel.size
        have hbw : Below w.heap.size w wr := below_via hb1 hbel hz1'
        by_cases hlt : k < zs.length
        · obtain ⟨g, rfl, hg2, d1, d2, d3⟩ := own_elem (own_call hbw Hz.out) hlt
          have hfm := List.getElem_mem hlt
          have hft := gensN_take (L := L) hlt
          have htk := List.take_succ_eq_append_getElem hlt
          generalize zs[k] = f at d1 d2 d3 hfm hft htk
          cases hcf : isCls f.a f.b f.c with
          | false =>
            have hb : okF d f = false := by simp [okF, hcf]
            have hN := hno.out f hfm hb
            clear hft htk hb
            go_wp2_with (go_at_call 93; (with_reducible refine (icls_any f.a f.b f.c _).mono ?_); rw [hcf]; rintro e v2 ⟨rfl, hB2⟩; have hZ2 := hB2.size; (try simp at hZ2); (try have zl2 : w.heap.size < v2.heap.size := by omega); (try have ze2 : w.heap.size ≤ v2.heap.size := by omega); (try have zn2 : ¬ w.heap.size = v2.heap.size := by omega); (try have zm2 : ¬ v2.heap.size = w.heap.size := by omega); have hC2_0 := fun o => (calm_cells hB2).1 (wr.heap.size) o (by first | omega | (simp <;> omega)); have hF2_0 := fun o => (calm_cells hB2).2 (wr.heap.size) o (by first | omega | (simp <;> omega)); (try have hl2_0 : wr.heap.size < v2.heap.size := by omega); (try have hm2_0 : ¬ wr.heap.size = v2.heap.size := by omega); (try have hn2_0 : ¬ v2.heap.size = wr.heap.size := by omega))
            go_ret3
            exact .inl ⟨hN, rfl, (by repeat (first | with_reducible exact Below.refl _ _ | with_reducible assumption | with_reducible apply Below.drew | with_reducible apply below_drewN | (with_reducible apply below_setp; (first | omega | (simp <;> omega))) | (with_reducible apply below_allocp; (first | omega | (simp <;> omega))) | (with_reducible refine below_viap (by assumption) ?_ ?_; (first | omega | (simp <;> omega)))))⟩
          | true =>
            have cf0 : CF (disc f) f (red f) := by have := CF.of_cls hcf; exact this
            have hDf := Lib.hid (fun w => disc_cf (disc f) f (red f) w cf0)
            by_cases hdd : disc f = d
            · have hb : okF d f = true := by simp [okF, hcf, hdd]
              rw [hdd] at hDf cf0
              obtain ⟨n, hn, hnr, hng⟩ := hidx.out f hb
              have hW := hwf.out f hb
              have hRd := Lib.hid (fun w => reduced_cf d f (red f) w cf0)
              have hokN : Hid (∀ x ∈ zs.take (k + 1), okF d x = true) := Lib.hid (by
                intro x hx
                rw [htk] at hx
                rcases List.mem_append.1 hx with hx | hx
                · exact hok.out x hx
                · simp at hx; subst hx; exact hb)
              have hxN : nats (gensN L (zs.take (k + 1))) = nats (gensN L (zs.take k)) ++ [(n : Int)] := by
                rw [hft, nats_snoc, hng]; simp
              have HxN := Lib.hid hxN
              have hQl : (nats (gensN L (zs.take k))).length ≤ 20 := by rw [nats_len, gensN_len, List.length_take]; omega
              generalize nats (gensN L (zs.take k)) = Q at hown HxN hQl
              generalize red f = r at hnr hW hRd
              obtain ⟨base, cap, M, Dm, hblk, _, hmap, hidm⟩ := HG1.out.call hbel
              have hml := hmap.lt
              have Hmap := Lib.hid hmap
              have Hidm := Lib.hid hidm
              have Hnr := Lib.hid hnr
              have hlG := hblk.lt
              clear hft htk hb cf0 hdd hng hxN hok hnr hmap hidm
              go_wp2_with (first
                | (go_at_call 93; (with_reducible refine (icls_any f.a f.b f.c _).mono ?_); rw [hcf]; rintro e v2 ⟨rfl, hB2⟩; have hZ2 := hB2.size; (try simp at hZ2); (try have zl2 : w.heap.size < v2.heap.size := by omega); (try have ze2 : w.heap.size ≤ v2.heap.size := by omega); (try have zn2 : ¬ w.heap.size = v2.heap.size := by omega); (try have zm2 : ¬ v2.heap.size = w.heap.size := by omega); have hA2 : Blk v2 (wr.heap.size) 36 #[.int .i64 f.a, .int .i64 f.b, .int .i64 f.c] := Blk.call (by (repeat (first | with_reducible assumption | (with_reducible apply Blk.new_at; (first | rfl | (simp; done))) | with_reducible apply Blk.store3 | with_reducible apply Blk.store4 | (with_reducible apply Blk.farp; (first | omega | (simp <;> omega))) | with_reducible apply Blk.allocp | with_reducible apply Blk.drew | with_reducible apply Blk.drewN))) hB2; have cA2 := hA2.cell; have fA2 := hA2.frozen; have lA2 := hA2.lt; have mA2 := Nat.ne_of_gt lA2; have nA2 := Nat.ne_of_lt lA2; have hG2 : Blk v2 (G) 111 #[.slice base L.length cap, .map (some M)] := Blk.call (by (repeat (first | with_reducible assumption | (with_reducible apply Blk.new_at; (first | rfl | (simp; done))) | with_reducible apply Blk.store3 | with_reducible apply Blk.store4 | (with_reducible apply Blk.farp; (first | omega | (simp <;> omega))) | with_reducible apply Blk.allocp | with_reducible apply Blk.drew | with_reducible apply Blk.drewN))) hB2; have cG2 := hG2.cell; have fG2 := hG2.frozen; have lG2 := hG2.lt; have mG2 := Nat.ne_of_gt lG2; have nG2 := Nat.ne_of_lt lG2)
                | (go_at_call 109; (with_reducible refine (hDf.out _).mono ?_); rintro e v3 ⟨rfl, hB3⟩; have hZ3 := hB3.size; (try simp at hZ3); (try have zl3 : w.heap.size < v3.heap.size := by omega); (try have ze3 : w.heap.size ≤ v3.heap.size := by omega); (try have zn3 : ¬ w.heap.size = v3.heap.size := by omega); (try have zm3 : ¬ v3.heap.size = w.heap.size := by omega); have hA3 : Blk v3 (wr.heap.size) 36 #[.int .i64 f.a, .int .i64 f.b, .int .i64 f.c] := Blk.call (by (repeat (first | with_reducible assumption | (with_reducible apply Blk.new_at; (first | rfl | (simp; done))) | with_reducible apply Blk.store3 | with_reducible apply Blk.store4 | (with_reducible apply Blk.farp; (first | omega | (simp <;> omega))) | with_reducible apply Blk.allocp | with_reducible apply Blk.drew | with_reducible apply Blk.drewN))) hB3; have cA3 := hA3.cell; have fA3 := hA3.frozen; have lA3 := hA3.lt; have mA3 := Nat.ne_of_gt lA3; have nA3 := Nat.ne_of_lt lA3; have hG3 : Blk v3 (G) 111 #[.slice base L.length cap, .map (some M)] := Blk.call (by (repeat (first | with_reducible assumption | (with_reducible apply Blk.new_at; (first | rfl | (simp; done))) | with_reducible apply Blk.store3 | with_reducible apply Blk.store4 | (with_reducible apply Blk.farp; (first | omega | (simp <;> omega))) | with_reducible apply Blk.allocp | with_reducible apply Blk.drew | with_reducible apply Blk.drewN))) hB3; have cG3 := hG3.cell; have fG3 := hG3.frozen; have lG3 := hG3.lt; have mG3 := Nat.ne_of_gt lG3; have nG3 := Nat.ne_of_lt lG3))
              have hbr3 : Below wr.heap.size wr v3 := below_via (below_via ((Below.refl _ _).alloc (Nat.le_refl _) _) hB2 (by simp)) hB3 (by omega)
              have hmp3 := ownsMap_below Hmap.out hbr3 hml
              have hon3 := own_bel hbr3 (own_lt hown) hown
              go_region_law (first
                | (refine step_append_any (v4.alloc (.cells #[.int .i64 n] 3)) rfl (.tmp 37) (.tmp 45) 32 rfl w1.heap.size 3 i0 _ 1 8 Tryz.underlying32 hi0 hz0 hz1 hz2 rfl (by omega) u8 Q.length (cellsI Q) rfl (own_alloc hon4) (v4.heap.size + 1) (some ⟨v4.heap.size, 0, none⟩) 1 1 [.int .i64 n] rfl ⟨rfl, fun _ => ⟨_, rfl, (by simp), cells1 (Blk.new _ _ _)⟩⟩ (one1 _) (by unfold maxLen; omega) (by omega) (by simp; omega) ?_; intro x2 w2 hown2 hgr2 _)
                | (go_simp; go_wp2_with (go_at_call 94; (with_reducible refine (hRd.out _).mono ?_); rintro e v4 ⟨rfl, hB4⟩; have hZ4 := hB4.size; (try simp at hZ4); have hG4 : Blk v4 G 111 #[.slice base L.length cap, .map (some M)] := Blk.call (Blk.drew hG3) hB4; have cG4 := hG4.cell; have hrun := idx_run (ownsMap_below (World.ownsMap.drew hmp3) hB4 (by simp; omega)) Hidm.out hW hn Hnr.out; have hon4 := own_call hB4 (own_drew hon3))))
              all_goals
                have hgs := hgr2.size
                simp at hgs
                have hoN := own_snocI HxN.out hown2
                have hb4 : Below w1.heap.size w1 v4 := below_via (below_via hbel hbr3 hz).drew hB4 (by simp; omega)
                have hbN : Below w1.heap.size w1 w2 := below_grown (own_ge hown) (by simp; omega) hgr2 (hb4.alloc (by omega) _)
                clear hgr2 hown2 hon3 hon4 hown
                go_wp2
                exact ⟨⟨k + 1, rfl, hlt, hokN, hoN, by omega, hbN⟩, by simp [intOf]; omega⟩
            · have hb : okF d f = false := by simp [okF, hdd]
              have hN := hno.out f hfm hb
              have hdb : (disc f == d) = false := by rw [beq_eq_false_iff_ne]; exact hdd
              generalize disc f = d' at hDf hdb hdd
              clear hft htk hb cf0
              go_wp2_with (first | (go_at_call 93; (with_reducible refine (icls_any f.a f.b f.c _).mono ?_); rw [hcf]; rintro e v2 ⟨rfl, hB2⟩; have hZ2 := hB2.size; (try simp at hZ2); (try have zl2 : w.heap.size < v2.heap.size := by omega); (try have ze2 : w.heap.size ≤ v2.heap.size := by omega); (try have zn2 : ¬ w.heap.size = v2.heap.size := by omega); (try have zm2 : ¬ v2.heap.size = w.heap.size := by omega); have hC2_0 := fun o => (calm_cells hB2).1 (wr.heap.size) o (by first | omega | (simp <;> omega)); have hF2_0 := fun o => (calm_cells hB2).2 (wr.heap.size) o (by first | omega | (simp <;> omega)); (try have hl2_0 : wr.heap.size < v2.heap.size := by omega); (try have hm2_0 : ¬ wr.heap.size = v2.heap.size := by omega); (try have hn2_0 : ¬ v2.heap.size = wr.heap.size := by omega)) | (go_at_call 109; (with_reducible refine (hDf.out _).mono ?_); rintro e v3 ⟨rfl, hB3⟩; have hZ3 := hB3.size; (try simp at hZ3); (try have zl3 : w.heap.size < v3.heap.size := by omega); (try have ze3 : w.heap.size ≤ v3.heap.size := by omega); (try have zn3 : ¬ w.heap.size = v3.heap.size := by omega); (try have zm3 : ¬ v3.heap.size = w.heap.size := by omega); have hC3_0 := fun o => (calm_cells hB3).1 (wr.heap.size) o (by first | omega | (simp <;> omega)); have hF3_0 := fun o => (calm_cells hB3).2 (wr.heap.size) o (by first | omega | (simp <;> omega)); (try have hl3_0 : wr.heap.size < v3.heap.size := by omega); (try have hm3_0 : ¬ wr.heap.size = v3.heap.size := by omega); (try have hn3_0 : ¬ v3.heap.size = wr.heap.size := by omega)))
              go_ret3
              exact .inl ⟨hN, rfl, (by repeat (first | with_reducible exact Below.refl _ _ | with_reducible assumption | with_reducible apply Below.drew | with_reducible apply below_drewN | (with_reducible apply below_setp; (first | omega | (simp <;> omega))) | (with_reducible apply below_allocp; (first | omega | (simp <;> omega))) | (with_reducible refine below_viap (by assumption) ?_ ?_; (first | omega | (simp <;> omega)))))⟩
        · have e : k = zs.length := by omega
          have hx : zs.take k = zs := by rw [e, List.take_length]
          rw [hx] at hown
          have hokA : ∀ f ∈ zs, okF d f = true := fun f hf => hok.out f (by rw [hx]; exact hf)
          have hY := hyes.out hokA
          have hgen2 := Lib.hid (hgen.out _ G u8 _ wr (HG1.out.call hbel) hokA hown)
          subst e
          clear hx hok hown hokA
          go_wp2_with (go_at_call 97; refine hgen2.out.mono ?_; rintro e v5 ⟨O, rfl, hO, hR, hB5⟩; have hZ5 := hB5.size)
          go_ret3
          exact .inr ⟨hY, G, O, rfl, (HG1.out.call hbel).call hB5, by omega, hR, below_via hbw hB5 (by omega)⟩
    · have hs : SgS d zs = false := by simp [SgS, h20]
      have hgt : (20 : Int) < zs.length := by omega
      clear ho
      go_enter Tryz.func115, Tryz.ntmps115
      go_wp2_with (go_at_call 76; (with_reducible refine (negDisc_eq d true _ hc).mono ?_); rintro e v ⟨rfl, rfl⟩)
      go_ret3
      exact .inl ⟨hs, rfl, (by repeat (first | with_reducible exact Below.refl _ _ | with_reducible assumption | with_reducible apply Below.drew | with_reducible apply below_drewN | (with_reducible apply below_setp; (first | omega | (simp <;> omega))) | (with_reducible apply below_allocp; (first | omega | (simp <;> omega))) | (with_reducible refine below_viap (by assumption) ?_ ?_; (first | omega | (simp <;> omega)))))⟩
end

section
open Go.RowKit Go.Maps

/-- The forms whose indices below k bear a mark. -/
def genF (L : List Fm) (p : Nat → Bool) (k : Nat) : List Fm := ((List.range k).filter p).map fun i => L.getD i ⟨0, 0, 0⟩
theorem genF_next {L : List Fm} {p : Nat → Bool} {k : Nat} (h : k < L.length) : genF L p (k + 1) = genF L p k ++ (if p k then [L[k]] else []) := by
  unfold genF
  rw [List.range_succ, List.filter_append, List.map_append]
  congr 1
  cases hp : p k with
  | true => simp [hp, List.getD_eq_getElem?_getD, h]
  | false => simp [hp]
theorem genF_len (L : List Fm) (p : Nat → Bool) (k : Nat) : (genF L p k).length ≤ k := by
  unfold genF
  rw [List.length_map]
  exact Nat.le_trans (List.length_filter_le _ _) (by simp)
/-- What GeneratedClasses gives. -/
def GdL (d : Int) (zs : List Fm) (L : List Fm) (ok : Bool) : Prop :=
  (SgS d zs = false ∧ L = [] ∧ ok = false) ∨ (SgS d zs = true ∧ L = genF (clsL d) (rchB (mulN d (clsL d)) (gensN (clsL d) zs)) (clsL d).length ∧ ok = true)
theorem gdL_ex (d : Int) (zs : List Fm) : ∃ L ok, GdL d zs L ok ∧ L.length ≤ 100000 := by
  cases hc : SgS d zs with
  | false => exact ⟨_, _, .inl ⟨hc, rfl, rfl⟩, by simp⟩
  | true => exact ⟨_, _, .inr ⟨hc, rfl, rfl⟩, Nat.le_trans (genF_len _ _ _) (Nat.le_trans (clsL_len _) (by decide))⟩
def GclSt (L : List Fm) (p : Nat → Bool) (w1 : World) (v vi : Value) (wr : World) : Prop :=
  ∃ k : Nat, vi = .int .i64 k ∧ k ≤ L.length ∧ wr.ownsRow w1.heap.size 36 3 v (genF L p k).length (cellsF (genF L p k)) ∧ Below w1.heap.size w1 wr

set_option maxRecDepth 100000 in
set_option maxHeartbeats 3200000 in
theorem implGd_any (d : Int) (v : Value) (B2 : Nat) (zs L' : List Fm) (ok : Bool) (w : World) (hzl : zs.length ≤ 2000000) (h : GdL d zs L' ok) (ho : w.ownsRow B2 36 3 v zs.length (cellsF zs)) :
    Calls Tryz.prog 45 #[.int .i64 d, v] w (RetFb L' ok w) := by
  have hS0 := subgroup_any d (clsL d) zs v B2 w rfl hzl ho
  clear ho
  rcases h with ⟨hc, rfl, rfl⟩ | ⟨hc, rfl, rfl⟩
  · have hS : Hid (Calls Tryz.prog 115 #[.int .i64 d, v] w fun e w' => e = .returned (.tuple #[.pointer none, .slice none 0 0, .bool false]) ∧ Below w.heap.size w w') := Lib.hid (hS0.mono (fun e w' h => by
      rcases h with ⟨_, a, b⟩ | ⟨a, _⟩
      · exact ⟨a, b⟩
      · rw [hc] at a; cases a))
    clear hS0
    go_enter Tryz.func45, Tryz.ntmps45
    go_wp2_with (go_at_call 115; refine hS.out.mono ?_; rintro e w1 ⟨rfl, hb1⟩; have hz1 := hb1.size)
    go_ret2
    exact ⟨_, rfl, own_empty (by omega), (by repeat (first | with_reducible exact Below.refl _ _ | with_reducible assumption | with_reducible apply Below.drew | with_reducible apply below_drewN | (with_reducible apply below_setp; (first | omega | (simp <;> omega))) | (with_reducible apply below_allocp; (first | omega | (simp <;> omega))) | (with_reducible refine below_viap (by assumption) ?_ ?_; (first | omega | (simp <;> omega)))))⟩
  · obtain ⟨i0, hi, hz0, hz1, hz2⟩ := info_parts infoForm
    have hl : (clsL d).length ≤ 100000 := Nat.le_trans (clsL_len d) (by decide)
    obtain ⟨p, hp⟩ : ∃ p, rchB (mulN d (clsL d)) (gensN (clsL d) zs) = p := ⟨_, rfl⟩
    have hS1 : Calls Tryz.prog 115 #[.int .i64 d, v] w fun e w' => ∃ G O, e = .returned (.tuple #[.pointer (some ⟨G, 0, none⟩), .slice (some ⟨O, 0, none⟩) (clsL d).length (clsL d).length, .bool true]) ∧ Grp (clsL d) w.heap.size G w' ∧ w.heap.size ≤ O ∧
        w'.rowIs O 4 (clsL d).length (fun i => .bool (rchB (mulN d (clsL d)) (gensN (clsL d) zs) i)) ∧ Below w.heap.size w w' := hS0.mono (fun e w' h => by
      rcases h with ⟨a, _⟩ | ⟨_, b⟩
      · rw [hc] at a; cases a
      · exact b)
    rw [hp] at hS1 ⊢
    have hS := Lib.hid hS1
    clear hS0 hS1 hp
    generalize clsL d = L at *
    go_enter Tryz.func45, Tryz.ntmps45
    go_wp2_with (go_at_call 115; refine hS.out.mono ?_; rintro e w1 ⟨G, O, rfl, hg, hO, hR, hb1⟩; have hz1' := hb1.size; obtain ⟨base, cap, M, Dm, hblk, howl, _, _⟩ := hg; have cG := hblk.cell; have fG := hblk.frozen; have lG := hblk.lt; have nG := Nat.ne_of_lt lG)
    have HR := Lib.hid hR
    have HL := Lib.hid howl
    have lO := hR.lt
    clear hR howl
    go_loopw [9, 28] (fun v i wr => GclSt L p w1 v i wr) (fun _ i _ => L.length - (intOf i).toNat)
    case atStart => exact ⟨0, rfl, Nat.zero_le _, own_empty (Nat.le_refl _), (by repeat (first | with_reducible exact Below.refl _ _ | with_reducible assumption | with_reducible apply Below.drew | with_reducible apply below_drewN | (with_reducible apply below_setp; (first | omega | (simp <;> omega))) | (with_reducible apply below_allocp; (first | omega | (simp <;> omega))) | (with_reducible refine below_viap (by assumption) ?_ ?_; (first | omega | (simp <;> omega)))))⟩
    case round =>
      obtain ⟨k, rfl, hk, hown, hbel⟩ := hrel
      have hz := hbel.size
      by_cases hlt : k < L.length
      · obtain ⟨g, rfl, hg2, d1, d2, d3⟩ := own_elem (own_call hbel HL.out) hlt
        have cR := (HR.out.of_block (hbel.block O lO)).cell hlt
        have hnx := genF_next (p := p) hlt
        have hql : (genF L p k).length ≤ 100000 := Nat.le_trans (genF_len _ _ _) (by omega)
        generalize L[k] = f at d1 d2 d3 hnx
        have nO : ¬ O = wr.heap.size := by omega
        have pO : O < wr.heap.size := by omega
        have oO : O < wr.heap.size + 1 := by omega
        generalize genF L p k = Q at hown hnx hql
        cases hpk : p k with
        | true =>
          have hx : Hid (genF L p (k + 1) = Q ++ [f]) := Lib.hid (by rw [hnx, hpk]; rfl)
          simp only [hpk] at cR
          clear hnx hpk
          go_wp2_with (at_builtin; refine wpList_append_own_at _ rfl (.tmp 37) (.tmp 39) 25 rfl w1.heap.size 36 i0 _ 3 24 Tryz.underlying25 hi hz0 hz1 hz2 rfl (by decide) u9 Q.length (cellsF Q) rfl ?_ ⟨wr.heap.size + 1, 0, none⟩ 1 1 [.int .i64 f.a, .int .i64 f.b, .int .i64 f.c] rfl rfl ?_ (one3 _ _ _) ?_ ?_ ?_ ?_; exact (by repeat (first | with_reducible assumption | with_reducible apply own_alloc | with_reducible apply own_drew | with_reducible apply own_drewN | (with_reducible refine own_setp (by assumption) ?_ ?_; (first | omega | (simp <;> omega))) | (with_reducible refine own_call (by assumption) ?_))); exact cells3 (Blk.new_at (by simp)); (unfold maxLen; omega); omega; (simp; omega); intro x2 w2 hown2 hgr _ hloc)
          have hb2 : Below w1.heap.size w1 w2 := below_grown (own_ge hown) (by simp; omega) hgr (by repeat (first | with_reducible exact Below.refl _ _ | with_reducible assumption | with_reducible apply Below.drew | with_reducible apply below_drewN | (with_reducible apply below_setp; (first | omega | (simp <;> omega))) | (with_reducible apply below_allocp; (first | omega | (simp <;> omega))) | (with_reducible refine below_viap (by assumption) ?_ ?_; (first | omega | (simp <;> omega)))))
          have ho2 := own_snoc (L := Q) (f := f) (K := genF L p (k + 1)) hx.out hown2
          clear hgr hown2 hown hbel hloc
          go_wp2
          go_roundw
          case rel => exact ⟨k + 1, rfl, hlt, ho2, hb2⟩
          case measure => simp [intOf]; omega
        | false =>
          have hx : Hid (genF L p (k + 1) = Q) := Lib.hid (by rw [hnx, hpk]; simp)
          simp only [hpk] at cR
          clear hnx hpk
          go_wp2
          go_roundw
          case rel => exact ⟨k + 1, rfl, hlt, by rw [hx.out]; exact own_alloc hown, (by repeat (first | with_reducible exact Below.refl _ _ | with_reducible assumption | with_reducible apply Below.drew | with_reducible apply below_drewN | (with_reducible apply below_setp; (first | omega | (simp <;> omega))) | (with_reducible apply below_allocp; (first | omega | (simp <;> omega))) | (with_reducible refine below_viap (by assumption) ?_ ?_; (first | omega | (simp <;> omega)))))⟩
          case measure => simp [intOf]; omega
      · have e : k = L.length := by omega
        subst e
        go_wp2
        go_ret2
        exact ⟨_, rfl, own_base hz1' hown, below_via hb1 hbel hz1'⟩
end
end Go.Proofs.YteehcjjhkphdnaaGreat
