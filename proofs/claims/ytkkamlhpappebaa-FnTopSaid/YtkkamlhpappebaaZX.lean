/- Parts Z2 Z3 Z4 laid together by tp.py. -/
import Derived.Test.YtkkamlhpappebaaZ1
import Derived.Test.YtkkamlhpappebaaTX
import Derived.Test.YtkkamlhpappebaaTZ
import Derived.Test.YtkkamlhpappebaaK7
import Derived.Test.YtkkamlhpappebaaW4
import Derived.Deep.RegionLaw
namespace Go.Proofs.Ytkkamlhpappebaa
section
open Go.RowKit Go.Maps

theorem infoBool : (Try.prog.info? 4).map (fun i => (i.zero, i.size, i.bytes)) = some (some (.bool false), 1, 1) := by kernel_rfl
/-- The index of the composite. -/
noncomputable def mulN (d : Int) (L : List Fm) (i k : Nat) : Nat := (gix L (cmp d (L.getD i ⟨0, 0, 0⟩) (L.getD k ⟨0, 0, 0⟩))).toNat
theorem getD_at {L : List Fm} {i : Nat} (h : i < L.length) : L.getD i ⟨0, 0, 0⟩ = L[i] := by simp [List.getD_eq_getElem?_getD, h]
theorem mulN_eq {d : Int} {L : List Fm} {i k : Nat} (hD : Dsc d) (hL : clsL d = L) (hi : i < L.length) (hk : k < L.length) : gix L (cmp d L[i] L[k]) = (mulN d L i k : Int) ∧ mulN d L i k < L.length := by
  have h1 : L[i] ∈ clsL d := by rw [hL]; exact List.getElem_mem hi
  have h2 : L[k] ∈ clsL d := by rw [hL]; exact List.getElem_mem hk
  have h3 := hD.cmpm h1 h2
  rw [hL] at h3
  have := gix_bd h3
  unfold mulN
  rw [getD_at hi, getD_at hk]
  omega
theorem gtimes_n (d : Int) (i k : Nat) (L : List Fm) (B G : Nat) (w : World) (hD : Dsc d) (hL : clsL d = L) (hi : i < L.length) (hk : k < L.length) (hg : Grp L B G w) :
    Calls Try.prog 145 #[.pointer (some ⟨G, 0, none⟩), .int .i64 i, .int .i64 k] w fun e w' => e = .returned (.int .i64 (mulN d L i k : Nat)) ∧ Below w.heap.size w w' := by
  have h := gtimes_any d i k L B G w hD hL hi hk hg
  rw [(mulN_eq hD hL hi hk).1] at h
  exact h
/-- A list of marks in new memory. -/
def RetBo (F : Nat → Bool) (m : Nat) (w : World) (e : Ending) (w' : World) : Prop :=
  ∃ O, e = .returned (.slice (some ⟨O, 0, none⟩) m m) ∧ w.heap.size ≤ O ∧ w'.rowIs O 4 m (fun i => .bool (F i)) ∧ Below w.heap.size w w'
def GnSt (mul : Nat → Nat → Nat) (J : List Nat) (m : Nat) (w : World) (v vi : Value) (wr : World) : Prop :=
  ∃ (i : Nat) (l : List Nat) (F : Nat → Bool), vi = .int .i64 i ∧ i ≤ l.length ∧ Hid (Brd mul J m l F) ∧ Hid (∀ t y, l[t]? = some y → t < i → ∀ j ∈ J, F (mul y j) = true) ∧
    Hid (wr.rowIs w.heap.size 4 m (fun i => .bool (F i))) ∧ wr.ownsRow (w.heap.size + 1) 3 1 v (nats l).length (cellsI (nats l)) ∧ Below w.heap.size w wr ∧ w.heap.size < wr.heap.size
def GnIn (mul : Nat → Nat → Nat) (J : List Nat) (m i x : Nat) (w : World) (v vq : Value) (wr : World) : Prop :=
  ∃ (q : Nat) (l : List Nat) (F : Nat → Bool), vq = .int .i64 q ∧ q ≤ J.length ∧ l[i]? = some x ∧ Hid (Brd mul J m l F) ∧ Hid (∀ t y, l[t]? = some y → t < i → ∀ j ∈ J, F (mul y j) = true) ∧
    Hid (∀ s (h : s < J.length), s < q → F (mul x J[s]) = true) ∧
    Hid (wr.rowIs w.heap.size 4 m (fun i => .bool (F i))) ∧ wr.ownsRow (w.heap.size + 1) 3 1 v (nats l).length (cellsI (nats l)) ∧ Below w.heap.size w wr ∧ w.heap.size < wr.heap.size

set_option maxRecDepth 100000 in
set_option maxHeartbeats 6400000 in
theorem generated_any (d : Int) (L : List Fm) (B G : Nat) (J : List Nat) (v : Value) (B2 : Nat) (w : World) (hD : Dsc d) (hL : clsL d = L) (hg : Grp L B G w) (hJ : ∀ j ∈ J, j < L.length) (hJl : J.length ≤ 20)
    (ho : w.ownsRow B2 3 1 v (nats J).length (cellsI (nats J))) :
    Calls Try.prog 196 #[.pointer (some ⟨G, 0, none⟩), v] w (RetBo (rchB (mulN d L) J) L.length w) := by
  obtain ⟨i0, hi0, hz0, hz1, hz2⟩ := info_parts infoInt
  have hl : L.length ≤ 100000 := by rw [← hL]; exact Nat.le_trans (clsL_len d) (by decide)
  have hm0 : 0 < L.length := by
    obtain ⟨L', h⟩ := cls_head hD
    rw [← hL, h]; simp
  have hT := Lib.hid (fun (i k : Nat) (hi : i < L.length) (hk : k < L.length) (w : World) hg => gtimes_n d i k L B G w hD hL hi hk hg)
  have hcl := Lib.hid (fun (i k : Nat) (hi : i < L.length) (hk : k < L.length) => (mulN_eq hD hL hi hk).2)
  obtain ⟨bJ, cJ, rfl⟩ := own_shape ho
  have HJ := Lib.hid ho
  have HG := Lib.hid hg
  have Hmem := Lib.hid hJ
  obtain ⟨base, cap, M, D, hblk, _, _, _⟩ := hg
  have cG := hblk.cell; have fG := hblk.frozen; have lG := hblk.lt
  have hmk := run_make_row' (P := Try.prog) 159 4 (.bool false) 1 Try.underlying159 infoBool rfl .i64 .i64 L.length (by omega) (by omega)
  have hnl := nats_len J
  rw [hnl] at HJ ⊢
  generalize mulN d L = mul at *
  clear hD hL hblk ho hJ hnl
  go_enter Try.func196, Try.ntmps196
  have hrw := World.rowIs_made w (.bool false) L.length 4
  have c0 := hrw.cell hm0
  have f0 := hrw.frozen 0
  go_wp2
  have hR0 : (w.alloc (.cells ((madeCells #[.bool false] L.length).setIfInBounds 0 (.bool true)) 4)).rowIs w.heap.size 4 L.length (fun i => .bool (decide (i = 0))) := by
    have h := World.rowIs_alloc w ((madeCells #[.bool false] L.length).setIfInBounds 0 (.bool true)) 4 (fun i => .bool (decide (i = 0))) (fun i hi => by
      simp [size_madeCells] at hi
      rw [Array.getElem?_setIfInBounds]
      by_cases e : i = 0
      · subst e; simp [size_madeCells, hm0]
      · rw [if_neg (fun h => e h.symm)]
        simp [madeCells, hi, Nat.mod_one, e])
    simpa [size_madeCells] using h
  have hR1 := hR0.alloc (.cells #[.int .i64 0] 3)
  have hln : ((w.alloc (.cells ((madeCells #[.bool false] L.length).setIfInBounds 0 (.bool true)) 4)).alloc (.cells #[.int .i64 0] 3)).ownsRow (w.heap.size + 1) 3 1 (.slice (some ⟨w.heap.size + 1, 0, none⟩) 1 1) (nats [0]).length (cellsI (nats [0])) := by
    have h := own_one (w := w.alloc (.cells ((madeCells #[.bool false] L.length).setIfInBounds 0 (.bool true)) 4)) (e := 3) (u := .int .i64 0) (B := w.heap.size + 1) (by simp)
    simp at h
    exact h
  have HR1 := Lib.hid hR1
  clear hrw c0 f0 hR0 hR1
  go_loopw [6, 7] (fun v i wr => GnSt mul J L.length w v i wr) (fun _ i _ => L.length - (intOf i).toNat)
  case atStart => exact ⟨0, [0], _, rfl, Nat.zero_le _, Lib.hid (Brd.start hm0), Lib.hid (fun _ _ _ h => absurd h (Nat.not_lt_zero _)), HR1, hln, (by repeat (first | with_reducible exact Below.refl _ _ | with_reducible assumption | with_reducible apply Below.drew | with_reducible apply below_drewN | (with_reducible apply below_setp; (first | omega | (simp <;> omega))) | (with_reducible apply below_allocp; (first | omega | (simp <;> omega))) | (with_reducible refine below_viap (by assumption) ?_ ?_; (first | omega | (simp <;> omega))))), by simp; omega⟩
  case round =>
    clear HR1 hln
    obtain ⟨i, l, F, rfl, hi, hB, hc, hR, hown, hbel, hsz⟩ := hrel
    have hz := hbel.size
    have hll := hB.out.len
    have hnl := nats_len l
    obtain ⟨lb, lc, rfl⟩ := own_shape hown
    rw [hnl] at hown ⊢
    by_cases hlt : i < l.length
    · obtain ⟨x, hx⟩ : ∃ x, l[i]? = some x := ⟨_, List.getElem?_eq_getElem hlt⟩
      have hxm : x < L.length := (hB.out.ok x (List.mem_of_getElem? hx)).1
      have hxr : Rch mul J x := (hB.out.ok x (List.mem_of_getElem? hx)).2.2
      go_wp2
      obtain ⟨wo, rfl⟩ : ∃ wo : World, wo = wr := ⟨_, rfl⟩
      go_loopw [6, 28] (fun v q wr => GnIn mul J L.length i x w v q wr) (fun _ q _ => J.length - (intOf q).toNat)
      case atStart => exact ⟨0, l, F, rfl, Nat.zero_le _, hx, hB, hc, Lib.hid (fun _ _ h => absurd h (Nat.not_lt_zero _)), hR, by rw [hnl]; exact hown, hbel, hsz⟩
      case round =>
        clear hB hc hR hown hbel hsz hz hll hnl hlt hi hx
        obtain ⟨q, l, F, rfl, hq, hx, hB, hc, hs, hR, hown, hbel, hsz⟩ := hrel
        have hz := hbel.size
        have hll := hB.out.len
        have hnl := nats_len l
        have hlt : i < l.length := (List.getElem?_eq_some_iff.1 hx).1
        obtain ⟨lb, lc, rfl⟩ := own_shape hown
        rw [hnl] at hown ⊢
        by_cases hqt : q < J.length
        · have hjm := Hmem.out J[q] (List.getElem_mem hqt)
          obtain ⟨g1, rfl, l1, k1⟩ := own_elemI (n := J.length) (L := nats J) (by rw [nats_len]; exact own_call hbel HJ.out) (k := q) (by rw [nats_len]; exact hqt)
          rw [(nats_get J hqt).2] at k1
          obtain ⟨g2, rfl, l2, k2⟩ := own_elemI (n := l.length) (L := nats l) (by rw [nats_len]; exact hown) (k := i) (by rw [nats_len]; exact hlt)
          rw [(nats_get l hlt).2, (List.getElem?_eq_some_iff.1 hx).2] at k2
          have hT2 := Lib.hid (hT.out x J[q] hxm hjm)
          have hpm := hcl.out x J[q] hxm hjm
          have hpr : Rch mul J (mul x J[q]) := hxr.step (List.getElem_mem hqt)
          have hsN := Lib.hid (fun (F' : Nat → Bool) (h1 : ∀ y, F y = true → F' y = true) (h2 : F' (mul x J[q]) = true) => (show ∀ s (h : s < J.length), s < q + 1 → F' (mul x J[s]) = true from fun s hs' hlt' => if e : s = q then (by subst e; exact h2) else h1 _ (hs.out s hs' (by omega))))
          generalize J[q] = j at k1 hT2 hpm hpr hsN
          generalize mul x j = p at hT2 hpm hpr hsN
          have hg2O : g2 ≠ w.heap.size := by have := own_ge hown g2 rfl; omega
          clear hs hjm
          by_cases hF : F p = true
          · have hsM := Lib.hid (hsN.out F (fun _ h => h) hF)
            clear hsN
            go_wp2_with (go_at_call 145; refine (hT2.out _ (HG.out.call hbel)).mono ?_; rintro e v1 ⟨rfl, hB1⟩; have hZ1 := hB1.size; have hR1 := hR.out.of_block (hB1.block w.heap.size (by omega)); have cR1 := hR1.cell hpm; simp only [hF] at cR1)
            have hon1 := own_call hB1 hown
            go_roundw
            case rel => exact ⟨q + 1, l, F, rfl, hqt, hx, hB, hc, hsM, Lib.hid hR1, by rw [hnl]; exact hon1, below_via hbel hB1 (by omega), by omega⟩
            case measure => simp [intOf]; omega
          · have hF2 : F p = false := by simpa using hF
            have hsM := Lib.hid (hsN.out (fun i => if i = p then true else F i) (fun y h => by simp only [h]; simp) (by simp))
            clear hsN hF
            go_wp2_with (first
              | (go_at_call 145; refine (hT2.out _ (HG.out.call hbel)).mono ?_; rintro e v1 ⟨rfl, hB1⟩; have hZ1 := hB1.size; have hR1 := hR.out.of_block (hB1.block w.heap.size (by omega)); have cR1 := hR1.cell hpm; simp only [hF2] at cR1; have fR1 := hR1.frozen p; have hon1 := own_set_ne (p := ⟨w.heap.size, p, none⟩) (u := .bool true) (fun q hq he => by (have h9 := own_ge hown q hq; simp at he; omega)) (own_call hB1 hown))
              | (at_builtin; refine wpList_append_own_at _ rfl (.tmp 47) (.tmp 49) 30 rfl (w.heap.size + 1) 3 i0 _ 1 8 Try.underlying30 hi0 hz0 hz1 hz2 rfl (by decide) (.slice (some ⟨g2, 0, none⟩) l.length lc) l.length (cellsI (nats l)) rfl ?_ ⟨v1.heap.size, 0, none⟩ 1 1 [.int .i64 p] rfl rfl ?_ (one1 _) ?_ ?_ ?_ ?_; exact own_alloc hon1; exact cells1 (Blk.new_at (by simp)); (unfold maxLen; omega); omega; (simp; omega); intro x2 w2 hown2 hgr _ _))
            have hgs := hgr.size
            simp at hgs
            have hRN := (((hR1.set p (.bool true)).alloc (.cells #[.int .i64 p] 3)).of_block (hgr.block w.heap.size (by simp; omega) (fun he => hg2O (by injection he with he; exact he.symm)))).congr (g := fun i => .bool (if i = p then true else F i)) (fun t _ => by by_cases e : t = p <;> simp [e])
            have hbN : Below w.heap.size w w2 := below_grown (fun q hq => by have := own_ge hown q hq; omega) (by simp; omega) hgr (by repeat (first | with_reducible exact Below.refl _ _ | with_reducible assumption | with_reducible apply Below.drew | with_reducible apply below_drewN | (with_reducible apply below_setp; (first | omega | (simp <;> omega))) | (with_reducible apply below_allocp; (first | omega | (simp <;> omega))) | (with_reducible refine below_viap (by assumption) ?_ ?_; (first | omega | (simp <;> omega)))))
            have hBN := Lib.hid (hB.out.add hpm hF2 hpr)
            have hcN : Hid (∀ t y, (l ++ [p])[t]? = some y → t < i → ∀ j ∈ J, (fun i => if i = p then true else F i) (mul y j) = true) := Lib.hid (fun t y hy ht j hj => by
              rw [List.getElem?_append_left (by omega)] at hy
              have := hc.out t y hy ht j hj
              simp only [this]; simp)
            have hxN : (l ++ [p])[i]? = some x := by rw [List.getElem?_append_left hlt]; exact hx
            have hoN := own_snocI (K := nats (l ++ [p])) (nats_snoc l p) (by rw [hnl]; exact hown2)
            have HRN := Lib.hid hRN
            clear hgr hown2 hown hon1 hRN hR1 hB hc
            go_wp2
            go_roundw
            case rel => exact ⟨q + 1, l ++ [p], _, rfl, hqt, hxN, hBN, hcN, hsM, HRN, hoN, hbN, by omega⟩
            case measure => simp [intOf]; omega
        · have e : q = J.length := by omega
          have hcN : Hid (∀ t y, l[t]? = some y → t < i + 1 → ∀ j ∈ J, F (mul y j) = true) := Lib.hid (fun t y hy ht j hj => by
            by_cases e2 : t = i
            · subst e2
              have : y = x := by rw [hx] at hy; injection hy with hy; exact hy.symm
              subst this
              obtain ⟨s, hs1, rfl⟩ := List.getElem_of_mem hj
              exact hs.out s hs1 (by omega)
            · exact hc.out t y hy (by omega) j hj)
          clear hc hs
          subst e
          go_wp2
          exact ⟨⟨i + 1, l, F, rfl, by omega, hB, hcN, hR, by rw [hnl]; exact hown, hbel, hsz⟩, by simp [intOf]; omega⟩
    · have e : i = l.length := by omega
      have hfin : wr.rowIs w.heap.size 4 L.length (fun i => .bool (rchB mul J i)) := hR.out.congr (fun t ht => by
        rw [hB.out.done hm0 (fun i k hi hk => hcl.out i k hi hk) Hmem.out (fun t ht j hj => hc.out t l[t] (List.getElem?_eq_getElem ht) (by omega) j hj) t ht])
      have Hfin := Lib.hid hfin
      clear hfin hR hB hc
      subst e
      go_wp2
      go_ret
      exact ⟨_, rfl, Nat.le_refl _, Hfin.out, hbel⟩
end

section
open Go.RowKit Go.Maps

/-- Whether f is a class form of the discriminant d. -/
def okF (d : Int) (f : Fm) : Bool := isCls f.a f.b f.c && decide (disc f = d)
def SgS (d : Int) (zs : List Fm) : Bool := isDisc d && (decide (zs.length ≤ 20) && zs.all (okF d))
/-- The indices of the classes of some forms. -/
noncomputable def gensN (L : List Fm) (zs : List Fm) : List Nat := zs.map fun f => (gix L (red f)).toNat
theorem gensN_len (L zs : List Fm) : (gensN L zs).length = zs.length := by unfold gensN; simp
theorem gensN_take {L zs : List Fm} {k : Nat} (h : k < zs.length) : gensN L (zs.take (k + 1)) = gensN L (zs.take k) ++ [(gix L (red zs[k])).toNat] := by
  unfold gensN
  rw [List.take_succ_eq_append_getElem h, List.map_append]; rfl
theorem okF_cf {d : Int} {f : Fm} (h : okF d f = true) : CF d f (red f) := by
  unfold okF at h
  simp only [Bool.and_eq_true, decide_eq_true_eq] at h
  have := CF.of_cls h.1
  rw [show disc (⟨f.a, f.b, f.c⟩ : Fm) = d from h.2] at this
  exact this
theorem gensN_lt {d : Int} {L zs : List Fm} (hL : clsL d = L) (h : ∀ f ∈ zs, okF d f = true) : ∀ j ∈ gensN L zs, j < L.length := by
  intro j hj
  obtain ⟨f, hf, rfl⟩ := List.mem_map.1 hj
  have hm := (okF_cf (h f hf)).mem
  rw [hL] at hm
  have := gix_bd hm
  omega
/-- What subgroup gives. -/
def RetSg (d : Int) (L zs : List Fm) (w : World) (e : Ending) (w' : World) : Prop :=
  (SgS d zs = false ∧ e = .returned (.tuple #[.pointer none, .slice none 0 0, .bool false]) ∧ Below w.heap.size w w') ∨
  (SgS d zs = true ∧ ∃ G O, e = .returned (.tuple #[.pointer (some ⟨G, 0, none⟩), .slice (some ⟨O, 0, none⟩) L.length L.length, .bool true]) ∧ Grp L w.heap.size G w' ∧ w.heap.size ≤ O ∧
    w'.rowIs O 4 L.length (fun i => .bool (rchB (mulN d L) (gensN L zs) i)) ∧ Below w.heap.size w w')
def SubSt (d : Int) (L zs : List Fm) (w1 : World) (v vi : Value) (wr : World) : Prop :=
  ∃ k : Nat, vi = .int .i64 k ∧ k ≤ zs.length ∧ Hid (∀ f ∈ zs.take k, okF d f = true) ∧ wr.ownsRow w1.heap.size 3 1 v (nats (gensN L (zs.take k))).length (cellsI (nats (gensN L (zs.take k)))) ∧ w1.heap.size < wr.heap.size ∧ Below w1.heap.size w1 wr

end

section
open Go.RowKit Go.Maps

/-- The forms whose indices below k bear a mark. -/
def genF (L : List Fm) (p : Nat → Bool) (k : Nat) : List Fm := ((List.range k).filter p).map fun i => L.getD i ⟨0, 0, 0⟩
theorem genF_next {L : List Fm} {p : Nat → Bool} {k : Nat} (h : k < L.length) : genF L p (k + 1) = genF L p k ++ (if p k then [L[k]] else []) := by
  unfold genF
  rw [List.range_succ, List.filter_append, List.map_append]
  congr 1
  cases hp : p k with
  | true => simp [hp, List.getD_eq_getElem?_getD, h]
  | false => simp [hp]
theorem genF_len (L : List Fm) (p : Nat → Bool) (k : Nat) : (genF L p k).length ≤ k := by
  unfold genF
  rw [List.length_map]
  exact Nat.le_trans (List.length_filter_le _ _) (by simp)
/-- What GeneratedClasses gives. -/
def GdL (d : Int) (zs : List Fm) (L : List Fm) (ok : Bool) : Prop :=
  (SgS d zs = false ∧ L = [] ∧ ok = false) ∨ (SgS d zs = true ∧ L = genF (clsL d) (rchB (mulN d (clsL d)) (gensN (clsL d) zs)) (clsL d).length ∧ ok = true)
theorem gdL_ex (d : Int) (zs : List Fm) : ∃ L ok, GdL d zs L ok ∧ L.length ≤ 100000 := by
  cases hc : SgS d zs with
  | false => exact ⟨_, _, .inl ⟨hc, rfl, rfl⟩, by simp⟩
  | true => exact ⟨_, _, .inr ⟨hc, rfl, rfl⟩, Nat.le_trans (genF_len _ _ _) (Nat.le_trans (clsL_len _) (by decide))⟩
def GclSt (L : List Fm) (p : Nat → Bool) (w1 : World) (v vi : Value) (wr : World) : Prop :=
  ∃ k : Nat, vi = .int .i64 k ∧ k ≤ L.length ∧ wr.ownsRow w1.heap.size 35 3 v (genF L p k).length (cellsF (genF L p k)) ∧ Below w1.heap.size w1 wr

end
end Go.Proofs.Ytkkamlhpappebaa
