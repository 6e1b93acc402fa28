/- Contracts of RelationSize, of the reference. -/
import Derived.Test.YtcijjnjgifoipaaPD
import Derived.Test.YtcijjnjgifoipaaK9
import Derived.Test.YtcijjnjgifoipaaSA
import Derived.Deep.DeepCutAuto
import Derived.Deep.CutRange
namespace Go.Proofs.Ytcijjnjgifoipaa
open Go.RowKit Go.Maps

set_option maxRecDepth 100000 in
set_option maxHeartbeats 1600000 in
theorem cyHas_any (v : Value) (B : Nat) (L : List Fm) (f : Fm) (w : World) (hl : L.length ≤ 100000) (h : w.ownsRow B 32 3 v L.length (cellsF L)) :
    Calls Try.prog 40 #[v, .agg #[.int .i64 f.a, .int .i64 f.b, .int .i64 f.c]] w fun e w' => e = .returned (.bool (hasF L f)) ∧ Below w.heap.size w w' := by
  obtain ⟨base, cap, rfl⟩ := own_shape h
  have H := Lib.hid h
  clear h
  go_enter Try.func40, Try.ntmps40
  go_wp2
  go_loopw [9] (fun i wr => GixSt L f B (.slice base L.length cap) w i wr) (fun i _ => L.length - (intOf i).toNat)
  case atStart => exact ⟨0, rfl, Nat.zero_le _, Lib.hid (fun j _ hj => absurd hj (Nat.not_lt_zero _)), own_alloc H.out, Blk.new _ _ _, (by repeat (first | with_reducible exact Below.refl _ _ | with_reducible assumption | with_reducible apply Below.drew | with_reducible apply below_drewN | (with_reducible apply below_setp; (first | omega | (simp <;> omega))) | (with_reducible apply below_allocp; (first | omega | (simp <;> omega))) | (with_reducible refine below_viap (by assumption) ?_ ?_; (first | omega | (simp <;> omega)))))⟩
  case round =>
    clear H
    obtain ⟨k, rfl, hk, hno, howl, hblk, hbel⟩ := hrel
    have hz := hbel.size
    have hC := hblk.cell; have hF := hblk.frozen; have hlt0 := hblk.lt
    by_cases hlt : k < L.length
    · obtain ⟨g, rfl, hg2, d1, d2, d3⟩ := own_elem howl hlt
      have hm := List.getElem_mem hlt
      have hnx := Lib.hid (fun (e : L[k] ≠ f) => (show ∀ j (h : j < L.length), j < k + 1 → L[j] ≠ f from fun j h hj => if he : j = k then (by subst he; exact e) else hno.out j h (by omega)))
      generalize L[k] = r at d1 d2 d3 hm hnx
      rcases fm_cases f r with ⟨rfl, hv⟩ | ⟨hv, e1⟩ | ⟨hv, e1, e2⟩ | ⟨hv, e1, e2, e3⟩
      · have Hat := Lib.hid (hasF_yes hm)
        clear hm hnx hv
        go_wp2
        go_ret
        exact ⟨ret_bool Hat.out.symm, (by repeat (first | with_reducible exact Below.refl _ _ | with_reducible assumption | with_reducible apply Below.drew | with_reducible apply below_drewN | (with_reducible apply below_setp; (first | omega | (simp <;> omega))) | (with_reducible apply below_allocp; (first | omega | (simp <;> omega))) | (with_reducible refine below_viap (by assumption) ?_ ?_; (first | omega | (simp <;> omega)))))⟩
      all_goals
        have Hnx := Lib.hid (hnx.out (Ne.symm ((fmEq_no _ _).1 hv)))
        clear hm hnx hv hno
        go_wp2
        exact ⟨⟨k + 1, rfl, hlt, Hnx, own_alloc howl, Blk.allocp hblk, (by repeat (first | with_reducible exact Below.refl _ _ | with_reducible assumption | with_reducible apply Below.drew | with_reducible apply below_drewN | (with_reducible apply below_setp; (first | omega | (simp <;> omega))) | (with_reducible apply below_allocp; (first | omega | (simp <;> omega))) | (with_reducible refine below_viap (by assumption) ?_ ?_; (first | omega | (simp <;> omega)))))⟩, by simp [intOf]; omega⟩
    · have Hno := Lib.hid (hasF_no (L := L) (f := f) (fun j h => hno.out j h (by omega)))
      clear hno
      go_wp2
      go_ret
      exact ⟨ret_bool Hno.out.symm, hbel⟩

theorem own_oneF2 {w : World} {B : Nat} {e : TypeId} {f : Fm} (hB : B ≤ w.heap.size) : (w.alloc (.cells #[.int .i64 f.a, .int .i64 f.b, .int .i64 f.c] e)).ownsRow B e 3 (.slice (some ⟨w.heap.size, 0, none⟩) 1 1) [f].length (cellsF [f]) :=
  ⟨rfl, .inr ⟨w.heap.size, 1, #[.int .i64 f.a, .int .i64 f.b, .int .i64 f.c], rfl, hB, heap_alloc_new w _, Nat.le_refl _, by unfold maxLen; omega, rfl, rfl⟩⟩
/-- The forms at some indices. -/
def atL (L : List Fm) (l : List Nat) : List Fm := l.map fun x => L.getD x ⟨0, 0, 0⟩
theorem atL_len (L : List Fm) (l : List Nat) : (atL L l).length = l.length := by simp [atL]
theorem atL_snoc (L : List Fm) (l : List Nat) (p : Nat) : atL L (l ++ [p]) = atL L l ++ [L.getD p ⟨0, 0, 0⟩] := by simp [atL]
theorem atL_has {L : List Fm} {l : List Nat} {p : Nat} (hn : L.Pairwise (· ≠ ·)) (hl : ∀ x ∈ l, x < L.length) (hp : p < L.length) : hasF (atL L l) (L.getD p ⟨0, 0, 0⟩) = decide (p ∈ l) := by
  by_cases h : p ∈ l
  · rw [decide_eq_true h]
    exact hasF_yes (List.mem_map.2 ⟨p, h, rfl⟩)
  · rw [decide_eq_false h]
    refine hasF_no fun j hj he => ?_
    rw [atL_len] at hj
    have hx := hl l[j] (List.getElem_mem hj)
    simp only [atL, List.getElem_map] at he
    rw [getD_at hx, getD_at hp] at he
    have hne : l[j] ≠ p := fun e => h (e ▸ List.getElem_mem hj)
    rw [List.pairwise_iff_getElem] at hn
    rcases Nat.lt_or_gt_of_ne hne with hlt | hlt
    · exact hn _ _ hx hp hlt he
    · exact hn _ _ hp hx hlt he.symm
theorem mem_snoc_fun (l : List Nat) (p : Nat) : (fun i => if i = p then true else decide (i ∈ l)) = fun i => decide (i ∈ l ++ [p]) := by
  funext i
  by_cases e : i = p <;> simp [e]
/-- The line at the end is as long as the number of marks. -/
theorem Brd.count {mul : Nat → Nat → Nat} {J : List Nat} {m : Nat} {l : List Nat} {F : Nat → Bool} (h : Brd mul J m l F) (h0 : 0 < m) (hm : ∀ i j, i < m → j < m → mul i j < m) (hJ : ∀ j ∈ J, j < m) (hc : ∀ t (ht : t < l.length), ∀ j ∈ J, F (mul l[t] j) = true) :
    l.length = cB (rchB mul J) m := by
  have hd := h.done h0 hm hJ hc
  unfold cB
  refine Ab.len_eq h.nd (List.Pairwise.filter _ (List.pairwise_lt_range.imp Nat.ne_of_lt)) (fun x hx => ?_) (fun x hx => ?_)
  · obtain ⟨a, b, _⟩ := h.ok x hx
    exact List.mem_filter.2 ⟨List.mem_range.2 a, by rw [← hd x a]; exact b⟩
  · obtain ⟨a, b⟩ := List.mem_filter.1 hx
    have a' := List.mem_range.1 a
    exact h.all x a' (by rw [hd x a']; exact b)
def EzSt (mul : Nat → Nat → Nat) (J : List Nat) (L : List Fm) (w2 : World) (v vi : Value) (wr : World) : Prop :=
  ∃ (i : Nat) (l : List Nat), vi = .int .i64 i ∧ i ≤ l.length ∧ Hid (Brd mul J L.length l (fun x => decide (x ∈ l))) ∧ Hid (∀ t y, l[t]? = some y → t < i → ∀ j ∈ J, mul y j ∈ l) ∧ wr.ownsRow w2.heap.size 32 3 v (atL L l).length (cellsF (atL L l)) ∧ Below w2.heap.size w2 wr
def EzIn (mul : Nat → Nat → Nat) (J : List Nat) (L : List Fm) (i x : Nat) (w2 : World) (v vq : Value) (wr : World) : Prop :=
  ∃ (q : Nat) (l : List Nat), vq = .int .i64 q ∧ q ≤ J.length ∧ l[i]? = some x ∧ Hid (Brd mul J L.length l (fun x => decide (x ∈ l))) ∧ Hid (∀ t y, l[t]? = some y → t < i → ∀ j ∈ J, mul y j ∈ l) ∧ Hid (∀ s (h : s < J.length), s < q → mul x J[s] ∈ l) ∧ wr.ownsRow w2.heap.size 32 3 v (atL L l).length (cellsF (atL L l)) ∧ Below w2.heap.size w2 wr

set_option maxRecDepth 100000 in
set_option maxHeartbeats 6400000 in
theorem specRz_any (d : Int) (Z : List Int) (v : Value) (B : Nat) (w : World) (hlz : Z.length ≤ 10000000) (ho : w.ownsRow B 3 1 v Z.length (cellsI Z)) :
    Calls Try.prog 11 #[.int .i64 d, v] w fun e w' => e = .returned (.tuple #[.int .i64 ((rzO d Z).getD 0 : Nat), .bool (rzO d Z).isSome]) ∧ Below w.heap.size w w' := by
  have hP0 := fun w ho => amPrimes_any d Z v B w hlz ho
  have HO := Lib.hid ho
  obtain ⟨bz, cz, rfl⟩ := own_shape ho
  clear ho
  cases hc : isDisc d with
  | false =>
    have hr : rzO d Z = none := by unfold rzO pfsO; rw [hc]; rfl
    rw [hr]
    clear hP0 hr
    go_enter Try.func11, Try.ntmps11
    go_wp2_with (go_at_call 29; (with_reducible refine (rDisc_eq d false _ hc).mono ?_); rintro e v ⟨rfl, rfl⟩)
    go_ret2
    exact ⟨rfl, (by repeat (first | with_reducible exact Below.refl _ _ | with_reducible assumption | with_reducible apply Below.drew | with_reducible apply below_drewN | (with_reducible apply below_setp; (first | omega | (simp <;> omega))) | (with_reducible apply below_allocp; (first | omega | (simp <;> omega))) | (with_reducible refine below_viap (by assumption) ?_ ?_; (first | omega | (simp <;> omega)))))⟩
  | true =>
    by_cases h16 : 1 ≤ (Z.length : Int) ∧ (Z.length : Int) ≤ 6
    · have hl16 : (decide (1 ≤ (Z.length : Int)) && decide ((Z.length : Int) ≤ 6)) = true := by rw [decide_eq_true h16.1, decide_eq_true h16.2]; rfl
      have hpo : pfsO d Z 6 = pfL d Z := by unfold pfsO; rw [if_pos ⟨hc, by omega, by omega⟩]
      cases hz : pfL d Z with
      | none =>
        have hr : rzO d Z = none := by unfold rzO; rw [hpo, hz]; rfl
        rw [hr]
        have hP := Lib.hid (fun w ho => (show Calls Try.prog 37 #[.int .i64 d, .slice bz Z.length cz] w (fun e w' => e = .returned (.tuple #[.slice none 0 0, .bool false]) ∧ Below w.heap.size w w') from (hP0 w ho).mono (fun e w' h => by
          rcases h with ⟨_, a, b⟩ | ⟨L, v, a, _⟩
          · exact ⟨a, b⟩
          · rw [hz] at a; cases a)))
        clear hP0 hz hr hpo
        go_enter Try.func11, Try.ntmps11
        go_wp2_with (first
          | (go_at_call 29; (with_reducible refine (rDisc_eq d true _ hc).mono ?_); rintro e v ⟨rfl, rfl⟩)
          | (go_at_call 36; refine (l1In_any _ _ _ _).mono ?_; rw [hl16]; rintro e v1 ⟨rfl, rfl⟩)
          | (go_at_call 37; refine (hP.out _ HO.out).mono ?_; rintro e w1 ⟨rfl, hb1⟩))
        go_ret2
        exact ⟨rfl, hb1⟩
      | some zs =>
        rw [hz] at hpo
        obtain ⟨_, hcf, hlen, hle, _⟩ := pfsO_cf hpo
        have D := dsc_of hc
        obtain ⟨i0, hi0, hz0, hz1, hz2⟩ := info_parts infoForm
        have hL0 := gix_one D
        have hnd := clsL_nodup d
        obtain ⟨L, hL⟩ : ∃ L, clsL d = L := ⟨_, rfl⟩
        have hl : L.length ≤ 1640 := by rw [← hL]; exact clsL_len d
        have hm0 : 0 < L.length := by rw [← hL]; exact List.length_pos_of_mem D.one
        have hzl : zs.length ≤ 6 := by omega
        have hr : rzO d Z = some (cB (rchB (mulN d L) (gensN L zs)) L.length) := by unfold rzO; rw [hpo, hL]; rfl
        rw [hr]
        have hP := Lib.hid (fun w ho => (show Calls Try.prog 37 #[.int .i64 d, .slice bz Z.length cz] w (fun e w' => ∃ v, e = .returned (.tuple #[v, .bool true]) ∧ w'.ownsRow w.heap.size 32 3 v (zs.map red).length (cellsF (zs.map red)) ∧ Below w.heap.size w w') from (hP0 w ho).mono (fun e w' h => by
          rcases h with ⟨a, _⟩ | ⟨L, v, a, b⟩
          · rw [hz] at a; cases a
          · rw [hz] at a; injection a with a; subst a; exact ⟨v, b⟩)))
        obtain ⟨o, ho1⟩ : ∃ o, oneF d = o := ⟨_, rfl⟩
        have hOn := Lib.hid (fun w => coOne_any d o w D ho1)
        have ho2 : o = L.getD 0 ⟨0, 0, 0⟩ := by
          obtain ⟨h, e⟩ := gix_elem (L := L) (f := oneF d) (n := 0) (by rw [← hL]; exact D.one) (by rw [← hL]; exact hL0)
          rw [getD_at h, e, ho1]
        rw [hL] at hnd
        have hcl := Lib.hid (fun i k (hi : i < L.length) (hk : k < L.length) => (mulN_eq D hL hi hk).2)
        have hJm := Lib.hid (gensN_lt2 hL hcf)
        have hJl : (gensN L zs).length = (zs.map red).length := by rw [gensN_len, List.length_map]
        have hM := Lib.hid (fun x q (hx : x < L.length) (hq : q < (zs.map red).length) (hq2 : q < (gensN L zs).length) w => (show Calls Try.prog 39 #[.agg #[.int .i64 (L.getD x ⟨0, 0, 0⟩).a, .int .i64 (L.getD x ⟨0, 0, 0⟩).b, .int .i64 (L.getD x ⟨0, 0, 0⟩).c], .agg #[.int .i64 (zs.map red)[q].a, .int .i64 (zs.map red)[q].b, .int .i64 (zs.map red)[q].c]] w (fun ee w' =>
            ee = .returned (.agg #[.int .i64 (L.getD (mulN d L x (gensN L zs)[q]) ⟨0, 0, 0⟩).a, .int .i64 (L.getD (mulN d L x (gensN L zs)[q]) ⟨0, 0, 0⟩).b, .int .i64 (L.getD (mulN d L x (gensN L zs)[q]) ⟨0, 0, 0⟩).c]) ∧ Below w.heap.size w w') from by
          have hj := gensN_lt2 hL hcf (gensN L zs)[q] (List.getElem_mem hq2)
          have hfz : (zs.map red)[q] = red (zs[q]'(by simpa using hq)) := by simp
          have hjq : (gensN L zs)[q] = (gix L (red (zs[q]'(by simpa using hq)))).toNat := by simp [gensN]
          have hc0 := hcf _ (List.getElem_mem (show q < zs.length by simpa using hq))
          have hm1 := hc0.mem
          rw [hL] at hm1
          have hg := gix_bd hm1
          obtain ⟨h1, h2⟩ := gix_elem (L := L) (n := (gensN L zs)[q]) hm1 (by rw [hjq]; omega)
          obtain ⟨e1, e2⟩ := mulN_eq D hL hx hj
          have hmx : L[x] ∈ clsL d := by rw [hL]; exact List.getElem_mem hx
          have hmj : L[(gensN L zs)[q]] ∈ clsL d := by rw [hL]; exact List.getElem_mem hj
          have hcm := D.cmpm hmx hmj
          rw [hL] at hcm
          obtain ⟨h3, h4⟩ := gix_elem hcm e1
          rw [hfz, ← h2, getD_at hx, getD_at h3, h4]
          exact coMul_cf d _ _ _ _ _ w (CF.of_mem D hmx) (CF.of_mem D hmj) rfl))
        have hhas := Lib.hid (fun (l : List Nat) (p : Nat) hl hp => atL_has (L := L) (l := l) (p := p) hnd hl hp)
        have hK6 : (zs.map red).length ≤ 6 := by rw [List.length_map]; exact hzl
        generalize mulN d L = mul at *
        generalize zs.map red = K at *
        generalize gensN L zs = J at *
        simp only [Option.getD, Option.isSome]
        have Ho2 := Lib.hid ho2
        clear hP0 hz hr D hL hcf hpo hL0 hnd ho1 ho2
        go_enter Try.func11, Try.ntmps11
        go_wp2_with (first
          | (go_at_call 29; (with_reducible refine (rDisc_eq d true _ hc).mono ?_); rintro e v ⟨rfl, rfl⟩)
          | (go_at_call 36; refine (l1In_any _ _ _ _).mono ?_; rw [hl16]; rintro e v1 ⟨rfl, rfl⟩)
          | (go_at_call 37; refine (hP.out _ HO.out).mono ?_; rintro e w1 ⟨vk, rfl, hok, hb1⟩; have hz1' := hb1.size; obtain ⟨bk, ck, rfl⟩ := own_shape hok)
          | (go_at_call 38; refine (hOn.out _).mono ?_; rintro e w2 ⟨rfl, hb2⟩; have hz2' := hb2.size))
        have HK := Lib.hid (own_call hb2 hok)
        have hbw : Below w.heap.size w w2 := below_via hb1 hb2 hz1'
        have hs0 : (w2.alloc (.cells #[.int .i64 o.a, .int .i64 o.b, .int .i64 o.c] 32)).ownsRow w2.heap.size 32 3 (.slice (some ⟨w2.heap.size, 0, none⟩) 1 1) (atL L [0]).length (cellsF (atL L [0])) := by
          have h : atL L [0] = [o] := by unfold atL; rw [Ho2.out]; rfl
          rw [h]
          exact own_oneF2 (Nat.le_refl _)
        clear hok hb1 hb2
        go_loopw [8, 9] (fun v i wr => EzSt mul J L w2 v i wr) (fun _ i _ => L.length - (intOf i).toNat)
        case atStart => exact ⟨0, [0], rfl, Nat.zero_le _, Lib.hid ⟨fun x hx => by simp at hx; subst hx; exact ⟨hm0, by simp, .zero⟩, fun x _ hx => by simpa using hx, by simp, by simp⟩, Lib.hid (fun _ _ _ h => absurd h (Nat.not_lt_zero _)), hs0, (by repeat (first | with_reducible exact Below.refl _ _ | with_reducible assumption | with_reducible apply Below.drew | with_reducible apply below_drewN | (with_reducible apply below_setp; (first | omega | (simp <;> omega))) | (with_reducible apply below_allocp; (first | omega | (simp <;> omega))) | (with_reducible refine below_viap (by assumption) ?_ ?_; (first | omega | (simp <;> omega)))))⟩
        case round =>
          clear hs0
          obtain ⟨i, l, rfl, hi, hB, hcd, hown, hbel⟩ := hrel
          have hz := hbel.size
          have hll := hB.out.len
          have hal := atL_len L l
          obtain ⟨bs, cs, rfl⟩ := own_shape hown
          rw [hal] at hown ⊢
          by_cases hlt : i < l.length
          · obtain ⟨x, hx⟩ : ∃ x, l[i]? = some x := ⟨_, List.getElem?_eq_getElem hlt⟩
            have hxm : x < L.length := (hB.out.ok x (List.mem_of_getElem? hx)).1
            have hxr : Rch mul J x := (hB.out.ok x (List.mem_of_getElem? hx)).2.2
            go_wp2
            obtain ⟨wo, rfl⟩ : ∃ wo : World, wo = wr := ⟨_, rfl⟩
            go_loopw [8, 41] (fun v q wr => EzIn mul J L i x w2 v q wr) (fun _ q _ => J.length - (intOf q).toNat)
            case atStart => exact ⟨0, l, rfl, Nat.zero_le _, hx, hB, hcd, Lib.hid (fun _ _ h => absurd h (Nat.not_lt_zero _)), by rw [hal]; exact hown, hbel⟩
            case round =>
              clear hB hcd hown hbel hz hll hal hlt hi hx
              obtain ⟨q, l, rfl, hq, hx, hB, hcd, hs, hown, hbel⟩ := hrel
              have hz := hbel.size
              have hll := hB.out.len
              have hal := atL_len L l
              have hlt : i < l.length := (List.getElem?_eq_some_iff.1 hx).1
              obtain ⟨bs, cs, rfl⟩ := own_shape hown
              rw [hal] at hown ⊢
              by_cases hqt : q < J.length
              · have hqk : q < K.length := by omega
                have hli := (List.getElem?_eq_some_iff.1 hx).2
                have hax : (atL L l)[i]'(by rw [hal]; exact hlt) = L.getD x ⟨0, 0, 0⟩ := by simp only [atL, List.getElem_map]; rw [hli]
                obtain ⟨gk, rfl, lk, c1, c2, c3⟩ := own_elem (own_call hbel HK.out) hqk
                obtain ⟨gs, rfl, ls, s1, s2, s3⟩ := own_elem (n := l.length) (L := atL L l) (by rw [hal]; exact hown) (k := i) (by rw [hal]; exact hlt)
                rw [hax] at s1 s2 s3
                have hMq := Lib.hid (fun w => hM.out x q hxm hqk hqt w)
                have hpm := hcl.out x J[q] hxm (hJm.out _ (List.getElem_mem hqt))
                have hpr : Rch mul J (mul x J[q]) := hxr.step (List.getElem_mem hqt)
                have hsN := Lib.hid (fun (l' : List Nat) (h1 : ∀ y ∈ l, y ∈ l') (h2 : mul x J[q] ∈ l') => (show ∀ s (h : s < J.length), s < q + 1 → mul x J[s] ∈ l' from fun s hs' hlt' => if e : s = q then (by subst e; exact h2) else h1 _ (hs.out s hs' (by omega))))
                have hh := hhas.out l (mul x J[q]) (fun y hy => (hB.out.ok y hy).1) hpm
                generalize K[q] = kf at c1 c2 c3 hMq
                generalize J[q] = j at hMq hpm hpr hsN hh
                generalize mul x j = p at hMq hpm hpr hsN hh
                have hsn := atL_snoc L l p
                obtain ⟨r, hr⟩ : ∃ r, L.getD p ⟨0, 0, 0⟩ = r := ⟨_, rfl⟩
                rw [hr] at hh hsn hMq
                obtain ⟨f, hf⟩ : ∃ f, L.getD x ⟨0, 0, 0⟩ = f := ⟨_, rfl⟩
                rw [hf] at s1 s2 s3 hMq
                obtain ⟨bb, hbb⟩ : ∃ bb, decide (p ∈ l) = bb := ⟨_, rfl⟩
                rw [hbb] at hh
                have hcy := Lib.hid (fun (w : World) (v : Value) (B : Nat) h => (show Calls Try.prog 40 #[v, .agg #[.int .i64 r.a, .int .i64 r.b, .int .i64 r.c]] w (fun e w' => e = .returned (.bool bb) ∧ Below w.heap.size w w') from by
                  rw [← hh]
                  exact cyHas_any v B (atL L l) r w (by omega) h))
                have Hsn := Lib.hid hsn
                have Hal := Lib.hid hal
                have n1 : ¬ gs = wr.heap.size := by omega
                have n2 : ¬ gs = wr.heap.size + 1 := by omega
                have n3 : ¬ wr.heap.size = gs := by omega
                have n4 : ¬ wr.heap.size + 1 = gs := by omega
                have n5 : gs < wr.heap.size + 1 := by omega
                have n6 : gs < wr.heap.size + 1 + 1 := by omega
                have hown' : wr.ownsRow w2.heap.size 32 3 (.slice (some ⟨gs, 0, none⟩) l.length cs) l.length (cellsF (atL L l)) := hown
                clear hs hr hf hh hsn hal hax hli
                go_upto_region 13 with fail
                go_cut [12, 41] from 41 to 59 (fun s t wx => ∃ U : Nat, s = .pointer (some ⟨U, 0, none⟩) ∧ t = .int .i64 q ∧ Blk wx U 32 #[.int .i64 r.a, .int .i64 r.b, .int .i64 r.c] ∧ w2.heap.size ≤ U ∧ wx.ownsRow w2.heap.size 32 3 (.slice (some ⟨gs, 0, none⟩) l.length cs) l.length (cellsF (atL L l)) ∧ Below w2.heap.size w2 wx)
                case first =>
                  go_region_with (go_at_call 39; (with_reducible refine (hMq.out _).mono ?_); rintro e h1 ⟨rfl, hbA⟩; have hcc := (calm_cells hbA).1; have hff := (calm_cells hbA).2; have hszA := hbA.size; (try simp at hszA); have gA1 := hcc (wr.heap.size + 1); have gA2 := hff (wr.heap.size + 1); (try simp at gA1); (try simp at gA2); clear hcc hff)
                  all_goals
                    go_wp2_with fail
                    go_meet
                    refine ⟨_, rfl, rfl, ?_, ?_, ?_, ?_⟩
                    · first
                        | (with_reducible apply Blk.new_at; (first | rfl | (simp; done)))
                        | (refine Blk.store3 (x := .int .i64 0) (y := .int .i64 0) (z := .int .i64 0) (Blk.call ?_ hbA); (repeat (first | with_reducible assumption | (with_reducible apply Blk.new_at; (first | rfl | (simp; done))) | with_reducible apply Blk.store3 | with_reducible apply Blk.store4 | (with_reducible apply Blk.farp; (first | omega | (simp <;> omega))) | with_reducible apply Blk.allocp | with_reducible apply Blk.drew | with_reducible apply Blk.drewN)))
                    · first | omega | (simp; omega)
                    · refine own_bel (w := wr) ?_ (own_lt hown') hown'
                      exact (by repeat (first | with_reducible exact Below.refl _ _ | with_reducible assumption | with_reducible apply Below.drew | with_reducible apply below_drewN | (with_reducible apply below_setp; (first | omega | (simp <;> omega))) | (with_reducible apply below_allocp; (first | omega | (simp <;> omega))) | (with_reducible refine below_viap (by assumption) ?_ ?_; (first | omega | (simp <;> omega)))))
                    · exact (by repeat (first | with_reducible exact Below.refl _ _ | with_reducible assumption | with_reducible apply Below.drew | with_reducible apply below_drewN | (with_reducible apply below_setp; (first | omega | (simp <;> omega))) | (with_reducible apply below_allocp; (first | omega | (simp <;> omega))) | (with_reducible refine below_viap (by assumption) ?_ ?_; (first | omega | (simp <;> omega)))))
                case rest =>
                  obtain ⟨U, rfl, rfl, hU, hU2, hown3, hbel3⟩ := hcut
                  have cU := hU.cell; have fU := hU.frozen; have lU := hU.lt
                  have hz3 := hbel3.size
                  have hao := Lib.hid hown3
                  have hownL : wc.ownsRow w2.heap.size 32 3 (.slice (some ⟨gs, 0, none⟩) l.length cs) (atL L l).length (cellsF (atL L l)) := by rw [Hal.out]; exact hown3
                  cases bb with
                  | true =>
                    have hpl : p ∈ l := of_decide_eq_true hbb
                    have hsM := Lib.hid (hsN.out l (fun _ h => h) hpl)
                    clear hsN hown hown'
                    go_wp2_with (go_at_call 40; refine (hcy.out _ _ _ hownL).mono ?_; rintro e v4 ⟨rfl, hB4⟩; have hZ4 := hB4.size)
                    go_roundw
                    case rel => exact ⟨q + 1, l, rfl, hqt, hx, hB, hcd, hsM, by rw [Hal.out]; exact own_call hB4 hao.out, below_via hbel3 hB4 (by omega)⟩
                    case measure => simp [intOf]; omega
                  | false =>
                    have hBN : Hid (Brd mul J L.length (l ++ [p]) (fun x => decide (x ∈ l ++ [p]))) := Lib.hid (by
                      rw [← mem_snoc_fun]
                      exact hB.out.add hpm hbb hpr)
                    have hsM := Lib.hid (hsN.out (l ++ [p]) (fun _ h => List.mem_append_left _ h) (by simp))
                    have hcN : Hid (∀ t y, (l ++ [p])[t]? = some y → t < i → ∀ j ∈ J, mul y j ∈ l ++ [p]) := Lib.hid (fun t y hy ht j hj => by
                      rw [List.getElem?_append_left (by omega)] at hy
                      exact List.mem_append_left _ (hcd.out t y hy ht j hj))
                    have hxN : (l ++ [p])[i]? = some x := by rw [List.getElem?_append_left hlt]; exact hx
                    have hlN : (atL L l).length = l.length := Hal.out
                    clear hsN hown hown' hB hcd
                    go_wp2_with (first
                      | (go_at_call 40; refine (hcy.out _ _ _ hownL).mono ?_; rintro e v4 ⟨rfl, hB4⟩; have hZ4 := hB4.size; have hU4 := Blk.call hU hB4; have cU4 := hU4.cell; have fU4 := hU4.frozen; have hown4 := own_call hB4 hown3)
                      | (at_builtin; refine wpList_append_own _ rfl (.tmp 55) (.tmp 57) 53 rfl w2.heap.size 32 i0 _ 3 24 Try.underlying53 hi0 hz0 hz1 hz2 rfl (by decide) (.slice (some ⟨gs, 0, none⟩) l.length cs) l.length (cellsF (atL L l)) rfl ?_ ⟨v4.heap.size, 0, none⟩ 1 1 [.int .i64 r.a, .int .i64 r.b, .int .i64 r.c] rfl rfl ?_ (one3 _ _ _) ?_ ?_ ?_ ?_; exact own_alloc hown4; exact cells3 (Blk.new _ _ _); (unfold maxLen; omega); omega; (simp; omega); intro x2 w5 hown5 hgr _))
                    have hb4 := below_via hbel3 hB4 (by omega)
                    have hb5 : Below w2.heap.size w2 w5 := below_grown (own_ge hown4) (by simp; omega) hgr (by repeat (first | with_reducible exact Below.refl _ _ | with_reducible assumption | with_reducible apply Below.drew | with_reducible apply below_drewN | (with_reducible apply below_setp; (first | omega | (simp <;> omega))) | (with_reducible apply below_allocp; (first | omega | (simp <;> omega))) | (with_reducible refine below_viap (by assumption) ?_ ?_; (first | omega | (simp <;> omega)))))
                    have ho5 := own_snoc (L := atL L l) (f := r) (K := atL L (l ++ [p])) Hsn.out (by rw [hlN]; exact hown5)
                    clear hgr hown5 hown4 hown3 hownL
                    go_wp2
                    go_roundw
                    case rel => exact ⟨q + 1, l ++ [p], rfl, hqt, hxN, hBN, hcN, hsM, ho5, hb5⟩
                    case measure => simp [intOf]; omega
              · have e : q = J.length := by omega
                have hcN : Hid (∀ t y, l[t]? = some y → t < i + 1 → ∀ j ∈ J, mul y j ∈ l) := Lib.hid (fun t y hy ht j hj => by
                  by_cases e2 : t = i
                  · subst e2
                    have : y = x := by rw [hx] at hy; injection hy with hy; exact hy.symm
                    subst this
                    obtain ⟨s, hs1, rfl⟩ := List.getElem_of_mem hj
                    exact hs.out s hs1 (by omega)
                  · exact hcd.out t y hy (by omega) j hj)
                clear hcd hs
                go_wp2
                exact ⟨⟨i + 1, l, rfl, by omega, hB, hcN, by rw [hal]; exact hown, hbel⟩, by simp [intOf]; omega⟩
          · have e : i = l.length := by omega
            have hcnt := Lib.hid (hB.out.count hm0 (fun i k hi hk => hcl.out i k hi hk) hJm.out (fun t ht j hj => decide_eq_true (hcd.out t l[t] (List.getElem?_eq_getElem ht) (by omega) j hj)))
            clear hB hcd
            go_wp2
            go_ret2
            exact ⟨congrArg (fun n : Nat => Ending.returned (.tuple #[.int .i64 n, .bool true])) hcnt.out, below_via hbw hbel (by omega)⟩
    · have hr : rzO d Z = none := by
        unfold rzO pfsO
        rw [if_neg (fun h => h16 ⟨by omega, h.2.2⟩)]
        rfl
      have hl16 : (decide (1 ≤ (Z.length : Int)) && decide ((Z.length : Int) ≤ 6)) = false := by
        rw [← Bool.not_eq_true, Bool.and_eq_true, decide_eq_true_eq, decide_eq_true_eq]
        exact h16
      rw [hr]
      clear hr h16 hP0
      go_enter Try.func11, Try.ntmps11
      go_wp2_with (first
        | (go_at_call 29; (with_reducible refine (rDisc_eq d true _ hc).mono ?_); rintro e v ⟨rfl, rfl⟩)
        | (go_at_call 36; refine (l1In_any _ _ _ _).mono ?_; rw [hl16]; rintro e v1 ⟨rfl, rfl⟩))
      go_ret2
      exact ⟨rfl, (by repeat (first | with_reducible exact Below.refl _ _ | with_reducible assumption | with_reducible apply Below.drew | with_reducible apply below_drewN | (with_reducible apply below_setp; (first | omega | (simp <;> omega))) | (with_reducible apply below_allocp; (first | omega | (simp <;> omega))) | (with_reducible refine below_viap (by assumption) ?_ ?_; (first | omega | (simp <;> omega)))))⟩
end Go.Proofs.Ytcijjnjgifoipaa
