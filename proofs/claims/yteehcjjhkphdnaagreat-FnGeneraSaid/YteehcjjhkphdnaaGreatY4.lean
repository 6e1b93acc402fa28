/- Contracts of GeneraOf and GenusCount, of the reference. -/
import Derived.Test.YteehcjjhkphdnaaGreatYX
import Derived.Test.YteehcjjhkphdnaaGreatW4
import Derived.Deep.RegionHeld3
import Derived.Deep.RegionLaw
namespace Go.Proofs.YteehcjjhkphdnaaGreat
open Go.RowKit

/-- A store into an owned row. -/
theorem own_set1 {w : World} {B O n cap i : Nat} {e : TypeId} {vs : List Value} {x : Value} (h : w.ownsRow B e 1 (.slice (some ⟨O, 0, none⟩) n cap) n vs) (_hi : i < n) :
    (w.setCell ⟨O, i, none⟩ x).ownsRow B e 1 (.slice (some ⟨O, 0, none⟩) n cap) n (vs.set i x) := by
  refine ⟨by rw [List.length_set]; exact h.1, ?_⟩
  rcases h.2 with ⟨hv, _⟩ | ⟨g, c, cur, hv, hg, hh, hnc, hcm, hcs, ht⟩
  · cases hv
  · injection hv with e1 e2 e3
    injection e1 with e1; injection e1 with e1
    subst e1; subst e3
    refine .inr ⟨O, cap, cur.setIfInBounds i x, rfl, hg, ?_, hnc, hcm, by simpa using hcs, ?_⟩
    · simp [World.setCell, Array.getElem?_modify, hh]
    · rw [Array.toList_setIfInBounds, List.take_set, ht]
theorem own_oneF {w : World} {B : Nat} {e : TypeId} {f : Fm} (hB : B ≤ w.heap.size) : (w.alloc (.cells #[.int .i64 f.a, .int .i64 f.b, .int .i64 f.c] e)).ownsRow B e 3 (.slice (some ⟨w.heap.size, 0, none⟩) 1 1) [f].length (cellsF [f]) :=
  ⟨rfl, .inr ⟨w.heap.size, 1, #[.int .i64 f.a, .int .i64 f.b, .int .i64 f.c], rfl, hB, heap_alloc_new w _, Nat.le_refl _, by unfold maxLen; omega, rfl, rfl⟩⟩
/-- One form more in the list i. -/
theorem NestV.put {B O cap : Nat} {G : List (List Fm)} {vs : List Value} {u u' : Value} {w0 wA w2 : World} {i : Nat} {g' : List Fm} (h : NestV B G (.slice (some ⟨O, 0, none⟩) G.length cap) vs w0) (hb : Below w0.heap.size w0 wA) (hi : i < G.length) (hu : vs[i]? = some u)
    (hown : w2.ownsRow B 36 3 u' g'.length (cellsF g')) (hg : wA.grownBy w2 u.ownBlock) (hloc : u'.ownBlock = u.ownBlock ∨ u'.ownBlock = some wA.heap.size) :
    NestF B (G.set i g') (.slice (some ⟨O, 0, none⟩) G.length cap) (w2.setCell ⟨O, i, none⟩ u') := by
  have hsz := hb.size
  have hl := h.len
  have hO : O < w0.heap.size := own_lt h.1 O rfl
  have hux := h.row_lt hu
  have hunew : ∀ q, u'.ownBlock = some q → q ≠ O := by
    intro q hq
    rcases hloc with e | e
    · intro he; subst he; exact (hux q (e ▸ hq)).2 rfl
    · rw [e] at hq; injection hq with hq; omega
  have hout : w2.ownsRow B 25 1 (.slice (some ⟨O, 0, none⟩) G.length cap) G.length vs := (own_call hb h.1).kept hg (.inr (fun he => by
    have := (hux O (he ▸ rfl)).2
    exact this rfl))
  refine ⟨vs.set i u', by rw [List.length_set]; exact own_set1 hout hi, fun j hj => ?_, ?_⟩
  · rw [List.length_set] at hj
    by_cases e : i = j
    · subst e
      refine ⟨u', by rw [List.getElem?_set_self (by omega)], ?_, fun q hq he => ?_⟩
      · rw [List.getElem_set_self]
        exact own_set_ne (fun q hq => hunew q hq) hown
      · have := hunew q hq
        injection he with he
        exact this he.symm
    · obtain ⟨x, h1, h2, h3⟩ := h.2.1 j hj
      refine ⟨x, by rw [List.getElem?_set_ne e]; exact h1, ?_, h3⟩
      rw [List.getElem_set_ne e]
      refine own_set_ne (fun q hq he => h3 q hq (by rw [he]; rfl)) ((own_call hb h2).kept hg ?_)
      exact keep_of (fun q hq => h.2.2 j i x u (Ne.symm e) h1 hu q hq)
  · intro a b x y hab hx hy q hq he
    have old : ∀ c z, c ≠ i → vs[c]? = some z → z.ownBlock = some q → u'.ownBlock = some q → False := by
      intro c z hc hz hzq huq
      rcases hloc with e | e
      · exact h.2.2 c i z u hc hz hu q hzq (e ▸ huq)
      · rw [e] at huq; injection huq with huq
        have := (h.row_lt hz q hzq).1
        omega
    by_cases ha : a = i
    · subst ha
      rw [List.getElem?_set_self (by omega)] at hx
      injection hx with hx; subst hx
      rw [List.getElem?_set_ne hab] at hy
      exact old b y (Ne.symm hab) hy he hq
    · rw [List.getElem?_set_ne (Ne.symm ha)] at hx
      by_cases hb' : b = i
      · subst hb'
        rw [List.getElem?_set_self (by omega)] at hy
        injection hy with hy; subst hy
        exact old a x ha hx hq he
      · rw [List.getElem?_set_ne (Ne.symm hb')] at hy
        exact h.2.2 a b x y hab hx hy q hq he

theorem own_frozen {w : World} {B g n cap : Nat} {e : TypeId} {sz : Nat} {xs : List Value} (h : w.ownsRow B e sz (.slice (some ⟨g, 0, none⟩) n cap) n xs) (i : Nat) : w.frozen? ⟨g, i, none⟩ = false := by
  rcases h.2 with ⟨hv, _⟩ | ⟨g', c, cur, hv, _, hh, _⟩
  · cases hv
  · injection hv with e1
    injection e1 with e1; injection e1 with e1
    subst e1
    simp [World.frozen?, hh]
theorem grp_row_len {κ : Fm → List Int} (P A : List Fm) (i : Nat) (h : i < (grpK κ P A).length) : (grpK κ P A)[i].length ≤ A.length := by
  have h2 : i < (repsK κ P).length := by rw [← grp_len P A]; exact h
  have e : (grpK κ P A)[i] = A.filter (sameK κ (repsK κ P)[i]) := List.getElem_map (fun g => A.filter (sameK κ g))
  rw [e]; exact List.length_filter_le _ _
theorem own_form1 {w : World} {B O n cap i : Nat} {e : TypeId} {vs : List Value} {u : Value} (h : w.ownsRow B e 1 (.slice (some ⟨O, 0, none⟩) n cap) n vs) (hu : vs[i]? = some u) : w.cell? ⟨O, i, none⟩ = some u ∧ O < w.heap.size := by
  rcases own_form h with ⟨hv, _⟩ | ⟨g, c, hv, _, hg, hc⟩
  · cases hv
  · injection hv with e1
    injection e1 with e1; injection e1 with e1
    subst e1
    exact ⟨hc i u hu, hg⟩
/-- The cells of the outer row. -/
theorem NestV.at_ {B n cap : Nat} {ob : Option Addr} {G : List (List Fm)} {vs : List Value} {w : World} (h : NestV B G (.slice ob n cap) vs w) (hn : G.length = n) {i : Nat} (hi : i < n) :
    ∃ O u, ob = some ⟨O, 0, none⟩ ∧ O < w.heap.size ∧ B ≤ O ∧ vs[i]? = some u ∧ w.cell? ⟨O, i, none⟩ = some u ∧ w.frozen? ⟨O, i, none⟩ = false := by
  have h1 := h.1
  rw [hn] at h1
  obtain ⟨u, hu, _, _⟩ := h.2.1 i (by omega)
  rcases own_form h1 with ⟨hv, h0⟩ | ⟨O, c, hv, hB, hO, hc⟩
  · omega
  · injection hv with e1 e2 e3
    subst e1
    exact ⟨O, u, rfl, hO, hB, hu, hc i u hu, own_frozen h1 i⟩

/-- The outer loop of the reference. -/
def CgSt (κ : Fm → List Int) (L : List Fm) (w1 : World) (v vi : Value) (wr : World) : Prop :=
  ∃ k : Nat, vi = .int .i64 k ∧ k ≤ L.length ∧ NestF w1.heap.size (grpK κ (L.take k) (L.take k)) v wr ∧ w1.heap.size ≤ wr.heap.size ∧ Below w1.heap.size w1 wr
/-- The inner loop: the index of the list whose key is that of f, or -1. -/
def CgIn (κ : Fm → List Int) (R : List Fm) (f : Fm) (wi : World) (va vj : Value) (wr : World) : Prop :=
  ∃ q : Nat, vj = .int .i64 q ∧ q ≤ R.length ∧ Hid ((va = .int .i64 (-1) ∧ ∀ j (h : j < R.length), j < q → κ R[j] ≠ κ f) ∨ ∃ j : Nat, ∃ h : j < R.length, va = .int .i64 j ∧ κ R[j] = κ f) ∧ Below wi.heap.size wi wr

set_option maxRecDepth 100000 in
set_option maxHeartbeats 6400000 in
theorem chGenera_any (d : Int) (w : World) (hD : Dsc d) : Calls Tryz.prog 106 #[.int .i64 d] w (RetN (genL d) w) := by
  obtain ⟨i0, hi, hz0, hz1, hz2⟩ := info_parts infoSlF
  obtain ⟨j0, hj, hy0, hy1, hy2⟩ := info_parts infoForm
  have hl : (clsL d).length ≤ 100000 := Nat.le_trans (clsL_len d) (by decide)
  have Hr := Lib.hid (fun w => reList_any d w hD.lo hD.hi)
  have HG := Lib.hid (fun f (h : f ∈ clsL d) w => chOf_gn d f f w (CF.of_mem hD h))
  have hkl := Lib.hid (fun f (h : f ∈ clsL d) => gn_len hD h)
  unfold genL
  generalize gnL d = κ at *
  generalize clsL d = L at *
  go_enter Tryz.func106, Tryz.ntmps106
  go_wp2_with (go_at_call 140; refine (Hr.out _).mono ?_; rintro e w1 ⟨vl, rfl, howl, hb1⟩; obtain ⟨base, cap, rfl⟩ := own_shape howl)
  have hz1' := hb1.size
  have HL := Lib.hid howl
  clear howl
  go_loopw [3, 12] (fun v i wr => CgSt κ L w1 v i wr) (fun _ i _ => L.length - (intOf i).toNat)
  case atStart => exact ⟨0, rfl, Nat.zero_le _, NestF.nil, Nat.le_refl _, (by repeat (first | with_reducible exact Below.refl _ _ | with_reducible assumption | with_reducible apply Below.drew | with_reducible apply below_drewN | (with_reducible apply below_setp; (first | omega | (simp <;> omega))) | (with_reducible apply below_allocp; (first | omega | (simp <;> omega))) | (with_reducible refine below_viap (by assumption) ?_ ?_; (first | omega | (simp <;> omega)))))⟩
  case round =>
    obtain ⟨k, rfl, hk, ⟨vs, hnest⟩, hN1, hbel⟩ := hrel
    have hz := hbel.size
    have howl := own_call hbel HL.out
    by_cases hlt : k < L.length
    · obtain ⟨g, rfl, hg2, d1, d2, d3⟩ := own_elem howl hlt
      have hfm := List.getElem_mem hlt
      have htk := List.take_succ_eq_append_getElem hlt
      have hsub : ∀ x ∈ L.take k, x ∈ L := fun x hx => List.mem_of_mem_take hx
      have hPl : (repsK κ (L.take k)).length ≤ 100000 := by have := reps_len (κ := κ) (L.take k); rw [List.length_take] at this; omega
      generalize L[k] = f at d1 d2 d3 hfm htk
      have hGf := Lib.hid (HG.out f hfm)
      have hkf := hkl.out f hfm
      have hgl := grp_len (κ := κ) (L.take k) (L.take k)
      have Htk := Lib.hid htk
      clear htk
      obtain ⟨P, hP⟩ : ∃ P, L.take k = P := ⟨_, rfl⟩
      rw [hP] at hnest hsub hPl hgl Htk
      obtain ⟨ob, oc, rfl⟩ := own_shape hnest.1
      rw [hgl] at hnest ⊢
      obtain ⟨R, hR⟩ : ∃ R, repsK κ P = R := ⟨_, rfl⟩
      rw [hR] at hnest hPl hgl ⊢
      clear hP
      go_wp2
      obtain ⟨WI, hWI⟩ : ∃ WI : World, WI = wr.alloc (.cells #[.int .i64 f.a, .int .i64 f.b, .int .i64 f.c] 36) := ⟨_, rfl⟩
      rw [← hWI]
      have hsW : WI.heap.size = wr.heap.size + 1 := by rw [hWI]; simp
      have hbW : Below w1.heap.size w1 WI := by rw [hWI]; exact hbel.alloc hN1 _
      have hnW : NestV w1.heap.size (grpK κ P P) (.slice ob R.length oc) vs WI := by rw [hWI]; exact hnest.alloc _
      have hFW : Blk WI wr.heap.size 36 #[.int .i64 f.a, .int .i64 f.b, .int .i64 f.c] := by rw [hWI]; exact Blk.new_at rfl
      obtain ⟨FB, hFB⟩ : ∃ FB, FB = wr.heap.size := ⟨_, rfl⟩
      rw [← hFB] at hsW hFW hN1 hz hg2 ⊢
      have HFW := Lib.hid hFW
      have HnW := Lib.hid hnW
      clear hFW hnW hnest howl d1 d2 d3 hWI hFB hbel
      go_loopw [6, 18] (fun va vj wx => CgIn κ R f WI va vj wx) (fun _ j _ => R.length - (intOf j).toNat)
      case atStart => exact ⟨0, rfl, Nat.zero_le _, Lib.hid (.inl ⟨rfl, fun _ _ h => absurd h (Nat.not_lt_zero _)⟩), Below.refl _ _⟩
      case round =>
        obtain ⟨q, rfl, hq, hat, hbi⟩ := hrel
        have hzi := hbi.size
        have bF := Blk.call HFW.out hbi
        have cF := bF.cell; have fF := bF.frozen; have lF := bF.lt
        by_cases hlq : q < R.length
        · obtain ⟨y, T, hyT, hyP, hyk⟩ := grp_head (κ := κ) (P := P) (i := q) (by rw [hR]; exact hlq) (by rw [hgl]; exact hlq)
          simp only [hR] at hyk
          have hyL : y ∈ L := hsub y hyP
          obtain ⟨O, u, rfl, hO, hOB, hu, cO, _⟩ := (HnW.out.call hbi).at_ hgl hlq
          obtain ⟨u', hu', hu2, _⟩ := HnW.out.2.1 q (by rw [hgl]; exact hlq)
          obtain rfl : u = u' := by rw [hu] at hu'; injection hu'
          rw [hyT] at hu2
          obtain ⟨gu, cu, rfl, hgu, y1, y2, y3⟩ := own_elem0 (own_call hbi hu2)
          have hGy := Lib.hid (HG.out y hyL)
          have hky := hkl.out y hyL
          have hatY := Lib.hid (fun (h : κ y = κ f) => (show ∃ j : Nat, ∃ h : j < R.length, Value.int .i64 q = .int .i64 j ∧ κ R[j] = κ f from ⟨q, hlq, rfl, hyk ▸ h⟩))
          have hatN := Lib.hid (fun (h : κ y ≠ κ f) (hold : ∀ j (h : j < R.length), j < q → κ R[j] ≠ κ f) => (show ∀ j (h : j < R.length), j < q + 1 → κ R[j] ≠ κ f from fun j hj hjq => if e : j = q then (by subst e; rw [← hyk]; exact h) else hold j hj (by omega)))
          clear hyT hyP hyk hu hu' hu2 hyL
          by_cases hm : κ y = κ f
          · have hdec : decide (κ y = κ f) = true := decide_eq_true hm
            have hnew := Lib.hid (hatY.out hm)
            clear hatY hatN hat
            have cF0 := cF 0; have cF1 := cF 1; have cF2 := cF 2
            simp at cF0 cF1 cF2
            go_wp2
            go_region_held3 (fun w' => w'.cell? ⟨gu, 0, none⟩ = some (.int .i64 y.a) ∧ w'.cell? ⟨gu, 1, none⟩ = some (.int .i64 y.b) ∧ w'.cell? ⟨gu, 2, none⟩ = some (.int .i64 y.c) ∧ w'.cell? ⟨FB, 0, none⟩ = some (.int .i64 f.a) ∧ w'.cell? ⟨FB, 1, none⟩ = some (.int .i64 f.b) ∧ w'.cell? ⟨FB, 2, none⟩ = some (.int .i64 f.c)) (first | (go_keep; done) | (go_simp; done)) ((first
              | (go_at_call 179; (with_reducible refine (hGy.out _).mono ?_); rintro e hh1 ⟨vy, rfl, howy, hbY⟩; have hcc := (calm_cells hbY).1; have hszY := hbY.size; (try simp at hszY); have gY1 := fun o => hcc gu o (by first | omega | (simp <;> omega)); have gY2 := fun o => hcc FB o (by first | omega | (simp <;> omega)); clear hcc)
              | (go_at_call 179; (with_reducible refine (hGf.out _).mono ?_); rintro e hh2 ⟨vf, rfl, howf, hbF⟩; have hcc := (calm_cells hbF).1; have hszF := hbF.size; (try simp at hszF); have gF1 := fun o => hcc gu o (by first | omega | (simp <;> omega)); have gF2 := fun o => hcc FB o (by first | omega | (simp <;> omega)); clear hcc)
              | (go_at_call 178; (first | refine (l1Same_any _ _ _ _ (κ y) (κ f) _ hky hkf (own_call hbF howy) howf).mono ?_ | refine (l1Same_any _ _ _ _ (κ y) (κ f) _ hky hkf howy (own_call hbY howf)).mono ?_); rw [hdec]; rintro e hh3 ⟨rfl, hbS⟩; have hcc := (calm_cells hbS).1; have hszS := hbS.size; (try simp at hszS); have gS1 := fun o => hcc gu o (by first | omega | (simp <;> omega)); have gS2 := fun o => hcc FB o (by first | omega | (simp <;> omega)); clear hcc)))
            all_goals
              have hbN : Below WI.heap.size WI hh3 := (by repeat (first | with_reducible exact Below.refl _ _ | with_reducible assumption | with_reducible apply Below.drew | with_reducible apply below_drewN | (with_reducible apply below_setp; (first | omega | (simp <;> omega))) | (with_reducible apply below_allocp; (first | omega | (simp <;> omega))) | (with_reducible refine below_viap (by assumption) ?_ ?_; (first | omega | (simp <;> omega)))))
              go_wp2
              exact ⟨⟨q + 1, rfl, hlq, Lib.hid (.inr hnew.out), hbN⟩, by simp [intOf]; omega⟩
          · have hdec : decide (κ y = κ f) = false := decide_eq_false hm
            have hnew : Hid ((u6 = .int .i64 (-1) ∧ ∀ j (h : j < R.length), j < q + 1 → κ R[j] ≠ κ f) ∨ ∃ j : Nat, ∃ h : j < R.length, u6 = .int .i64 j ∧ κ R[j] = κ f) := Lib.hid (by
              rcases hat.out with ⟨e, h⟩ | h
              · exact .inl ⟨e, hatN.out hm h⟩
              · exact .inr h)
            clear hatY hatN hat
            have cF0 := cF 0; have cF1 := cF 1; have cF2 := cF 2
            simp at cF0 cF1 cF2
            go_wp2
            go_region_held3 (fun w' => w'.cell? ⟨gu, 0, none⟩ = some (.int .i64 y.a) ∧ w'.cell? ⟨gu, 1, none⟩ = some (.int .i64 y.b) ∧ w'.cell? ⟨gu, 2, none⟩ = some (.int .i64 y.c) ∧ w'.cell? ⟨FB, 0, none⟩ = some (.int .i64 f.a) ∧ w'.cell? ⟨FB, 1, none⟩ = some (.int .i64 f.b) ∧ w'.cell? ⟨FB, 2, none⟩ = some (.int .i64 f.c)) (first | (go_keep; done) | (go_simp; done)) ((first
              | (go_at_call 179; (with_reducible refine (hGy.out _).mono ?_); rintro e hh1 ⟨vy, rfl, howy, hbY⟩; have hcc := (calm_cells hbY).1; have hszY := hbY.size; (try simp at hszY); have gY1 := fun o => hcc gu o (by first | omega | (simp <;> omega)); have gY2 := fun o => hcc FB o (by first | omega | (simp <;> omega)); clear hcc)
              | (go_at_call 179; (with_reducible refine (hGf.out _).mono ?_); rintro e hh2 ⟨vf, rfl, howf, hbF⟩; have hcc := (calm_cells hbF).1; have hszF := hbF.size; (try simp at hszF); have gF1 := fun o => hcc gu o (by first | omega | (simp <;> omega)); have gF2 := fun o => hcc FB o (by first | omega | (simp <;> omega)); clear hcc)
              | (go_at_call 178; (first | refine (l1Same_any _ _ _ _ (κ y) (κ f) _ hky hkf (own_call hbF howy) howf).mono ?_ | refine (l1Same_any _ _ _ _ (κ y) (κ f) _ hky hkf howy (own_call hbY howf)).mono ?_); rw [hdec]; rintro e hh3 ⟨rfl, hbS⟩; have hcc := (calm_cells hbS).1; have hszS := hbS.size; (try simp at hszS); have gS1 := fun o => hcc gu o (by first | omega | (simp <;> omega)); have gS2 := fun o => hcc FB o (by first | omega | (simp <;> omega)); clear hcc)))
            all_goals
              have hbN : Below WI.heap.size WI hh3 := (by repeat (first | with_reducible exact Below.refl _ _ | with_reducible assumption | with_reducible apply Below.drew | with_reducible apply below_drewN | (with_reducible apply below_setp; (first | omega | (simp <;> omega))) | (with_reducible apply below_allocp; (first | omega | (simp <;> omega))) | (with_reducible refine below_viap (by assumption) ?_ ?_; (first | omega | (simp <;> omega)))))
              go_wp2
              exact ⟨⟨q + 1, rfl, hlq, hnew, hbN⟩, by simp [intOf]; omega⟩
        · have e : q = R.length := by omega
          have cF0 := cF 0; have cF1 := cF 1; have cF2 := cF 2
          simp at cF0 cF1 cF2
          have hnR := HnW.out.call hbi
          have hbr : Below w1.heap.size w1 wr := below_via hbW hbi (by omega)
          rcases hat.out with ⟨rfl, hno⟩ | ⟨j, hjR, rfl, hjk⟩
          · have hany : (repsK κ P).any (fun g => sameK κ g f) = false := by
              rw [hR, List.any_eq_false]
              intro x hx hs
              obtain ⟨j, hj, rfl⟩ := List.getElem_of_mem hx
              exact hno j hj (by omega) (same_iff.1 hs).symm
            have hx := Lib.hid (show grpK κ (L.take (k + 1)) (L.take (k + 1)) = grpK κ P P ++ [[f]] from by rw [Htk.out]; exact grp_new hany)
            clear hany hno hat cF fF
            subst e
            generalize grpK κ P P = Gk at *
            have how := hnR.1
            rw [hgl] at how
            go_wp2_with (at_builtin; refine wpList_append_own_at _ rfl (.tmp 34) (.tmp 37) 51 rfl w1.heap.size 25 i0 _ 1 24 Tryz.underlying51 hi hz0 hz1 hz2 rfl (by decide) (.slice ob R.length oc) R.length vs rfl ?_ ⟨wr.heap.size + 1, 0, none⟩ 1 1 [.slice (some ⟨wr.heap.size, 0, none⟩) 1 1] rfl rfl ?_ (oneS _) ?_ ?_ ?_ ?_; exact own_alloc (own_alloc how); exact cells1 (Blk.new_at (by simp)); (unfold maxLen; omega); omega; (simp; omega); intro x2 w2 hown2 hgr _ hloc)
            have hwA : Below wr.heap.size wr ((wr.alloc (.cells #[.int .i64 f.a, .int .i64 f.b, .int .i64 f.c] 36)).alloc (.cells #[.slice (some ⟨wr.heap.size, 0, none⟩) 1 1] 25)) := ((Below.refl _ _).alloc (Nat.le_refl _) _).alloc (by simp) _
            have hnN := hnR.snoc hwA (own_alloc (own_oneF (Nat.le_refl _))) (by omega) (by rw [hgl]; exact hown2) hgr hloc
            rw [← hx.out] at hnN
            have hbN : Below w1.heap.size w1 w2 := below_grown (own_ge how) (by simp; omega) hgr (by repeat (first | with_reducible exact Below.refl _ _ | with_reducible assumption | with_reducible apply Below.drew | with_reducible apply below_drewN | (with_reducible apply below_setp; (first | omega | (simp <;> omega))) | (with_reducible apply below_allocp; (first | omega | (simp <;> omega))) | (with_reducible refine below_viap (by assumption) ?_ ?_; (first | omega | (simp <;> omega)))))
            have hzN := hbN.size
            clear hgr hown2 hnR how hloc
            go_wp2
            exact ⟨⟨k + 1, rfl, hlt, hnN, by omega, hbN⟩, by simp [intOf]; omega⟩
          · have hx := Lib.hid (show grpK κ (L.take (k + 1)) (L.take (k + 1)) = (grpK κ P P).set j ((grpK κ P P).getD j [] ++ [f]) from by rw [Htk.out]; exact grp_old (by rw [hR]; exact hjR) (by simp only [hR]; exact hjk.symm))
            have hjG : j < (grpK κ P P).length := by rw [hgl]; exact hjR
            obtain ⟨O, u, rfl, hO, hOB, hu, cO, fO⟩ := hnR.at_ hgl hjR
            obtain ⟨u', hu', hu2, hu3⟩ := hnR.2.1 j hjG
            obtain rfl : u = u' := by rw [hu] at hu'; injection hu'
            have hsl : (grpK κ P P)[j].length ≤ 100000 := by
              have h1 := grp_row_len (κ := κ) P P j hjG
              have h2 : (L.take (k + 1)).length = P.length + 1 := by rw [Htk.out]; simp
              rw [List.length_take] at h2
              omega
            have hgd : (grpK κ P P).getD j [] = (grpK κ P P)[j] := by rw [List.getD_eq_getElem?_getD, List.getElem?_eq_getElem hjG]; rfl
            rw [hgd] at hx
            generalize grpK κ P P = Gk at *
            generalize hQe : Gk[j] = Q at *
            clear hat hgd hjk cF fF hu'
            subst e
            obtain ⟨rb, rc, rfl⟩ := own_shape hu2
            have hOu := hu3
            have n1 : ¬ O = wr.heap.size := by omega
            have n2 : O < wr.heap.size + 1 := by omega
            have n3 : ¬ FB = wr.heap.size := by omega
            have how := hnR.1
            rw [hgl] at how
            go_wp2
            go_region_law (refine step_append_any (wr.drew.alloc (.cells #[.int .i64 f.a, .int .i64 f.b, .int .i64 f.c] 36)) rfl (.tmp 44) (.tmp 46) 25 rfl w1.heap.size 36 j0 _ 3 24 Tryz.underlying25 hj hy0 hy1 hy2 rfl (by omega) (.slice rb Q.length rc) Q.length (cellsF Q) rfl (own_alloc (own_drew hu2)) (wr.heap.size + 1) (some ⟨wr.heap.size, 0, none⟩) 1 1 [.int .i64 f.a, .int .i64 f.b, .int .i64 f.c] rfl ⟨rfl, fun _ => ⟨_, rfl, (by simp), cells3 (Blk.new_at (by simp))⟩⟩ (one3 _ _ _) (by unfold maxLen; omega) (by omega) (by simp; omega) ?_; intro x2 w2 hown2 hgr2 hloc2; obtain ⟨bx, cx, rfl⟩ := own_shape hown2; have how2 := (own_alloc (o := .cells #[.int .i64 f.a, .int .i64 f.b, .int .i64 f.c] 36) (own_drew how)).kept hgr2 (.inr (fun he => hOu O he.symm rfl)); have cO2 := (own_form1 how2 hu).1; have fO2 := own_frozen how2 j)
            all_goals
              have hzz := hgr2.size
              (try simp at hzz)
              have hwA : Below wr.heap.size wr (wr.drew.alloc (.cells #[.int .i64 f.a, .int .i64 f.b, .int .i64 f.c] 36)) := ((Below.refl _ _).drew).alloc (Nat.le_refl _) _
              have hnR2 : NestV w1.heap.size Gk (.slice (some ⟨O, 0, none⟩) Gk.length oc) vs wr := by rw [hgl]; exact hnR
              have hnN := hnR2.put hwA hjG hu (own_snoc (K := Q ++ [f]) rfl hown2) hgr2 hloc2
              rw [hgl, ← hx.out] at hnN
              have hbA : Below w1.heap.size w1 w2 := below_grown (own_ge hu2) (by simp; omega) hgr2 (below_via hbr hwA (by omega))
              have hbN : Below w1.heap.size w1 (w2.setCell ⟨O, j, none⟩ (.slice bx (Q.length + 1) cx)) := hbA.setCell (by simp; omega) _
              clear hnR hnR2 hown2 hgr2 hu2 how how2 hwA hbA
              go_wp2
              exact ⟨⟨k + 1, rfl, hlt, hnN, by simp; omega, hbN⟩, by simp [intOf]; omega⟩
    · have e : k = L.length := by omega
      have hx : L.take k = L := by rw [e, List.take_length]
      rw [hx] at hnest
      have Hn := Lib.hid hnest
      clear hx hnest
      subst e
      go_wp2
      go_ret
      exact ⟨_, rfl, NestF.base hz1' ⟨vs, Hn.out⟩, below_via hb1 hbel hz1'⟩

set_option maxHeartbeats 800000 in
theorem specGen_any (d : Int) (G : List (List Fm)) (ok : Bool) (w : World) (h : (isDisc d = false ∧ G = [] ∧ ok = false) ∨ (isDisc d = true ∧ G = genL d ∧ ok = true)) :
    Calls Tryz.prog 35 #[.int .i64 d] w (RetN2 G ok w) := by
  rcases h with ⟨hc, rfl, rfl⟩ | ⟨hc, hG, rfl⟩
  · go_enter Tryz.func35, Tryz.ntmps35
    go_wp2_with (go_at_call 74; (with_reducible refine (rDisc_eq d false _ hc).mono ?_); rintro e v ⟨rfl, rfl⟩)
    go_ret2
    exact ⟨_, rfl, NestF.nil, (by repeat (first | with_reducible exact Below.refl _ _ | with_reducible assumption | with_reducible apply Below.drew | with_reducible apply below_drewN | (with_reducible apply below_setp; (first | omega | (simp <;> omega))) | (with_reducible apply below_allocp; (first | omega | (simp <;> omega))) | (with_reducible refine below_viap (by assumption) ?_ ?_; (first | omega | (simp <;> omega)))))⟩
  · have hg := fun w => chGenera_any d w (dsc_of hc)
    rw [← hG] at hg
    have HG := Lib.hid hg
    clear hg hG
    go_enter Tryz.func35, Tryz.ntmps35
    go_wp2_with (first
      | (go_at_call 74; (with_reducible refine (rDisc_eq d true _ hc).mono ?_); rintro e v ⟨rfl, rfl⟩)
      | (go_at_call 106; refine (HG.out _).mono ?_; rintro e v5 ⟨vl, rfl, hN, hB5⟩; have hZ5 := hB5.size))
    go_ret2
    exact ⟨_, rfl, hN, (by repeat (first | with_reducible exact Below.refl _ _ | with_reducible assumption | with_reducible apply Below.drew | with_reducible apply below_drewN | (with_reducible apply below_setp; (first | omega | (simp <;> omega))) | (with_reducible apply below_allocp; (first | omega | (simp <;> omega))) | (with_reducible refine below_viap (by assumption) ?_ ?_; (first | omega | (simp <;> omega)))))⟩

end Go.Proofs.YteehcjjhkphdnaaGreat
