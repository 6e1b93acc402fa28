/- Contracts: the invariant factors, by the program. -/
import Derived.Test.YtkkamlhpappebaaSF
namespace Go.Proofs.Ytkkamlhpappebaa
open Go.RowKit

theorem cellsI_set (L : List Int) (i : Nat) (x : Int) : (cellsI L).set i (.int .i64 x) = cellsI (L.set i x) := by simp [cellsI, List.map_set]
/-- How many of the first k orders divide Q. -/
noncomputable def cntK (d : Int) (L : List Fm) (Q k : Nat) : Nat := ((L.take k).filter fun f => Q % ordF d f == 0).length
theorem cntK_next {d : Int} {L : List Fm} {Q k : Nat} (h : k < L.length) : cntK d L Q (k + 1) = cntK d L Q k + if Q % ordF d L[k] = 0 then 1 else 0 := by
  unfold cntK
  rw [filter_take h, List.length_append]
  by_cases e : Q % ordF d L[k] = 0 <;> simp [e]
theorem cntK_le {d : Int} {L : List Fm} {Q : Nat} (k : Nat) : cntK d L Q k ≤ L.length := filter_len L k (Nat.le_refl _)
theorem cntK_full {d : Int} {L : List Fm} (hL : clsL d = L) (Q : Nat) : cntK d L Q L.length = cntO d Q := by
  unfold cntK cntO
  rw [List.take_length, hL]
/-- A list of integers beside the list of primes. -/
def LiSt (X : List Int) (P : List Int) (B2 : Nat) (vp : Value) (w : World) (v : Value) (wr : World) : Prop :=
  wr.ownsRow w.heap.size 3 1 v X.length (cellsI X) ∧ wr.ownsRow B2 3 1 vp P.length (cellsI P) ∧ Apart v vp ∧ Below w.heap.size w wr
def MidSt (d : Int) (p e : Nat) (out P : List Int) (B2 : Nat) (vp : Value) (w : World) (v v6 v7 : Value) (wr : World) : Prop :=
  ∃ j c Q : Nat, v6 = .int .i64 c ∧ v7 = .int .i64 Q ∧ j ≤ e ∧ (1 ≤ c ∧ c ≤ 1640) ∧ (1 ≤ Q ∧ Q ≤ 2689600) ∧ Hid (c = cntO d (p ^ j)) ∧ Hid (Q = p ^ (j + 1)) ∧ LiSt (facP d p out j) P B2 vp w v wr
def CtSt (d : Int) (L : List Fm) (Q : Nat) (v8 vi : Value) : Prop :=
  ∃ k : Nat, vi = .int .i64 k ∧ k ≤ L.length ∧ v8 = .int .i64 (cntK d L Q k : Nat)
def BmSt (R p : Nat) (X P : List Int) (B2 : Nat) (vp : Value) (w : World) (v vi : Value) (wr : World) : Prop :=
  ∃ i : Nat, vi = .int .i64 i ∧ i ≤ R ∧ LiSt (bumpL X i p) P B2 vp w v wr
/-- One place more, that is there. -/
theorem LiSt.bump {X Y P : List Int} {B2 g n cap i : Nat} {vp : Value} {w wr : World} {y : Int} (h : LiSt Y P B2 vp w (.slice (some ⟨g, 0, none⟩) n cap) wr) (_hi : i < Y.length) (hX : X = Y.set i y) :
    LiSt X P B2 vp w (.slice (some ⟨g, 0, none⟩) n cap) (wr.setCell ⟨g, i, none⟩ (.int .i64 y)) := by
  obtain ⟨h1, h2, h3, h4⟩ := h
  have hs := own_shape h1
  obtain ⟨b, c, he⟩ := hs
  injection he with e1 e2 e3
  subst e2
  have hst := h1.stored i (.int .i64 y)
  rw [cellsI_set] at hst
  subst hX
  refine ⟨by rw [List.length_set]; exact hst.1, h2.kept hst.2 h3, h3, ?_⟩
  exact below_grown (own_ge h1) h4.size hst.2 h4
/-- One place more, appended. -/
theorem LiSt.push {X Y P : List Int} {B2 N : Nat} {v vp x2 : Value} {w wr w2 : World} {y : Int} {o : Obj} (h : LiSt Y P B2 vp w v wr) (hX : X = Y ++ [y]) (ho : w2.ownsRow w.heap.size 3 1 x2 (Y.length + 1) (cellsI Y ++ [.int .i64 y]))
    (hg : (wr.alloc o).grownBy w2 v.ownBlock) (hN : (wr.alloc o).heap.size ≤ N) (hloc : x2.ownBlock = v.ownBlock ∨ x2.ownBlock = some N) : LiSt X P B2 vp w x2 w2 := by
  obtain ⟨h1, h2, h3, h4⟩ := h
  have h5 := own_alloc (o := o) h2
  have hz := h4.size
  exact ⟨own_snocI hX ho, h5.kept hg h3, apart_next h3 h5 hN hloc, below_grown (own_ge h1) (by simp; omega) hg (by repeat (first | with_reducible exact Below.refl _ _ | with_reducible assumption | with_reducible apply Below.drew | with_reducible apply below_drewN | (with_reducible apply below_setp; (first | omega | (simp <;> omega))) | (with_reducible apply below_allocp; (first | omega | (simp <;> omega))) | (with_reducible refine below_viap (by assumption) ?_ ?_; (first | omega | (simp <;> omega)))))⟩
theorem LiSt.drew {X P : List Int} {B2 : Nat} {v vp : Value} {w wr : World} (h : LiSt X P B2 vp w v wr) : LiSt X P B2 vp w v wr.drew := ⟨own_drew h.1, own_drew h.2.1, h.2.2.1, Below.drew h.2.2.2⟩
def RvSt (X P : List Int) (B2 : Nat) (vp : Value) (w : World) (v vl vr : Value) (wr : World) : Prop :=
  ∃ l : Nat, vl = .int .i64 l ∧ vr = .int .i64 ((X.length : Int) - 1 - l) ∧ l ≤ X.length ∧ LiSt (rvL X l) P B2 vp w v wr

set_option maxRecDepth 100000 in
set_option maxHeartbeats 6400000 in
theorem invariants_any (d : Int) (L : List Fm) (B : Nat) (bo : Option Addr) (co : Nat) (w : World) (D : Dsc d) (hL : clsL d = L) (ho : w.ownsRow B 3 1 (.slice bo L.length co) L.length (cellsI (ordsL d L))) :
    Calls Try.prog 78 #[.slice bo L.length co] w (RetI (invL d).reverse w) := by
  obtain ⟨i0, hi, hz0, hz1, hz2⟩ := info_parts infoInt
  have hl : L.length ≤ 1640 := by rw [← hL]; exact clsL_len d
  have hl1 : 1 ≤ L.length := by rw [← hL]; exact List.length_pos_of_mem D.one
  have hPr := Lib.hid (fun w => primesOf_any (L.length : Nat) w (by omega) (by omega))
  have hAt := Lib.hid (fun k h => inv_at D (k := k) h)
  have hor := Lib.hid (fun f (h : f ∈ L) => (show 1 ≤ ordF d f ∧ ordF d f ≤ 1640 from by
    obtain ⟨a, b⟩ := D.ordm (f := f) (by rw [hL]; exact h)
    exact ⟨a.1, b⟩))
  have hcf := Lib.hid (cntK_full hL)
  have hX0 := Lib.hid (inv_len D (prims (clsL d).length) [] (fun _ h => h) (by simp))
  rw [hL] at hX0
  have hpl : (prims (L.length : Nat)).length ≤ 1000000 := by
    have h1 := fold_len (facL (L.length : Nat)) []
    have h2 := fac_len (4 * (L.length : Nat) + 20000 : Int).toNat false 2 (L.length : Nat)
    unfold prims facL
    unfold facL at h1
    simp only [List.length_nil] at h1
    omega
  unfold invL
  rw [hL] at hAt ⊢
  generalize prims (L.length : Nat) = P at *
  obtain ⟨go, rfl, _, _⟩ := own_elemO ho (k := 0) hl1
  have Hc := Lib.hid (fun wr (hb : Below w.heap.size w wr) k (hk : k < L.length) => (show wr.cell? ⟨go, k, none⟩ = some (.int .i64 (ordF d L[k] : Int)) ∧ go < wr.heap.size from by
    obtain ⟨g2, e1, e2, e3⟩ := own_elemO (own_call hb ho) hk
    injection e1 with e1; injection e1 with e1; subst e1
    exact ⟨e3, e2⟩))
  clear hL D ho
  go_enter Try.func78, Try.ntmps78
  go_wp2_with (go_at_call 158; refine (hPr.out _).mono ?_; rintro e w1 ⟨vl, rfl, howl, hb1⟩; obtain ⟨base, cap, rfl⟩ := own_shape howl)
  obtain ⟨B2, hB2⟩ : ∃ B2 : Nat, B2 = (w.alloc (.cells #[] 3)).heap.size := ⟨_, rfl⟩
  rw [← hB2] at howl
  have hz1' := hb1.size
  go_loopw [3, 19] (fun v i wr => IntSt (facE d) P B2 (.slice base P.length cap) w v i wr) (fun _ i _ => P.length - (intOf i).toNat)
  case atStart => exact ⟨0, rfl, Nat.zero_le _, own_call hb1 (own_empty (Nat.le_refl _)), howl, apart_below howl (by simp [hB2]), (by repeat (first | with_reducible exact Below.refl _ _ | with_reducible assumption | with_reducible apply Below.drew | with_reducible apply below_drewN | (with_reducible apply below_setp; (first | omega | (simp <;> omega))) | (with_reducible apply below_allocp; (first | omega | (simp <;> omega))) | (with_reducible refine below_viap (by assumption) ?_ ?_; (first | omega | (simp <;> omega)))))⟩
  case round =>
    clear howl hb1 hz1'
    obtain ⟨k, rfl, hk, hown, howl, hap, hbel⟩ := hrel
    by_cases hlt : k < P.length
    · obtain ⟨p, e, r, hpk, hPF, hfe, ⟨hl0, hlj⟩, hbd⟩ := hAt.out k hlt
      obtain ⟨gp, rfl, hg2, d1⟩ := own_elemI howl hlt
      rw [hpk] at d1
      have hft := foldl_take (g := facE d) hlt
      rw [hpk, hfe] at hft
      have Hft := Lib.hid hft
      have hls : LiSt ((P.take k).foldl (facE d) []) P B2 (.slice (some ⟨gp, 0, none⟩) P.length cap) w u3 wr := ⟨hown, howl, hap, hbel⟩
      generalize (P.take k).foldl (facE d) [] = out at *
      have p2 := hPF.p2; have pm := hPF.pm; have m1 := hPF.m1
      have HPF := Lib.hid hPF
      have Hbd := Lib.hid hbd
      have Hlj := Lib.hid hlj
      have hPa := Lib.hid (fun w => part_any p e r L.length w p2 (by omega) hPF.mm (by omega) (by omega) hPF.rp)
      obtain ⟨pe, hpe⟩ : ∃ pe, p ^ e = pe := ⟨_, rfl⟩
      rw [hpe] at hPa
      have Hpe := Lib.hid hpe
      clear hown howl hap hbel hft hpk hfe hPF hbd hlj hpe hl0
      go_wp2
      obtain ⟨wo, rfl⟩ : ∃ wo : World, wo = wr := ⟨_, rfl⟩
      go_loopw [3, 6, 7] (fun v v6 v7 wr => MidSt d p e out P B2 (.slice (some ⟨gp, 0, none⟩) P.length cap) w v v6 v7 wr) (fun _ _ v7 _ => 5000000 - (intOf v7).toNat)
      case atStart => exact ⟨0, 1, p, rfl, rfl, Nat.zero_le _, ⟨Nat.le_refl _, by omega⟩, ⟨by omega, by omega⟩, Lib.hid HPF.out.c0.symm, Lib.hid (by simp), hls⟩
      case round =>
        clear hls
        obtain ⟨j, c, Q, rfl, rfl, hj, ⟨c1, c2⟩, ⟨q1, q2⟩, hc, hQ, hls⟩ := hrel
        by_cases hcp : c < pe
        · have hje : j < e := HPF.out.lt j (by rw [Hpe.out, ← hc.out]; exact hcp)
          have hQm : Q ≤ 1640 := by rw [hQ.out]; have := (HPF.out.pw (j + 1) hje).2; omega
          obtain ⟨hqa, hqb⟩ := HPF.out.q1 j
          obtain ⟨hra, hrb⟩ := HPF.out.rk j
          have hd1 := HPF.out.c1 (j + 1)
          obtain ⟨R, hR⟩ : ∃ R, rkP d p j = R := ⟨_, rfl⟩
          have hnx : Hid (facP d p out (j + 1) = bumpL (facP d p out j) R p) := Lib.hid (by rw [← hR]; rfl)
          obtain ⟨c', hc'⟩ : ∃ c', cntO d (p ^ (j + 1)) = c' := ⟨_, rfl⟩
          rw [hc'] at hqa hqb hra hd1
          rw [← hc.out] at hqa hqb hra
          rw [hR] at hra hrb
          have hEx := Lib.hid (fun w => (show Calls Try.prog 160 #[.int .i64 ((c' : Int) / (c : Int)), .int .i64 p] w (fun e w' => e = .returned (.int .i64 (R : Nat)) ∧ w = w') from by
            rw [← hra]
            exact exponent_any ((c' : Int) / (c : Int)) p w hqa (by omega) (by omega) (by omega)))
          have hcQ : Hid (cntO d Q = c') := Lib.hid (by rw [hQ.out]; exact hc')
          have Hqc : Hid (c' = cntO d (p ^ (j + 1))) := Lib.hid hc'.symm
          have hQ2 : Hid (Q * p = p ^ (j + 1 + 1)) := Lib.hid (by rw [hQ.out, Nat.pow_succ p (j + 1)])
          have hQp : Q * p ≤ 1640 * 1640 := Nat.mul_le_mul hQm (by omega)
          have hQl : Q * 2 ≤ Q * p := Nat.mul_le_mul_left _ p2
          obtain ⟨Q', hQ'⟩ : ∃ Q', Q * p = Q' := ⟨_, rfl⟩
          rw [hQ'] at hQ2 hQp hQl
          have HQ' : Hid ((Q : Int) * (p : Int) = (Q' : Int)) := Lib.hid (by rw [← hQ', Int.natCast_mul])
          have b1 : (Q : Int) * (p : Int) ≤ 2689600 := by rw [HQ'.out]; omega
          have b2 : 0 ≤ (Q : Int) * (p : Int) := by rw [HQ'.out]; omega
          have e1 : ¬ (c : Int) = 0 := by omega
          have e2 : ((c : Int) == 0) = false := by rw [beq_eq_false_iff_ne]; exact e1
          have hqd : 0 ≤ (c' : Int) / (c : Int) := by omega
          have hqe : (c' : Int) / (c : Int) ≤ 1640 := by omega
          have hbel := hls.2.2.2
          have Hls := Lib.hid hls
          clear hls hR hc' hQ' hqa hqb hra
          go_wp2_with (go_at_call 159; (with_reducible refine (hPa.out _).mono ?_); rintro e v ⟨rfl, rfl⟩)
          go_loop [8, 35] (fun v8 vi => CtSt d L Q v8 vi) (fun _ vi => L.length - (intOf vi).toNat)
          case atStart => exact ⟨0, rfl, Nat.zero_le _, by simp [cntK]⟩
          case round =>
            obtain ⟨k2, rfl, hk2, rfl⟩ := hrel
            by_cases hlt2 : k2 < L.length
            · obtain ⟨o1, o2⟩ := Hc.out _ hbel k2 hlt2
              obtain ⟨n1, n2⟩ := hor.out L[k2] (List.getElem_mem hlt2)
              have hnk := cntK_next (d := d) (Q := Q) hlt2
              have hle := cntK_le (d := d) (L := L) (Q := Q) k2
              generalize ordF d L[k2] = N at *
              generalize cntK d L Q k2 = C at *
              have e5 : ¬ (N : Int) = 0 := by omega
              have e6 : ((N : Int) == 0) = false := by rw [beq_eq_false_iff_ne]; exact e5
              by_cases hd : Q % N = 0
              · have e7 : ((Q : Int) % (N : Int) == 0) = true := by rw [beq_iff_eq, ← Int.natCast_emod, hd]; rfl
                have Hnk : Hid (cntK d L Q (k2 + 1) = C + 1) := Lib.hid (by rw [hnk, if_pos hd])
                clear hd hnk
                go_wp2
                go_round
                case rel => exact ⟨k2 + 1, by go_num, hlt2, by rw [Hnk.out]; go_num⟩
                case measure => simp [intOf]; omega
              · have e7 : ((Q : Int) % (N : Int) == 0) = false := by rw [beq_eq_false_iff_ne]; intro h; rw [← Int.natCast_emod] at h; exact hd (by omega)
                have Hnk : Hid (cntK d L Q (k2 + 1) = C) := Lib.hid (by rw [hnk, if_neg hd]; rfl)
                clear hd hnk
                go_wp2
                go_round
                case rel => exact ⟨k2 + 1, by go_num, hlt2, by rw [Hnk.out]⟩
                case measure => simp [intOf]; omega
            · have ek : k2 = L.length := by omega
              subst ek
              have hcc : cntK d L Q L.length = c' := (hcf.out Q).trans hcQ.out
              rw [hcc]
              clear hlt2 hcc hk2
              go_wp2
              obtain ⟨wp, rfl⟩ : ∃ wp : World, wp = wr := ⟨_, rfl⟩
              go_loopw [3, 11] (fun v vi wr => BmSt R p (facP d p out j) P B2 (.slice (some ⟨gp, 0, none⟩) P.length cap) w v vi wr) (fun _ vi _ => R - (intOf vi).toNat)
              case atStart => exact ⟨0, rfl, Nat.zero_le _, by rw [bumpL_zero]; exact Hls.out⟩
              case round =>
                clear Hls hbel
                obtain ⟨i, rfl, hiR, hls⟩ := hrel
                by_cases hlt3 : i < R
                · have hbd2 := Hbd.out j i hje
                  have hln := bumpL_len (facP d p out j) i p
                  have hXl := Hlj.out j
                  have hset := bumpL_set (facP d p out j) i p
                  have hnew := bumpL_new (facP d p out j) i p
                  obtain ⟨Y, hY⟩ : ∃ Y, bumpL (facP d p out j) i p = Y := ⟨_, rfl⟩
                  rw [hY] at hls hln hbd2
                  simp only [hY] at hset hnew
                  have hYl : Y.length ≤ 4000 := by omega
                  have hiY : i ≤ Y.length := by omega
                  have hown := hls.1
                  have hbel := hls.2.2.2
                  have hz := hbel.size
                  by_cases hin : i = Y.length
                  · have Hnew := Lib.hid (hnew hin.symm)
                    clear hset hnew hln hbd2 hXl hiY hY
                    subst hin
                    obtain ⟨b0, c0, rfl⟩ := own_shape hown
                    go_wp2_with (first
                      | (go_at_call 160; (with_reducible refine (hEx.out _).mono ?_); rintro e v ⟨rfl, rfl⟩)
                      | (at_builtin; refine wpList_append_own_at _ rfl (.tmp 59) (.tmp 60) 30 rfl w.heap.size 3 i0 _ 1 8 Try.underlying30 hi hz0 hz1 hz2 rfl (by decide) (.slice b0 Y.length c0) Y.length (cellsI Y) rfl ?_ ⟨wr.heap.size, 0, none⟩ 1 1 [.int .i64 1] rfl rfl ?_ (one1 _) ?_ ?_ ?_ ?_; exact own_alloc hown; exact cells1 (Blk.new _ _ _); (unfold maxLen; omega); omega; (simp; omega); intro x2 w2 hown2 hgr _ hloc; have hl2 := hls.push (X := Y ++ [1]) (y := 1) rfl hown2 hgr (Nat.le_refl _) hloc; obtain ⟨b3, c3, rfl⟩ := own_shape hown2; obtain ⟨g3, rfl, hg3, k3⟩ := own_elemI hl2.1 (k := Y.length) (by simp); have f3 := hown2.frozenAt Y.length; (simp at k3)))
                    have hl3 := hl2.bump (i := Y.length) (y := p) (X := bumpL (facP d p out j) (Y.length + 1) p) (by simp) (by rw [Hnew.out]; simp)
                    clear hgr hown2 hl2 hls hown
                    go_wp2
                    go_roundw
                    case rel => exact ⟨Y.length + 1, by go_num, hlt3, hl3⟩
                    case measure => simp [intOf]; omega
                  · have hin2 : i < Y.length := by omega
                    have Hset := Lib.hid (hset hin2)
                    obtain ⟨b3, c3, rfl⟩ := own_shape hown
                    obtain ⟨g3, rfl, hg3, k3⟩ := own_elemI hown hin2
                    have f3 := hown.frozenAt i
                    obtain ⟨y1, y2⟩ := hbd2 Y[i] (List.getElem_mem hin2)
                    have b3 : Y[i] * (p : Int) ≤ 1640 * 1640 := Int.mul_le_mul y2 (by omega) (by omega) (by omega)
                    have b4 : 0 ≤ Y[i] * (p : Int) := Int.mul_nonneg (by omega) (by omega)
                    have hl3 := hls.bump (i := i) (y := Y[i] * p) (X := bumpL (facP d p out j) (i + 1) p) hin2 Hset.out
                    generalize Y[i] = y at *
                    clear hset hnew hln hbd2 hXl hiY hY hls hown Hset
                    go_wp2_with (go_at_call 160; (with_reducible refine (hEx.out _).mono ?_); rintro e v ⟨rfl, rfl⟩)
                    go_roundw
                    case rel => exact ⟨i + 1, by go_num, hlt3, hl3⟩
                    case measure => simp [intOf]; omega
                · have ei : i = R := by omega
                  subst ei
                  rw [← hnx.out] at hls
                  clear hlt3 hiR
                  go_wp2_with (go_at_call 160; (with_reducible refine (hEx.out _).mono ?_); rintro e v ⟨rfl, rfl⟩)
                  exact ⟨⟨j + 1, c', Q', rfl, by rw [← HQ'.out], hje, ⟨hd1.1, by omega⟩, ⟨by omega, by omega⟩, Hqc, hQ2, hls⟩, by simp only [intOf]; rw [HQ'.out]; omega⟩
        · have hst := HPF.out.st j out hj (by rw [Hpe.out, ← hc.out]; exact hcp)
          rw [hst, ← Hft.out] at hls
          clear hst
          go_wp2_with (go_at_call 159; (with_reducible refine (hPa.out _).mono ?_); rintro e v ⟨rfl, rfl⟩)
          exact ⟨⟨k + 1, by go_num, hlt, hls.1, hls.2.1, hls.2.2.1, hls.2.2.2⟩, by simp [intOf]; omega⟩
    · have e : k = P.length := by omega
      have hx : (P.take k).foldl (facE d) [] = P.foldl (facE d) [] := by rw [e, List.take_length]
      rw [hx] at hown
      clear hx
      subst e
      have hXl := hX0.out
      generalize P.foldl (facE d) [] = X at *
      obtain ⟨b, c, rfl⟩ := own_shape hown
      have hls : LiSt X P B2 (.slice base P.length cap) w (.slice b X.length c) wr := ⟨hown, howl, hap, hbel⟩
      clear hown howl hap hbel
      go_wp2
      go_loopw [12, 13] (fun vl vr wr => RvSt X P B2 (.slice base P.length cap) w (.slice b X.length c) vl vr wr) (fun vl _ _ => X.length - (intOf vl).toNat)
      case atStart => exact ⟨0, rfl, by simp, Nat.zero_le _, by rw [rvL_zero]; exact hls⟩
      case round =>
        clear hls
        obtain ⟨l, rfl, rfl, hl, hls⟩ := hrel
        have hown := hls.1
        have hbel := hls.2.2.2
        have hz := hbel.size
        have hrl := rvL_len X l
        rw [hrl] at hown
        by_cases hlr : (l : Int) < (X.length : Int) - 1 - l
        · obtain ⟨r, hr⟩ : ∃ r : Nat, r = X.length - 1 - l := ⟨_, rfl⟩
          have er : (X.length : Int) - 1 - l = (r : Int) := by omega
          have hlt1 : l < r := by omega
          have hrX : r < X.length := by omega
          have hlX : l < X.length := by omega
          have hs := hls.1
          obtain ⟨g, rfl, hg, k1⟩ := own_elemI hs (k := l) (by rw [hrl]; exact hlX)
          obtain ⟨g', e9, _, k2⟩ := own_elemI hs (k := r) (by rw [hrl]; exact hrX)
          injection e9 with e9; injection e9 with e9; subst e9
          have f1 := hown.frozenAt l
          have f2 := hown.frozenAt r
          obtain ⟨va, ha⟩ : ∃ va, (rvL X l)[l]'(by rw [hrl]; exact hlX) = va := ⟨_, rfl⟩
          obtain ⟨vb, hb⟩ : ∃ vb, (rvL X l)[r]'(by rw [hrl]; exact hrX) = vb := ⟨_, rfl⟩
          have hnx := rvL_next X l r va vb hlt1 (by omega) (by rw [List.getElem?_eq_getElem (by rw [hrl]; exact hlX), ha]) (by rw [List.getElem?_eq_getElem (by rw [hrl]; exact hrX), hb])
          rw [ha] at k1
          rw [hb] at k2
          have hls2 := Lib.hid ((hls.bump (i := l) (y := vb) (by rw [hrl]; exact hlX) rfl).bump (i := r) (y := va) (by simp [hrl]; exact hrX) hnx.symm)
          have Her := Lib.hid er
          have y1 : ¬ l = r := by omega
          have y2 : ¬ r = l := by omega
          rw [er]
          clear hr er ha hb hnx hs hls hown hrl hlr
          go_wp2
          go_region
          go_wp2
          go_roundw
          case rel => exact ⟨l + 1, by go_num, by have := Her.out; congr 1; simp; omega, by omega, hls2.out.drew⟩
          case measure => simp [intOf]; omega
        · have hx := rvL_full X l (by omega)
          have Hx := Lib.hid hx
          clear hx
          go_wp2
          go_ret
          exact ⟨_, rfl, by rw [← Hx.out, hrl]; exact hown, hbel⟩
end Go.Proofs.Ytkkamlhpappebaa
