/- Contract: Automorphs, of the program (written by gen_VF.py). -/
import Derived.Test.YteicampphegolaaVD
import Derived.Test.YteicampphegolaaRG
namespace Go.Proofs.Yteicampphegolaa
open Go.RowKit Go

/-- What Automorphs answers. -/
def AtR (f : Fm) (L : List M4) (ok : Bool) : Prop := (isDefB f.a f.b f.c = false ∧ L = [] ∧ ok = false) ∨ (isDefB f.a f.b f.c = true ∧ L = srtM (autI (red f) (redM f M4.one)) ∧ ok = true)
def RetMb (L : List M4) (ok : Bool) (w : World) (e : Ending) (w' : World) : Prop := ∃ v, e = .returned (.tuple #[v, .bool ok]) ∧ w'.ownsRow w.heap.size 49 4 v L.length (cellsM L) ∧ Below w.heap.size w w'
theorem own_fresh (w : World) (e : TypeId) {B g : Nat} (hg : g = w.heap.size) (hB : B ≤ w.heap.size) : (w.alloc (.cells #[] e)).ownsRow B e 4 (.slice (some ⟨g, 0, none⟩) 0 0) 0 [] := by subst hg; exact own_empty hB
/-- The state of the loop over the turns. -/
def AuSt (r : M4) (T : List M4) (C : List M4) (tv : Value) (B gR : Nat) (w : World) (v vi : Value) (wr : World) : Prop :=
  ∃ k : Nat, vi = .int .i64 k ∧ k ≤ T.length ∧ wr.ownsRow B 49 4 v (srtM (C.take k)).length (cellsM (srtM (C.take k))) ∧ wr.ownsRow w.heap.size 49 4 tv T.length (cellsM T) ∧ Apart v tv ∧
    Blk wr gR 49 #[.int .i64 r.p, .int .i64 r.q, .int .i64 r.r, .int .i64 r.s] ∧ Below w.heap.size w wr
theorem smT_trn (g : Fm) : ∀ m ∈ trnL g ++ (trnL g).map M4.neg, (-2000000 ≤ m.p ∧ m.p ≤ 2000000) ∧ (-2000000 ≤ m.q ∧ m.q ≤ 2000000) ∧ (-2000000 ≤ m.r ∧ m.r ≤ 2000000) ∧ (-2000000 ≤ m.s ∧ m.s ≤ 2000000) := by
  intro m hm
  unfold trnL at hm
  split at hm
  · simp [M4.one, M4.neg] at hm
    rcases hm with rfl | rfl | rfl | rfl <;> simp
  · split at hm
    · simp [M4.one, M4.neg] at hm
      rcases hm with rfl | rfl | rfl | rfl | rfl | rfl <;> simp
    · simp [M4.one, M4.neg] at hm
      rcases hm with rfl | rfl <;> simp
theorem smT_mul {r t : M4} (hr : (-1200 ≤ r.p ∧ r.p ≤ 1200) ∧ (-1200 ≤ r.q ∧ r.q ≤ 1200) ∧ (-1200 ≤ r.r ∧ r.r ≤ 1200) ∧ (-1200 ≤ r.s ∧ r.s ≤ 1200)) (g : Fm) (ht : t ∈ trnL g ++ (trnL g).map M4.neg) :
    (-2000000 ≤ (r.mul t).p ∧ (r.mul t).p ≤ 2000000) ∧ (-2000000 ≤ (r.mul t).q ∧ (r.mul t).q ≤ 2000000) ∧ (-2000000 ≤ (r.mul t).r ∧ (r.mul t).r ≤ 2000000) ∧ (-2000000 ≤ (r.mul t).s ∧ (r.mul t).s ≤ 2000000) := by
  unfold trnL at ht
  obtain ⟨⟨p1, p2⟩, ⟨q1, q2⟩, ⟨r1, r2⟩, ⟨s1, s2⟩⟩ := hr
  split at ht
  · simp [M4.one, M4.neg] at ht
    rcases ht with rfl | rfl | rfl | rfl <;> unfold M4.mul <;> simp <;> omega
  · split at ht
    · simp [M4.one, M4.neg] at ht
      rcases ht with rfl | rfl | rfl | rfl | rfl | rfl <;> unfold M4.mul <;> simp <;> omega
    · simp [M4.one, M4.neg] at ht
      rcases ht with rfl | rfl <;> unfold M4.mul <;> simp <;> omega

set_option maxRecDepth 100000 in
set_option maxHeartbeats 12800000 in
theorem implAut_any (f : Fm) (L : List M4) (ok : Bool) (w : World) (h : AtR f L ok) :
    Calls Try.prog 32 #[.agg #[.int .i64 f.a, .int .i64 f.b, .int .i64 f.c]] w (RetMb L ok w) := by
  obtain ⟨i0, hi, hz0, hz1, hz2⟩ := info_parts infoMt
  have hsz4 : (Try.prog.info? 49).map (·.size) = some 4 := by rw [hi]; simp [hz1]
  have hF := Lib.hid (fun w => iisDef_any f.a f.b f.c w)
  rcases h with ⟨h1, rfl, rfl⟩ | ⟨h1, rfl, rfl⟩
  · rw [h1] at hF
    clear h1
    go_enter Try.func32, Try.ntmps32
    go_wp2_with (go_at_call 101; (with_reducible refine (hF.out _).mono ?_); rintro e v1 ⟨rfl, hB1⟩; have hZ1 := hB1.size; (try simp at hZ1); (try have zl1 : w.heap.size < v1.heap.size := by omega); (try have ze1 : w.heap.size ≤ v1.heap.size := by omega); (try have zn1 : ¬ w.heap.size = v1.heap.size := by omega); (try have zm1 : ¬ v1.heap.size = w.heap.size := by omega); have hA1 : Blk v1 (w.heap.size) 35 #[.int .i64 f.a, .int .i64 f.b, .int .i64 f.c] := Blk.call (by (repeat (first | with_reducible assumption | (with_reducible apply Blk.new_at; (first | rfl | (simp; done))) | with_reducible apply Blk.store3 | with_reducible apply Blk.store4 | (with_reducible apply Blk.farp; (first | omega | (simp <;> omega))) | with_reducible apply Blk.allocp | with_reducible apply Blk.drew | with_reducible apply Blk.drewN))) hB1; have cA1 := hA1.cell; have fA1 := hA1.frozen; have lA1 := hA1.lt; have mA1 := Nat.ne_of_gt lA1; have nA1 := Nat.ne_of_lt lA1)
    go_ret2
    exact ⟨_, rfl, own_base (by omega) (own_empty (Nat.le_refl _)), (by repeat (first | with_reducible exact Below.refl _ _ | with_reducible assumption | with_reducible apply Below.drew | with_reducible apply below_drewN | (with_reducible apply below_setp; (first | omega | (simp <;> omega))) | (with_reducible apply below_allocp; (first | omega | (simp <;> omega))) | (with_reducible refine below_viap (by assumption) ?_ ?_; (first | omega | (simp <;> omega)))))⟩
  · rw [h1] at hF
    have hd := defB_def h1
    have h6 := (isFm_bd (idef_form h1)).2.1
    have AD := autD_of hd
    have hnum : ∀ m ∈ autI (red f) (redM f M4.one), numM m = true := fun m hm => aut_num hd h6 AD m (AD.perm.mem_iff.1 hm)
    have hR := Lib.hid (fun w => reduce_m f w hd)
    have hrb := redM_bd hd
    have hdet := (redM_act (def_mono hd (by decide))).2
    have hT := Lib.hid (fun w => turns_any (red f) w)
    have hsm := smT_trn (red f)
    have hsp : ∀ t ∈ trnL (red f) ++ (trnL (red f)).map M4.neg, _ := fun t ht => smT_mul hrb (red f) ht
    have hTl : (trnL (red f) ++ (trnL (red f)).map M4.neg).length ≤ 6 := by have := trn_len (red f); rw [List.length_append, List.length_map]; omega
    obtain ⟨C, hC⟩ : ∃ C, autI (red f) (redM f M4.one) = C := ⟨_, rfl⟩
    have hC2 : C = (trnL (red f) ++ (trnL (red f)).map M4.neg).map (conj (redM f M4.one)) := hC.symm
    rw [hC] at hnum ⊢
    clear hC h1 hd h6 AD
    generalize trnL (red f) ++ (trnL (red f)).map M4.neg = T at *
    generalize red f = g at *
    generalize redM f M4.one = r at *
    have HC := Lib.hid hC2
    have hCl : C.length = T.length := by rw [hC2, List.length_map]
    have Hnum := Lib.hid hnum
    have Hsm := Lib.hid hsm
    have Hsp := Lib.hid hsp
    obtain ⟨r1, r2, r3, r4⟩ := sm2 hrb
    have hI := Lib.hid (fun w => inverse_m r w hdet r1 r2 r3 r4)
    have hinv : (-2000000 ≤ r.inv.p ∧ r.inv.p ≤ 2000000) ∧ (-2000000 ≤ r.inv.q ∧ r.inv.q ≤ 2000000) ∧ (-2000000 ≤ r.inv.r ∧ r.inv.r ≤ 2000000) ∧ (-2000000 ≤ r.inv.s ∧ r.inv.s ≤ 2000000) := by
      rw [M4.inv1 hdet]; dsimp only; omega
    have Hinv := Lib.hid hinv
    have Hr := Lib.hid (And.intro r1 (And.intro r2 (And.intro r3 r4)))
    have HCl := Lib.hid hCl
    clear hC2 hnum hsm hsp r1 r2 r3 r4 hinv hdet hrb hCl
    go_enter Try.func32, Try.ntmps32
    go_wp2_with (first
      | (go_at_call 101; (with_reducible refine (hF.out _).mono ?_); rintro e v1 ⟨rfl, hB1⟩; have hZ1 := hB1.size; (try simp at hZ1); (try have zl1 : w.heap.size < v1.heap.size := by omega); (try have ze1 : w.heap.size ≤ v1.heap.size := by omega); (try have zn1 : ¬ w.heap.size = v1.heap.size := by omega); (try have zm1 : ¬ v1.heap.size = w.heap.size := by omega); have hA1 : Blk v1 (w.heap.size) 35 #[.int .i64 f.a, .int .i64 f.b, .int .i64 f.c] := Blk.call (by (repeat (first | with_reducible assumption | (with_reducible apply Blk.new_at; (first | rfl | (simp; done))) | with_reducible apply Blk.store3 | with_reducible apply Blk.store4 | (with_reducible apply Blk.farp; (first | omega | (simp <;> omega))) | with_reducible apply Blk.allocp | with_reducible apply Blk.drew | with_reducible apply Blk.drewN))) hB1; have cA1 := hA1.cell; have fA1 := hA1.frozen; have lA1 := hA1.lt; have mA1 := Nat.ne_of_gt lA1; have nA1 := Nat.ne_of_lt lA1)
      | ((go_at_call 111; (with_reducible refine (hR.out _).mono ?_); rintro e v2 ⟨rfl, hB2⟩; have hZ2 := hB2.size; (try simp at hZ2); (try have zl2 : w.heap.size < v2.heap.size := by omega); (try have ze2 : w.heap.size ≤ v2.heap.size := by omega); (try have zn2 : ¬ w.heap.size = v2.heap.size := by omega); (try have zm2 : ¬ v2.heap.size = w.heap.size := by omega); have hA2 : Blk v2 (w.heap.size) 35 #[.int .i64 f.a, .int .i64 f.b, .int .i64 f.c] := Blk.call (by (repeat (first | with_reducible assumption | (with_reducible apply Blk.new_at; (first | rfl | (simp; done))) | with_reducible apply Blk.store3 | with_reducible apply Blk.store4 | (with_reducible apply Blk.farp; (first | omega | (simp <;> omega))) | with_reducible apply Blk.allocp | with_reducible apply Blk.drew | with_reducible apply Blk.drewN))) hB2; have cA2 := hA2.cell; have fA2 := hA2.frozen; have lA2 := hA2.lt; have mA2 := Nat.ne_of_gt lA2; have nA2 := Nat.ne_of_lt lA2); have q2_1 : ¬ w.heap.size = v2.heap.size + 1 := (by omega); have q2_2 : w.heap.size < v2.heap.size + 1 := (by omega))
      | (go_at_call 125; (with_reducible refine (hT.out _).mono ?_); rintro e v3 ⟨tv, rfl, hrow, hB3⟩; obtain ⟨tb, tc, rfl⟩ := own_shape hrow; have hZ3 := hB3.size; (try simp at hZ3); have hX3 : Blk v3 v2.heap.size 35 #[.int .i64 g.a, .int .i64 g.b, .int .i64 g.c] := Blk.call (by (repeat (first | with_reducible assumption | (with_reducible apply Blk.new_at; (first | rfl | (simp; done))) | with_reducible apply Blk.store3 | with_reducible apply Blk.store4 | (with_reducible apply Blk.farp; (first | omega | (simp <;> omega))) | with_reducible apply Blk.allocp | with_reducible apply Blk.drew | with_reducible apply Blk.drewN))) hB3; have hM3 : Blk v3 (v2.heap.size + 1) 49 #[.int .i64 r.p, .int .i64 r.q, .int .i64 r.r, .int .i64 r.s] := Blk.call (by (repeat (first | with_reducible assumption | (with_reducible apply Blk.new_at; (first | rfl | (simp; done))) | with_reducible apply Blk.store3 | with_reducible apply Blk.store4 | (with_reducible apply Blk.farp; (first | omega | (simp <;> omega))) | with_reducible apply Blk.allocp | with_reducible apply Blk.drew | with_reducible apply Blk.drewN))) hB3))
    have hl0 : v3.ownsRow (v2.heap.size + 1 + 1) 49 4 (.slice (some ⟨v2.heap.size + 1 + 1, 0, none⟩) 0 0) (srtM (C.take 0)).length (cellsM (srtM (C.take 0))) := own_call hB3 (own_fresh _ _ (by simp) (by simp))
    have hap0 : Apart (.slice (some ⟨v2.heap.size + 1 + 1, 0, none⟩) 0 0) (.slice tb T.length tc) := by
      rcases hq : (Value.slice tb T.length tc).ownBlock with _ | q
      · exact .inl hq
      · refine .inr ?_
        have := own_ge hrow q hq
        rw [hq]
        intro e
        simp only [Value.ownBlock] at e
        injection e with e
        simp at this
        omega
    have hrow0 : v3.ownsRow w.heap.size 49 4 (.slice tb T.length tc) T.length (cellsM T) := own_base (by simp; omega) hrow
    have hb3 : Below w.heap.size w v3 := (by repeat (first | with_reducible exact Below.refl _ _ | with_reducible assumption | with_reducible apply Below.drew | with_reducible apply below_drewN | (with_reducible apply below_setp; (first | omega | (simp <;> omega))) | (with_reducible apply below_allocp; (first | omega | (simp <;> omega))) | (with_reducible refine below_viap (by assumption) ?_ ?_; (first | omega | (simp <;> omega)))))
    clear hrow hR hT hF
    go_loopw [6, 24] (fun v vi wr => AuSt r T C (.slice tb T.length tc) (v2.heap.size + 1 + 1) (v2.heap.size + 1) w v vi wr) (fun _ vi _ => T.length - (intOf vi).toNat)
    case atStart => exact ⟨0, rfl, Nat.zero_le _, hl0, hrow0, hap0, hM3, hb3⟩
    case round =>
      clear hl0 hrow0 hap0 hM3 hb3 hX3 hB3 hZ3 hA1 cA1 fA1 lA1 mA1 nA1 hB1 hZ1 zl1 ze1 zn1 zm1 hA2 cA2 fA2 lA2 mA2 nA2
      obtain ⟨k, rfl, hk, hown, htv, hap, hM, hbel⟩ := hrel
      obtain ⟨lb, lc, rfl⟩ := own_shape hown
      have hz := hbel.size
      have cM := hM.cell; have fM := hM.frozen; have lM := hM.lt; have mM := Nat.ne_of_gt lM; have nM := Nat.ne_of_lt lM; have oM : v2.heap.size + 1 < wr.heap.size + 1 := by omega
      by_cases hlt : k < T.length
      · have hltC : k < C.length := by rw [HCl.out]; exact hlt
        obtain ⟨gT, rfl, lT, d1, d2, d3, d4⟩ := own_elemM htv hlt
        have hCk : C[k] = conj r T[k] := by have := HC.out; subst this; simp
        have hS := Lib.hid (srt_next C hltC)
        rw [hCk] at hS
        have hn := Hnum.out _ (List.getElem_mem hltC)
        rw [hCk] at hn
        obtain ⟨t1, t2, t3, t4⟩ := Hsm.out _ (List.getElem_mem hlt)
        obtain ⟨p1, p2, p3, p4⟩ := Hsp.out _ (List.getElem_mem hlt)
        obtain ⟨r1, r2, r3, r4⟩ := Hr.out
        obtain ⟨i1, i2, i3, i4⟩ := Hinv.out
        have hT1 := Lib.hid (fun w => times_mul (m := r) (n := T[k]) r1 r2 r3 r4 t1 t2 t3 t4 w)
        have hT2 := Lib.hid (fun w => times_mul (m := r.mul T[k]) (n := r.inv) p1 p2 p3 p4 i1 i2 i3 i4 w)
        have hLl : (srtM (C.take k)).length = k := by rw [srt_len, List.length_take]; omega
        have hN := Lib.hid (fun w => isMx_any (conj r T[k]) w)
        rw [hn] at hN
        rw [show (r.mul T[k]).mul r.inv = conj r T[k] from rfl] at hT2
        clear hCk hn t1 t2 t3 t4 p1 p2 p3 p4 r1 r2 r3 r4 i1 i2 i3 i4
        generalize r.mul T[k] = rt at *
        generalize r.inv = ri at *
        generalize conj r T[k] = m at *
        generalize T[k] = t at *
        generalize srtM (C.take k) = L at *
        have HLl := Lib.hid hLl
        clear hLl
        have hL6 : L.length ≤ 6 := by have := HLl.out; omega
        go_wp2
        refine wp_region_calmA 7 6 9 (.cells #[.int .i64 0, .int .i64 0, .int .i64 0, .int .i64 0] 49) (wr.heap.size + 1) (by kernel_rfl) (by kernel_rfl) rfl rfl (fun _ _ => ⟨by kernel_rfl, by kernel_rfl⟩) (by first | omega | (simp <;> omega)) ((Below.refl _ _).drew) ?_
        simp only [List.take_succ_cons, List.take_zero, List.drop_succ_cons, List.drop_zero]
        repeat (first | (refine wpA_made ?_; (intro K hK; go_simp; refine hK _ ?_; clear hK K)) | (apply wpA_go; (first | decide | simp); go_simp; (intro w' hw' hcc hff; go_simp; first | exact ⟨rfl, Below.refl _ _⟩ | ((with_reducible refine (hT1.out _).mono ?_); rintro ee w1 ⟨rfl, hb⟩; exact ⟨rfl, hb⟩) | ((with_reducible refine (hI.out _).mono ?_); rintro ee w1 ⟨rfl, hb⟩; exact ⟨rfl, hb⟩) | ((with_reducible refine (hT2.out _).mono ?_); rintro ee w1 ⟨rfl, hb⟩; exact ⟨rfl, hb⟩)); (intro K hK; go_simp; refine hK _ ?_; clear hK K)) | (apply wpA_skip; (first | decide | simp); go_simp; (try (focus (simp [undef]; done))); (intro K hK; go_simp; refine hK _ ?_; clear hK K)))
        refine wpY_nil ?_
        intro pA w1 hpA hlA hoA hw1
        have hcc := (calm_cells hw1).1
        have hff := (calm_cells hw1).2
        have hsz := hw1.size
        (try simp at hsz)
        have hKA : Blk w1 pA 49 #[.int .i64 0, .int .i64 0, .int .i64 0, .int .i64 0] := hoA
        have cKA := hKA.cell; have fKA := hKA.frozen; have mKA := Nat.ne_of_gt hlA; have nKA := Nat.ne_of_lt hlA
        have nMA : ¬ v2.heap.size + 1 = pA := by omega
        have mMA : ¬ pA = v2.heap.size + 1 := by omega
        have hM5 : Blk w1 (v2.heap.size + 1) 49 #[.int .i64 r.p, .int .i64 r.q, .int .i64 r.r, .int .i64 r.s] := Blk.below (by (repeat (first | with_reducible assumption | (with_reducible apply Blk.new_at; (first | rfl | (simp; done))) | with_reducible apply Blk.store3 | with_reducible apply Blk.store4 | (with_reducible apply Blk.farp; (first | omega | (simp <;> omega))) | with_reducible apply Blk.allocp | with_reducible apply Blk.drew | with_reducible apply Blk.drewN))) hw1 (by first | omega | (simp <;> omega))
        have cM5 := hM5.cell; have fM5 := hM5.frozen; have lM5 := hM5.lt; have mM5 := Nat.ne_of_gt lM5; have nM5 := Nat.ne_of_lt lM5
        go_wp2_with (go_at_call 112; (with_reducible refine (hN.out _).mono ?_); rintro e v4 ⟨rfl, hB4⟩; have hZ4 := hB4.size; (try simp at hZ4); (try have zl4 : w.heap.size < v4.heap.size := by omega); (try have ze4 : w.heap.size ≤ v4.heap.size := by omega); (try have zn4 : ¬ w.heap.size = v4.heap.size := by omega); (try have zm4 : ¬ v4.heap.size = w.heap.size := by omega); have hM4 : Blk v4 (v2.heap.size + 1) 49 #[.int .i64 r.p, .int .i64 r.q, .int .i64 r.r, .int .i64 r.s] := Blk.call (by (repeat (first | with_reducible assumption | (with_reducible apply Blk.new_at; (first | rfl | (simp; done))) | with_reducible apply Blk.store3 | with_reducible apply Blk.store4 | (with_reducible apply Blk.farp; (first | omega | (simp <;> omega))) | with_reducible apply Blk.allocp | with_reducible apply Blk.drew | with_reducible apply Blk.drewN))) hB4; have cM4 := hM4.cell; have fM4 := hM4.frozen; have lM4 := hM4.lt; have mM4 := Nat.ne_of_gt lM4; have nM4 := Nat.ne_of_lt lM4; have hK4 : Blk v4 (pA) 49 #[.int .i64 m.p, .int .i64 m.q, .int .i64 m.r, .int .i64 m.s] := Blk.call (by (repeat (first | with_reducible assumption | (with_reducible apply Blk.new_at; (first | rfl | (simp; done))) | with_reducible apply Blk.store3 | with_reducible apply Blk.store4 | (with_reducible apply Blk.farp; (first | omega | (simp <;> omega))) | with_reducible apply Blk.allocp | with_reducible apply Blk.drew | with_reducible apply Blk.drewN))) hB4; have cK4 := hK4.cell; have fK4 := hK4.frozen; have lK4 := hK4.lt; have mK4 := Nat.ne_of_gt lK4; have nK4 := Nat.ne_of_lt lK4)
        have hq4 : Below wr.heap.size wr v4 := (by repeat (first | with_reducible exact Below.refl _ _ | with_reducible assumption | with_reducible apply Below.drew | with_reducible apply below_drewN | (with_reducible apply below_setp; (first | omega | (simp <;> omega))) | (with_reducible apply below_allocp; (first | omega | (simp <;> omega))) | (with_reducible refine below_viap (by assumption) ?_ ?_; (first | omega | (simp <;> omega)))))
        have hown4 := own_call hq4 hown
        have htv4 := own_call hq4 htv
        have hb4 : Below w.heap.size w v4 := below_via hbel hq4 hbel.size
        have hz4 := hq4.size
        have hvb : v2.heap.size + 1 + 1 ≤ v4.heap.size := by omega
        have hKn : ∀ q, (Value.slice lb L.length lc).ownBlock = some q → q ≠ pA := fun q hq => by have := (hown.lt q hq).2; omega
        clear hB4 hZ4 zl4 ze4 zn4 zm4 cM4 fM4 lM4 mM4 nM4 cK4 fK4 lK4 mK4 nK4 hw1 hcc hff hsz hKA cKA fKA mKA nKA nMA mMA hM5 cM5 fM5 lM5 mM5 nM5 hoA hlA hpA cM fM lM mM nM oM hM hown htv hT1 hT2 hI hN d1 d2 d3 d4 hbel hq4
        obtain ⟨wo, hwo⟩ : ∃ wo : World, wo = wr := ⟨_, rfl⟩
        have hlt4 : wr.heap.size ≤ v4.heap.size := hz4
        rw [← hwo] at hz4 hlt4 lT ⊢
        clear hwo
        go_loopw [10] (fun va wr => ∃ a : Nat, va = .int .i64 a ∧ a ≤ L.length ∧ Hid (posM m L L.length = posM m L a) ∧ Below v4.heap.size v4 wr) (fun va _ => (intOf va).toNat)
        case atStart => exact ⟨L.length, rfl, Nat.le_refl _, Lib.hid rfl, Below.refl _ _⟩
        case round =>
          obtain ⟨a, rfl, ha, hp, hbi⟩ := hrel
          have hzi := hbi.size
          have hKi : Blk wr pA 49 #[.int .i64 m.p, .int .i64 m.q, .int .i64 m.r, .int .i64 m.s] := hK4.call hbi
          have cKi := hKi.cell; have fKi := hKi.frozen; have lKi := hKi.lt; have mKi := Nat.ne_of_gt lKi; have nKi := Nat.ne_of_lt lKi
          have howni := own_call hbi hown4
          by_cases h0 : 0 < a
          · obtain ⟨b, hb⟩ : ∃ b, a = b + 1 := ⟨a - 1, by omega⟩
            have haL : b < L.length := by omega
            obtain ⟨g6, hlb, l6, e1, e2, e3, e4⟩ := own_elemM howni haL
            have hwa : IntKind.i64.wrap ((a : Int) - 1) = (b : Int) := by rw [show (a : Int) - 1 = (b : Int) by omega]; exact IntWalk.i64_in _ (by omega)
            have haI : (b : Int) < (L.length : Int) := by omega
            have ha2 : (0 : Int) < (a : Int) := by omega
            have hLa : (L.getD b M4.one) = L[b] := by rw [List.getD_eq_getElem?_getD, List.getElem?_eq_getElem haL]; rfl
            have hLs := Lib.hid (fun w => lessM_any m L[b] w)
            have hp' := hp.out
            rw [hb] at hp'
            have HB := Lib.hid hb
            cases hl : lesM m L[b] with
            | true =>
              have hp2 := Lib.hid (hp'.trans (posM_succ m L b (by rw [hLa]; exact hl)))
              rw [hl] at hLs
              clear hp hp' hl hLa hb
              generalize L[b] = y at *
              subst hlb
              go_wp2
              refine wp_region_calm 11 (Below (wr.heap.size) _) (by kernel_rfl) (by kernel_rfl) ((Below.refl _ _).drew) ?_
              simp only [List.take_succ_cons, List.take_zero, List.drop_succ_cons, List.drop_zero]
              repeat (first | (apply wpCalm_go; go_simp; (intro w' hw' hcc hff; go_simp; first | exact rfl | ((with_reducible refine (hLs.out _).mono ?_); rintro ee w1 ⟨rfl, hb⟩; exact ⟨rfl, calm_call (by simp <;> omega) hw' hb⟩)); (intro K hK; go_simp; refine hK _ ?_; clear hK K)) | (apply wpCalm_skip; go_simp; (try (focus (simp [undef]; done))); (intro K hK; go_simp; refine hK _ ?_; clear hK K)))
              refine wpCalm_nil ?_
              intro w1 hw1
              have hcc := (calm_cells hw1).1
              have hff := (calm_cells hw1).2
              have hss := calm_size hw1
              have hsz := hw1.size
              (try simp at hsz)
              go_wp2
              go_roundw
              case rel => exact ⟨b, congrArg (Value.int IntKind.i64) (by have := HB.out; omega), by omega, hp2, (by repeat (first | with_reducible exact Below.refl _ _ | with_reducible assumption | with_reducible apply Below.drew | with_reducible apply below_drewN | (with_reducible apply below_setp; (first | omega | (simp <;> omega))) | (with_reducible apply below_allocp; (first | omega | (simp <;> omega))) | (with_reducible refine below_viap (by assumption) ?_ ?_; (first | omega | (simp <;> omega)))))⟩
              case measure => have := HB.out; simp [intOf]; omega
            | false =>
              have hpos : Hid (posM m L L.length = a) := Lib.hid (hp'.trans ((posM_stop m L b (by rw [hLa]; exact hl)).trans hb.symm))
              rw [hl] at hLs
              clear hp hp' hl hLa hb
              generalize L[b] = y at *
              subst hlb
              go_wp2
              refine wp_region_calm 11 (Below (wr.heap.size) _) (by kernel_rfl) (by kernel_rfl) ((Below.refl _ _).drew) ?_
              simp only [List.take_succ_cons, List.take_zero, List.drop_succ_cons, List.drop_zero]
              repeat (first | (apply wpCalm_go; go_simp; (intro w' hw' hcc hff; go_simp; first | exact rfl | ((with_reducible refine (hLs.out _).mono ?_); rintro ee w1 ⟨rfl, hb⟩; exact ⟨rfl, calm_call (by simp <;> omega) hw' hb⟩)); (intro K hK; go_simp; refine hK _ ?_; clear hK K)) | (apply wpCalm_skip; go_simp; (try (focus (simp [undef]; done))); (intro K hK; go_simp; refine hK _ ?_; clear hK K)))
              refine wpCalm_nil ?_
              intro w1 hw1
              have hcc := (calm_cells hw1).1
              have hff := (calm_cells hw1).2
              have hss := calm_size hw1
              have hsz := hw1.size
              (try simp at hsz)
              clear hLs e1 e2 e3 e4 hwa haI ha2 HB haL l6 h0
              have hq1 : Below v4.heap.size v4 w1 := below_via hbi hw1 (by first | exact hbi.size | omega)
              have hzq := hq1.size
              have hownq := own_call hq1 hown4
              have htvq := own_call hq1 htv4
              have hMq : Blk w1 (v2.heap.size + 1) 49 #[.int .i64 r.p, .int .i64 r.q, .int .i64 r.r, .int .i64 r.s] := hM4.call hq1
              have hKq : Blk w1 pA 49 #[.int .i64 m.p, .int .i64 m.q, .int .i64 m.r, .int .i64 m.s] := hK4.call hq1
              have hbq : Below w.heap.size w w1 := below_via hb4 hq1 hb4.size
              have hin := Lib.hid (show insM L m = L.take a ++ m :: L.drop a by unfold insM; rw [hpos.out])
              have hA : a ≤ L.length := by omega
              clear hpos hcc hff hw1 hsz hss hbi hzi hKi cKi fKi lKi mKi nKi howni
              go_wp2_with (at_builtin; refine wpList_append_own_at _ rfl (.tmp 53) (.tmp 55) 61 rfl (v2.heap.size + 1 + 1) 49 i0 _ 4 32 Try.underlying61 hi hz0 hz1 hz2 rfl (by decide) (.slice (some ⟨g6, 0, none⟩) L.length lc) L.length (cellsM L) rfl ?_ ⟨w1.heap.size, 0, none⟩ 1 1 [.int .i64 0, .int .i64 0, .int .i64 0, .int .i64 0] rfl rfl ?_ (one4m _ _ _ _) ?_ ?_ ?_ ?_; exact (by repeat (first | with_reducible assumption | with_reducible apply own_alloc | with_reducible apply own_drew | with_reducible apply own_drewN | (with_reducible refine own_setp (by assumption) ?_ ?_; (first | omega | (simp <;> omega))) | (with_reducible refine own_call (by assumption) ?_))); exact blk_news (Blk.new_at (by simp)); (unfold maxLen; omega); omega; (simp; omega); intro x2 w2 hown2 hgr _ hloc; obtain ⟨g5, c5, rfl, hg5, hl5, hc5⟩ := own_some hown2 (by omega); have hsy := hgr.size; (try simp at hsy))
              have hap2 : Apart (.slice (some ⟨g5, 0, none⟩) (L.length + 1) c5) (.slice (some ⟨gT, 0, none⟩) T.length tc) := apart_next hap htvq (show w1.heap.size ≤ (w1.alloc (.cells #[.int .i64 0, .int .i64 0, .int .i64 0, .int .i64 0] 49)).heap.size by simp) hloc
              have hne : gT ≠ g5 := hap2.elim (fun h => by cases h) (fun h e => h (by rw [e]; rfl))
              have htv2 : w2.ownsRow w.heap.size 49 4 (.slice (some ⟨gT, 0, none⟩) T.length tc) T.length (cellsM T) := (own_alloc htvq).kept hgr hap
              have hM2 : Blk w2 (v2.heap.size + 1) 49 #[.int .i64 r.p, .int .i64 r.q, .int .i64 r.r, .int .i64 r.s] := Blk.grown (Blk.allocp hMq) hgr (fun e => by have := own_ge hownq _ e.symm; omega)
              have hK2 : Blk w2 pA 49 #[.int .i64 m.p, .int .i64 m.q, .int .i64 m.r, .int .i64 m.s] := Blk.grown (Blk.allocp hKq) hgr (fun e => hKn _ e.symm rfl)
              have hb2 : Below w.heap.size w w2 := Below.grown ((by repeat (first | with_reducible exact Below.refl _ _ | with_reducible assumption | with_reducible apply Below.drew | with_reducible apply below_drewN | (with_reducible apply below_setp; (first | omega | (simp <;> omega))) | (with_reducible apply below_allocp; (first | omega | (simp <;> omega))) | (with_reducible refine below_viap (by assumption) ?_ ?_; (first | omega | (simp <;> omega)))))) hgr (by simp; omega) (fun q hq => by have := own_ge hownq q hq; omega)
              have hKg : pA ≠ g5 := hloc.elim (fun e h => hKn g5 (e.symm.trans rfl) h.symm) (fun e h => by injection e with e; simp at e; have := hKq.lt; omega)
              obtain ⟨m0, hm0⟩ : ∃ m0, m0 = L.length - a := ⟨_, rfl⟩
              obtain ⟨a1, ha1⟩ : ∃ a1 : Nat, a1 = a + 1 := ⟨_, rfl⟩
              have hwA : IntKind.i64.wrap ((a : Int) + 1) = (a1 : Int) := by rw [show (a : Int) + 1 = (a1 : Int) by omega]; exact IntWalk.i64_in _ (by omega)
              have hA2 : (a1 : Int) ≤ (L.length : Int) + 1 := by omega
              have hA4 : (a : Int) ≤ (L.length : Int) + 1 := by omega
              have HA1 := Lib.hid ha1
              clear ha1
              have hA3 : (L.length : Int) + 1 ≤ c5 := by omega
              clear hgr hloc hap hownq htvq hMq hKq hbq hq1 hown4 htv4 hb4 hM4 hK4
              have hA5 : (a : Int) < (L.length : Int) + 1 := by omega
              refine wp_region_calm 7 (Below (w2.heap.size) _) (by kernel_rfl) (by kernel_rfl) ((Below.refl _ _).drew) ?_
              simp only [List.take_succ_cons, List.take_zero, List.drop_succ_cons, List.drop_zero]
              repeat (first | (apply wpCalm_go; go_simp; (intro w' hw' hcc hff; go_simp; first | exact rfl | fail); (intro K hK; go_simp; refine hK _ ?_; clear hK K)) | (apply wpCalm_skip; go_simp; (try (focus (simp [undef]; done))); (intro K hK; go_simp; refine hK _ ?_; clear hK K)))
              refine wpCalm_nil ?_
              intro w1 hw1
              have hcc := (calm_cells hw1).1
              have hff := (calm_cells hw1).2
              have hss := calm_size hw1
              have hsz := hw1.size
              (try simp at hsz)
              have hown3 := own_call hw1 hown2
              have htv3 := own_call hw1 htv2
              have hM3 := hM2.call hw1
              have hK3 := hK2.call hw1
              have hb3 : Below w.heap.size w w1 := below_via hb2 hw1 hb2.size
              clear hown2 htv2 hM2 hK2 hb2 hcc hff hss hw1
              refine wpList_copy_ownK rfl (.tmp 60) (.tmp 63) 61 61 rfl 49 Try.underlying61 4 hsz4 _ _ _ _ _ _ rfl rfl (v2.heap.size + 1 + 1) g5 (L.length + 1) c5 49 _ hown3 ?_ a1 a m0 ?_ ?_ ?_ ?_ ?_
              · exact fun u hu => (List.mem_append.1 hu).elim (cellsM_one L u) (one4m _ _ _ _ u)
              · show m0 = min (L.length + 1 - a) (L.length + 1 - a1)
                have := HA1.out; omega
              · intro h; have := HA1.out; rw [if_neg (by omega), if_neg (by omega)]; exact ⟨rfl, rfl⟩
              · have := HA1.out; omega
              · omega
              · intro w3 hown5 hgr3
                obtain ⟨y0, y1, y2, y3, hy⟩ := cpy_cells hA HA1.out hm0 (show ([.int .i64 0, .int .i64 0, .int .i64 0, .int .i64 0] : List Value).length = 4 from rfl)
                rw [hy] at hown5
                have hAl : (cellsM (L.take a)).length = a * 4 := by rw [cellsM_len, List.length_take, Nat.min_eq_left hA]
                obtain ⟨z0, z1, z2, z3⟩ := mid_get (cellsM (L.take a)) (cellsM (L.drop a)) (a * 4) y0 y1 y2 y3 hAl
                have f0 := row_cells hown5 _ _ z0; have f1 := row_cells hown5 _ _ z1; have f2 := row_cells hown5 _ _ z2; have f3 := row_cells hown5 _ _ z3
                have fz := own_froz hown5
                have hK5 : Blk w3 pA 49 #[.int .i64 m.p, .int .i64 m.q, .int .i64 m.r, .int .i64 m.s] := Blk.grown hK3 hgr3 (fun e => hKg (by injection e))
                have hM5 : Blk w3 (v2.heap.size + 1) 49 #[.int .i64 r.p, .int .i64 r.q, .int .i64 r.r, .int .i64 r.s] := Blk.grown hM3 hgr3 (fun e => by injection e with e; omega)
                have htv5 := htv3.kept hgr3 (.inr (fun e => hne (by injection e)))
                have hb5 : Below w.heap.size w w3 := Below.grown hb3 hgr3 hb3.size (fun q hq => by injection hq with hq; omega)
                have hK5c := hK5.cell; have hK5f := hK5.frozen; have hK5l := hK5.lt
                have Hown := Lib.hid hown5
                have hgK : ¬ g5 = pA := fun e => hKg e.symm
                clear hy hAl z0 z1 z2 z3 hgr3 hM3 hK3 htv3 hown3 hb3 hown5 hm0 HA1 hwA hA2 hA4
                go_wp2
                go_roundw
                case rel => exact ⟨k + 1, by go_num, hlt, by rw [hS.out, hin.out, mid_len L m hA]; exact own_mid hA m Hown.out, own_nq (own_nq (own_nq (own_nq htv5 hne) hne) hne) hne, hap2, (by (repeat (first | with_reducible assumption | (with_reducible apply Blk.new_at; (first | rfl | (simp; done))) | with_reducible apply Blk.store3 | with_reducible apply Blk.store4 | (with_reducible apply Blk.farp; (first | omega | (simp <;> omega))) | with_reducible apply Blk.allocp | with_reducible apply Blk.drew | with_reducible apply Blk.drewN))), (by repeat (first | with_reducible exact Below.refl _ _ | with_reducible assumption | with_reducible apply Below.drew | with_reducible apply below_drewN | (with_reducible apply below_setp; (first | omega | (simp <;> omega))) | (with_reducible apply below_allocp; (first | omega | (simp <;> omega))) | (with_reducible refine below_viap (by assumption) ?_ ?_; (first | omega | (simp <;> omega)))))⟩
                case measure => simp [intOf]; omega
          · have hn0 : ¬ (0 : Int) < (a : Int) := by omega
            have hpos : Hid (posM m L L.length = a) := Lib.hid (by
              have h : a = 0 := (by omega)
              have hq := hp.out
              rw [h] at hq ⊢
              exact hq)
            clear hp
            go_wp2
            refine wp_region_calm 11 (Below (wr.heap.size) _) (by kernel_rfl) (by kernel_rfl) ((Below.refl _ _).drew) ?_
            simp only [List.take_succ_cons, List.take_zero, List.drop_succ_cons, List.drop_zero]
            repeat (first | (apply wpCalm_go; go_simp; (intro w' hw' hcc hff; go_simp; first | exact rfl | fail); (intro K hK; go_simp; refine hK _ ?_; clear hK K)) | (apply wpCalm_skip; go_simp; (try (focus (simp [undef]; done))); (intro K hK; go_simp; refine hK _ ?_; clear hK K)))
            refine wpCalm_nil ?_
            intro w1 hw1
            have hcc := (calm_cells hw1).1
            have hff := (calm_cells hw1).2
            have hss := calm_size hw1
            have hsz := hw1.size
            (try simp at hsz)
            clear hn0 h0
            have hq1 : Below v4.heap.size v4 w1 := below_via hbi hw1 (by first | exact hbi.size | omega)
            have hzq := hq1.size
            have hownq := own_call hq1 hown4
            have htvq := own_call hq1 htv4
            have hMq : Blk w1 (v2.heap.size + 1) 49 #[.int .i64 r.p, .int .i64 r.q, .int .i64 r.r, .int .i64 r.s] := hM4.call hq1
            have hKq : Blk w1 pA 49 #[.int .i64 m.p, .int .i64 m.q, .int .i64 m.r, .int .i64 m.s] := hK4.call hq1
            have hbq : Below w.heap.size w w1 := below_via hb4 hq1 hb4.size
            have hin := Lib.hid (show insM L m = L.take a ++ m :: L.drop a by unfold insM; rw [hpos.out])
            have hA : a ≤ L.length := by omega
            clear hpos hcc hff hw1 hsz hss hbi hzi hKi cKi fKi lKi mKi nKi howni
            go_wp2_with (at_builtin; refine wpList_append_own_at _ rfl (.tmp 53) (.tmp 55) 61 rfl (v2.heap.size + 1 + 1) 49 i0 _ 4 32 Try.underlying61 hi hz0 hz1 hz2 rfl (by decide) (.slice lb L.length lc) L.length (cellsM L) rfl ?_ ⟨w1.heap.size, 0, none⟩ 1 1 [.int .i64 0, .int .i64 0, .int .i64 0, .int .i64 0] rfl rfl ?_ (one4m _ _ _ _) ?_ ?_ ?_ ?_; exact (by repeat (first | with_reducible assumption | with_reducible apply own_alloc | with_reducible apply own_drew | with_reducible apply own_drewN | (with_reducible refine own_setp (by assumption) ?_ ?_; (first | omega | (simp <;> omega))) | (with_reducible refine own_call (by assumption) ?_))); exact blk_news (Blk.new_at (by simp)); (unfold maxLen; omega); omega; (simp; omega); intro x2 w2 hown2 hgr _ hloc; obtain ⟨g5, c5, rfl, hg5, hl5, hc5⟩ := own_some hown2 (by omega); have hsy := hgr.size; (try simp at hsy))
            have hap2 : Apart (.slice (some ⟨g5, 0, none⟩) (L.length + 1) c5) (.slice (some ⟨gT, 0, none⟩) T.length tc) := apart_next hap htvq (show w1.heap.size ≤ (w1.alloc (.cells #[.int .i64 0, .int .i64 0, .int .i64 0, .int .i64 0] 49)).heap.size by simp) hloc
            have hne : gT ≠ g5 := hap2.elim (fun h => by cases h) (fun h e => h (by rw [e]; rfl))
            have htv2 : w2.ownsRow w.heap.size 49 4 (.slice (some ⟨gT, 0, none⟩) T.length tc) T.length (cellsM T) := (own_alloc htvq).kept hgr hap
            have hM2 : Blk w2 (v2.heap.size + 1) 49 #[.int .i64 r.p, .int .i64 r.q, .int .i64 r.r, .int .i64 r.s] := Blk.grown (Blk.allocp hMq) hgr (fun e => by have := own_ge hownq _ e.symm; omega)
            have hK2 : Blk w2 pA 49 #[.int .i64 m.p, .int .i64 m.q, .int .i64 m.r, .int .i64 m.s] := Blk.grown (Blk.allocp hKq) hgr (fun e => hKn _ e.symm rfl)
            have hb2 : Below w.heap.size w w2 := Below.grown ((by repeat (first | with_reducible exact Below.refl _ _ | with_reducible assumption | with_reducible apply Below.drew | with_reducible apply below_drewN | (with_reducible apply below_setp; (first | omega | (simp <;> omega))) | (with_reducible apply below_allocp; (first | omega | (simp <;> omega))) | (with_reducible refine below_viap (by assumption) ?_ ?_; (first | omega | (simp <;> omega)))))) hgr (by simp; omega) (fun q hq => by have := own_ge hownq q hq; omega)
            have hKg : pA ≠ g5 := hloc.elim (fun e h => hKn g5 (e.symm.trans rfl) h.symm) (fun e h => by injection e with e; simp at e; have := hKq.lt; omega)
            obtain ⟨m0, hm0⟩ : ∃ m0, m0 = L.length - a := ⟨_, rfl⟩
            obtain ⟨a1, ha1⟩ : ∃ a1 : Nat, a1 = a + 1 := ⟨_, rfl⟩
            have hwA : IntKind.i64.wrap ((a : Int) + 1) = (a1 : Int) := by rw [show (a : Int) + 1 = (a1 : Int) by omega]; exact IntWalk.i64_in _ (by omega)
            have hA2 : (a1 : Int) ≤ (L.length : Int) + 1 := by omega
            have hA4 : (a : Int) ≤ (L.length : Int) + 1 := by omega
            have HA1 := Lib.hid ha1
            clear ha1
            have hA3 : (L.length : Int) + 1 ≤ c5 := by omega
            clear hgr hloc hap hownq htvq hMq hKq hbq hq1 hown4 htv4 hb4 hM4 hK4
            have hA5 : (a : Int) < (L.length : Int) + 1 := by omega
            refine wp_region_calm 7 (Below (w2.heap.size) _) (by kernel_rfl) (by kernel_rfl) ((Below.refl _ _).drew) ?_
            simp only [List.take_succ_cons, List.take_zero, List.drop_succ_cons, List.drop_zero]
            repeat (first | (apply wpCalm_go; go_simp; (intro w' hw' hcc hff; go_simp; first | exact rfl | fail); (intro K hK; go_simp; refine hK _ ?_; clear hK K)) | (apply wpCalm_skip; go_simp; (try (focus (simp [undef]; done))); (intro K hK; go_simp; refine hK _ ?_; clear hK K)))
            refine wpCalm_nil ?_
            intro w1 hw1
            have hcc := (calm_cells hw1).1
            have hff := (calm_cells hw1).2
            have hss := calm_size hw1
            have hsz := hw1.size
            (try simp at hsz)
            have hown3 := own_call hw1 hown2
            have htv3 := own_call hw1 htv2
            have hM3 := hM2.call hw1
            have hK3 := hK2.call hw1
            have hb3 : Below w.heap.size w w1 := below_via hb2 hw1 hb2.size
            clear hown2 htv2 hM2 hK2 hb2 hcc hff hss hw1
            refine wpList_copy_ownK rfl (.tmp 60) (.tmp 63) 61 61 rfl 49 Try.underlying61 4 hsz4 _ _ _ _ _ _ rfl rfl (v2.heap.size + 1 + 1) g5 (L.length + 1) c5 49 _ hown3 ?_ a1 a m0 ?_ ?_ ?_ ?_ ?_
            · exact fun u hu => (List.mem_append.1 hu).elim (cellsM_one L u) (one4m _ _ _ _ u)
            · show m0 = min (L.length + 1 - a) (L.length + 1 - a1)
              have := HA1.out; omega
            · intro h; have := HA1.out; rw [if_neg (by omega), if_neg (by omega)]; exact ⟨rfl, rfl⟩
            · have := HA1.out; omega
            · omega
            · intro w3 hown5 hgr3
              obtain ⟨y0, y1, y2, y3, hy⟩ := cpy_cells hA HA1.out hm0 (show ([.int .i64 0, .int .i64 0, .int .i64 0, .int .i64 0] : List Value).length = 4 from rfl)
              rw [hy] at hown5
              have hAl : (cellsM (L.take a)).length = a * 4 := by rw [cellsM_len, List.length_take, Nat.min_eq_left hA]
              obtain ⟨z0, z1, z2, z3⟩ := mid_get (cellsM (L.take a)) (cellsM (L.drop a)) (a * 4) y0 y1 y2 y3 hAl
              have f0 := row_cells hown5 _ _ z0; have f1 := row_cells hown5 _ _ z1; have f2 := row_cells hown5 _ _ z2; have f3 := row_cells hown5 _ _ z3
              have fz := own_froz hown5
              have hK5 : Blk w3 pA 49 #[.int .i64 m.p, .int .i64 m.q, .int .i64 m.r, .int .i64 m.s] := Blk.grown hK3 hgr3 (fun e => hKg (by injection e))
              have hM5 : Blk w3 (v2.heap.size + 1) 49 #[.int .i64 r.p, .int .i64 r.q, .int .i64 r.r, .int .i64 r.s] := Blk.grown hM3 hgr3 (fun e => by injection e with e; omega)
              have htv5 := htv3.kept hgr3 (.inr (fun e => hne (by injection e)))
              have hb5 : Below w.heap.size w w3 := Below.grown hb3 hgr3 hb3.size (fun q hq => by injection hq with hq; omega)
              have hK5c := hK5.cell; have hK5f := hK5.frozen; have hK5l := hK5.lt
              have Hown := Lib.hid hown5
              have hgK : ¬ g5 = pA := fun e => hKg e.symm
              clear hy hAl z0 z1 z2 z3 hgr3 hM3 hK3 htv3 hown3 hb3 hown5 hm0 HA1 hwA hA2 hA4
              go_wp2
              go_roundw
              case rel => exact ⟨k + 1, by go_num, hlt, by rw [hS.out, hin.out, mid_len L m hA]; exact own_mid hA m Hown.out, own_nq (own_nq (own_nq (own_nq htv5 hne) hne) hne) hne, hap2, (by (repeat (first | with_reducible assumption | (with_reducible apply Blk.new_at; (first | rfl | (simp; done))) | with_reducible apply Blk.store3 | with_reducible apply Blk.store4 | (with_reducible apply Blk.farp; (first | omega | (simp <;> omega))) | with_reducible apply Blk.allocp | with_reducible apply Blk.drew | with_reducible apply Blk.drewN))), (by repeat (first | with_reducible exact Below.refl _ _ | with_reducible assumption | with_reducible apply Below.drew | with_reducible apply below_drewN | (with_reducible apply below_setp; (first | omega | (simp <;> omega))) | (with_reducible apply below_allocp; (first | omega | (simp <;> omega))) | (with_reducible refine below_viap (by assumption) ?_ ?_; (first | omega | (simp <;> omega)))))⟩
              case measure => simp [intOf]; omega
      · have hkC : k = C.length := by rw [HCl.out]; omega
        subst hkC
        rw [List.take_length] at hown ⊢
        have hf : ¬ ((C.length : Nat) : Int) < (T.length : Int) := by omega
        go_wp2
        go_ret2
        exact ⟨_, rfl, own_base (by omega) hown, hbel⟩
end Go.Proofs.Yteicampphegolaa
