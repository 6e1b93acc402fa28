/- Contracts: the word of a matrix, of the reference. -/
import Derived.Test.YtdaofpjanklmeaaWC
import Derived.BigQuiet
namespace Go.Proofs.Ytdaofpjanklmeaa
open Go.RowKit Go

/-- A word, the exponents in new memory. -/
def RetWd (s : Int) (L : List Int) (w : World) (e : Ending) (w' : World) : Prop := ∃ v, e = .returned (.agg #[.int .i64 s, v]) ∧ w'.ownsRow w.heap.size 3 1 v L.length (cellsI L) ∧ Below w.heap.size w w'
/-- The state of the loop. -/
def MoSt (m : M4) (w : World) (k : Nat) (wr : World) : Prop :=
  ∃ (n : M4) (K : List Int) (v : Value), BdO n ∧ Hid (K ++ wordL n = wordL m ∧ wordS n = wordS m) ∧ n.r.natAbs ≤ k ∧ Blk wr w.heap.size 49 #[.int .i64 n.p, .int .i64 n.q, .int .i64 n.r, .int .i64 n.s] ∧
    Blk wr (w.heap.size + 1) 70 #[.int .i64 0, .slice none 0 0] ∧ Blk wr (w.heap.size + 1 + 1) 70 #[.int .i64 0, v] ∧ wr.ownsRow (w.heap.size + 1 + 1 + 1) 3 1 v K.length (cellsI K) ∧ Below w.heap.size w wr
set_option maxRecDepth 100000 in
set_option maxHeartbeats 6400000 in
theorem moWord_any (m : M4) (w : World) (hm : BdO m) :
    Calls Try.prog 118 #[.agg #[.int .i64 m.p, .int .i64 m.q, .int .i64 m.r, .int .i64 m.s]] w (RetWd (wordS m) (wordL m) w) := by
  obtain ⟨i0, hi, hz0, hz1, hz2⟩ := info_parts infoInt
  have hlen := (wordL_bd hm).2.1
  have hm0 := Lib.hid hm
  go_enter Try.func118, Try.ntmps118
  go_wp2
  go_loopg [] (m.r.natAbs) (fun k wr => MoSt m w k wr)
  case atStart =>
    refine ⟨m, [], .slice none 0 0, hm, Lib.hid ⟨rfl, rfl⟩, Nat.le_refl _, ?_, ?_, ?_, World.ownsRow_nil _ _ _ _, (by repeat (first | with_reducible exact Below.refl _ _ | with_reducible assumption | with_reducible apply Below.drew | with_reducible apply below_drewN | (with_reducible apply below_setp; (first | omega | (simp <;> omega))) | (with_reducible apply below_allocp; (first | omega | (simp <;> omega))) | (with_reducible refine below_viap (by assumption) ?_ ?_; (first | omega | (simp <;> omega)))))⟩
    · (repeat (first | with_reducible assumption | (with_reducible apply Blk.new_at; (first | rfl | (simp; done))) | with_reducible apply Blk.store3 | with_reducible apply Blk.store4 | (with_reducible apply Blk.farp; (first | omega | (simp <;> omega))) | with_reducible apply Blk.allocp | with_reducible apply Blk.drew | with_reducible apply Blk.drewN))
    · (repeat (first | with_reducible assumption | (with_reducible apply Blk.new_at; (first | rfl | (simp; done))) | with_reducible apply Blk.store3 | with_reducible apply Blk.store4 | (with_reducible apply Blk.farp; (first | omega | (simp <;> omega))) | with_reducible apply Blk.allocp | with_reducible apply Blk.drew | with_reducible apply Blk.drewN))
    · (repeat (first | with_reducible assumption | (with_reducible apply Blk.new_at; (first | rfl | (simp; done))) | with_reducible apply Blk.store3 | with_reducible apply Blk.store4 | (with_reducible apply Blk.farp; (first | omega | (simp <;> omega))) | with_reducible apply Blk.allocp | with_reducible apply Blk.drew | with_reducible apply Blk.drewN))
  case round =>
    obtain ⟨n, K, v, hn, hd, hk, hA, hR, hW, hown, hbel⟩ := hrel
    have hz := hbel.size
    have cA := hA.cell; have fA := hA.frozen; have lA := hA.lt; have mA := Nat.ne_of_gt lA; have nA := Nat.ne_of_lt lA
    have cR := hR.cell; have fR := hR.frozen; have lR := hR.lt; have mR := Nat.ne_of_gt lR; have nR := Nat.ne_of_lt lR
    have cW := hW.cell; have fW := hW.frozen; have lW := hW.lt; have mW := Nat.ne_of_gt lW; have nW := Nat.ne_of_lt lW
    have hKl : K.length ≤ 100 := by have := congrArg List.length hd.out.1; rw [List.length_append] at this; omega
    obtain ⟨vb, vc, rfl⟩ := own_shape hown
    by_cases hr : n.r = 0
    · obtain ⟨we1, we2⟩ := wordL_end hr
      have hpm := end_pm hn.det hr
      have hq := hn.q
      have hLm : K ++ [n.p * n.q] = wordL m := by rw [← we1]; exact hd.out.1
      have hSm : n.p = wordS m := by rw [← we2]; exact hd.out.2
      have hxb : -1000000 ≤ n.p * n.q ∧ n.p * n.q ≤ 1000000 := by rcases hpm with ⟨e, _⟩ | ⟨e, _⟩ <;> rw [e] <;> omega
      clear we1 we2 hn hd hpm hq
      obtain ⟨yp, yq, yr, ys⟩ := n
      dsimp only at *
      subst hr
      obtain ⟨x, hx⟩ : ∃ x, yp * yq = x := ⟨_, rfl⟩
      rw [hx] at hLm hxb
      have HLm := Lib.hid hLm
      have HSm := Lib.hid hSm
      have hKx : (K ++ [x]).length ≤ 1000000 := by rw [List.length_append]; simp; omega
      clear hLm hSm
      have hW9 : Blk (wr.setCell ⟨w.heap.size + 1 + 1, 0, none⟩ (.int .i64 yp)) (w.heap.size + 1 + 1) 70 #[.int .i64 yp, .slice vb K.length vc] := hW.set_ 0 _
      have hown9 : (wr.setCell ⟨w.heap.size + 1 + 1, 0, none⟩ (.int .i64 yp)).ownsRow (w.heap.size + 1 + 1 + 1) 3 1 (.slice vb K.length vc) K.length (cellsI K) := own_nqv (fun q hq => by have := own_ge hown q hq; simp; omega) hown
      go_wp2_with (first | (at_builtin; refine wpList_append_own_at _ rfl (.tmp 62) (.tmp 68) 31 rfl (w.heap.size + 1 + 1 + 1) 3 i0 _ 1 8 Try.underlying31 hi hz0 hz1 hz2 rfl (by decide) (.slice vb K.length vc) K.length (cellsI K) rfl ?_ ⟨wr.heap.size, 0, none⟩ 1 1 [.int .i64 x] rfl rfl ?_ (one1v _) ?_ ?_ ?_ ?_; exact own_alloc hown9; exact blk_news (Blk.new_at (by simp)); (unfold maxLen; omega); omega; (simp; omega); intro x2 w2 hown2 hgr _ hloc; obtain ⟨xb, xc, rfl⟩ := own_shape hown2; have hsy := hgr.size; (try simp at hsy); have hR2 : Blk w2 (w.heap.size + 1) 70 #[.int .i64 0, .slice none 0 0] := Blk.grown (Blk.allocp (Blk.farp (by simp) hR)) hgr (fun e => by have := own_ge hown _ e.symm; omega); have cR2 := hR2.cell; have fR2 := hR2.frozen; have lR2 := hR2.lt; have mR2 := Nat.ne_of_gt lR2; have nR2 := Nat.ne_of_lt lR2; have hW2 : Blk w2 (w.heap.size + 1 + 1) 70 #[.int .i64 yp, .slice vb K.length vc] := Blk.grown (Blk.allocp hW9) hgr (fun e => by have := own_ge hown _ e.symm; omega); have cW2 := hW2.cell; have fW2 := hW2.frozen; have lW2 := hW2.lt; have mW2 := Nat.ne_of_gt lW2; have nW2 := Nat.ne_of_lt lW2; have hO : OwnE (w2.setCell ⟨w.heap.size + 1 + 1, 1, none⟩ (.slice xb (K.length + 1) xc)) (w.heap.size + 1 + 1 + 1) (.slice xb (K.length + 1) xc) (K ++ [x]) := ⟨hKx, own_nqv (fun q hq => by have := own_ge hown2 q hq; simp; omega) (own_snocI (K := K ++ [x]) rfl hown2)⟩; have hW3 : Blk (w2.setCell ⟨w.heap.size + 1 + 1, 1, none⟩ (.slice xb (K.length + 1) xc)) (w.heap.size + 1 + 1) 70 #[.int .i64 yp, (.slice xb (K.length + 1) xc)] := hW2.set_ 1 _; have hb2 : Below w.heap.size w w2 := Below.grown ((by repeat (first | with_reducible exact Below.refl _ _ | with_reducible assumption | with_reducible apply Below.drew | with_reducible apply below_drewN | (with_reducible apply below_setp; (first | omega | (simp <;> omega))) | (with_reducible apply below_allocp; (first | omega | (simp <;> omega))) | (with_reducible refine below_viap (by assumption) ?_ ?_; (first | omega | (simp <;> omega)))))) hgr (by simp; omega) (fun q hq => by have := own_ge hown q hq; omega)))
      exact bodyPost_ret (v := .agg #[.int .i64 yp, .slice xb (K.length + 1) xc]) (by simp [results, Try.results118, go_sem, *]) rfl ⟨.slice xb (K.length + 1) xc, by rw [HSm.out], by rw [← HLm.out]; exact own_base (by omega) (own_nqv (fun q hq => by have := own_ge hO.2 q hq; simp; omega) (own_nqv (fun q hq => by have := own_ge hO.2 q hq; simp; omega) hO.2)), (by repeat (first | with_reducible exact Below.refl _ _ | with_reducible assumption | with_reducible apply Below.drew | with_reducible apply below_drewN | (with_reducible apply below_setp; (first | omega | (simp <;> omega))) | (with_reducible apply below_allocp; (first | omega | (simp <;> omega))) | (with_reducible refine below_viap (by assumption) ?_ ?_; (first | omega | (simp <;> omega)))))⟩
    · have hr0 : (n.r == 0) = false := beq_eq_false_iff_ne.2 hr
      have hst := hn.step hr
      have hqb := quO_bd hr hn.p
      have hqd := quO_tdiv (p := n.p) hr
      have hrb := rsO_bd (p := n.p) hr
      have hnx := wordL_step hr
      have hlt := (stO_lt hr).1
      obtain ⟨p1, p2⟩ := hn.p; obtain ⟨q1, q2⟩ := hn.q; obtain ⟨r1, r2⟩ := hn.r; obtain ⟨s1, s2⟩ := hn.s
      have hAb := Lib.hid (fun w => l1Abs_any n.r w (by omega) (by omega))
      have hMd := Lib.hid (fun w => nuMod_any n.p (n.r.natAbs : Int) w (by omega) (by omega))
      have hd2 := Lib.hid (show (K ++ [quO n.p n.r]) ++ wordL (stO n) = wordL m ∧ wordS (stO n) = wordS m from ⟨by rw [List.append_assoc, List.singleton_append, ← hnx.1]; exact hd.out.1, hnx.2.symm.trans hd.out.2⟩)
      have k1 := mul_bd (a := quO n.p n.r) (x := n.r) (A := 1000000) (X := 1000000) hqb.1 hqb.2 r1 r2
      have k2 := mul_bd (a := quO n.p n.r) (x := n.s) (A := 1000000) (X := 1000000) hqb.1 hqb.2 s1 s2
      have eR : quO n.p n.r * n.r - n.p = (stO n).r := rfl
      have eS : quO n.p n.r * n.s - n.q = (stO n).s := rfl
      have HP := Lib.hid (show (stO n).p = n.r from rfl)
      have HQ := Lib.hid (show (stO n).q = n.s from rfl)
      have hrs : rsO n.p n.r = if 2 * (n.p % (n.r.natAbs : Int)) > (n.r.natAbs : Int) then n.p % (n.r.natAbs : Int) - (n.r.natAbs : Int) else n.p % (n.r.natAbs : Int) := rfl
      have hm1 := Int.emod_nonneg n.p (show (n.r.natAbs : Int) ≠ 0 by omega)
      have hm2 := Int.emod_lt_of_pos n.p (show (0 : Int) < (n.r.natAbs : Int) by omega)
      have hnb : (n.r.natAbs : Int) ≤ 1000000 := by omega
      have Hst := Lib.hid hst
      clear hnx hd hn hst
      generalize stO n = n2 at *
      obtain ⟨yp, yq, yr, ys⟩ := n
      dsimp only at *
      by_cases h2 : 2 * (yp % (yr.natAbs : Int)) > (yr.natAbs : Int)
      · rw [if_pos h2] at hrs
        rw [hrs] at hqd hrb
        generalize quO yp yr = q at *
        generalize yp % (yr.natAbs : Int) = d at *
        generalize (yr.natAbs : Int) = t at *
        clear hrs
        go_wp2
        go_quiet (first | (exact (hAb.out _).mono (by rintro e w' ⟨rfl, rfl⟩; exact ⟨rfl, _, rfl⟩)) | (exact (hMd.out _).mono (by rintro e w' ⟨rfl, rfl⟩; exact ⟨rfl, _, rfl⟩)))
        go_wp2_with (first | (go_at_call 203; (with_reducible refine (hAb.out _).mono ?_); rintro e v ⟨rfl, rfl⟩) | (at_builtin; refine wpList_append_own_at _ rfl (.tmp 34) (.tmp 36) 31 rfl (w.heap.size + 1 + 1 + 1) 3 i0 _ 1 8 Try.underlying31 hi hz0 hz1 hz2 rfl (by decide) (.slice vb K.length vc) K.length (cellsI K) rfl ?_ ⟨wr.heap.size, 0, none⟩ 1 1 [.int .i64 q] rfl rfl ?_ (one1v _) ?_ ?_ ?_ ?_; exact (by repeat (first | with_reducible assumption | with_reducible apply own_alloc | with_reducible apply own_drew | with_reducible apply own_drewN | (with_reducible refine own_setp (by assumption) ?_ ?_; (first | omega | (simp <;> omega))) | (with_reducible refine own_call (by assumption) ?_))); exact blk_news (Blk.new_at (by simp)); (unfold maxLen; omega); omega; (simp; omega); intro x2 w2 hown2 hgr _ hloc; obtain ⟨xb, xc, rfl⟩ := own_shape hown2; have hsy := hgr.size; (try simp at hsy); have hA2 : Blk w2 (w.heap.size) 49 #[.int .i64 yp, .int .i64 yq, .int .i64 yr, .int .i64 ys] := Blk.grown (by (repeat (first | with_reducible assumption | (with_reducible apply Blk.new_at; (first | rfl | (simp; done))) | with_reducible apply Blk.store3 | with_reducible apply Blk.store4 | (with_reducible apply Blk.farp; (first | omega | (simp <;> omega))) | with_reducible apply Blk.allocp | with_reducible apply Blk.drew | with_reducible apply Blk.drewN))) hgr (fun e => by have := own_ge hown _ e.symm; omega); have cA2 := hA2.cell; have fA2 := hA2.frozen; have lA2 := hA2.lt; have mA2 := Nat.ne_of_gt lA2; have nA2 := Nat.ne_of_lt lA2; have hR2 : Blk w2 (w.heap.size + 1) 70 #[.int .i64 0, .slice none 0 0] := Blk.grown (by (repeat (first | with_reducible assumption | (with_reducible apply Blk.new_at; (first | rfl | (simp; done))) | with_reducible apply Blk.store3 | with_reducible apply Blk.store4 | (with_reducible apply Blk.farp; (first | omega | (simp <;> omega))) | with_reducible apply Blk.allocp | with_reducible apply Blk.drew | with_reducible apply Blk.drewN))) hgr (fun e => by have := own_ge hown _ e.symm; omega); have cR2 := hR2.cell; have fR2 := hR2.frozen; have lR2 := hR2.lt; have mR2 := Nat.ne_of_gt lR2; have nR2 := Nat.ne_of_lt lR2; have hW2 : Blk w2 (w.heap.size + 1 + 1) 70 #[.int .i64 0, .slice vb K.length vc] := Blk.grown (by (repeat (first | with_reducible assumption | (with_reducible apply Blk.new_at; (first | rfl | (simp; done))) | with_reducible apply Blk.store3 | with_reducible apply Blk.store4 | (with_reducible apply Blk.farp; (first | omega | (simp <;> omega))) | with_reducible apply Blk.allocp | with_reducible apply Blk.drew | with_reducible apply Blk.drewN))) hgr (fun e => by have := own_ge hown _ e.symm; omega); have cW2 := hW2.cell; have fW2 := hW2.frozen; have lW2 := hW2.lt; have mW2 := Nat.ne_of_gt lW2; have nW2 := Nat.ne_of_lt lW2))
        have hge2 := own_ge hown2
        have hbel2 : Below w.heap.size w w2 := Below.grown ((by repeat (first | with_reducible exact Below.refl _ _ | with_reducible assumption | with_reducible apply Below.drew | with_reducible apply below_drewN | (with_reducible apply below_setp; (first | omega | (simp <;> omega))) | (with_reducible apply below_allocp; (first | omega | (simp <;> omega))) | (with_reducible refine below_viap (by assumption) ?_ ?_; (first | omega | (simp <;> omega)))))) hgr (by simp; omega) (fun q hq => by have := own_ge hown q hq; omega)
        go_roundg (n2.r.natAbs)
        case measure => omega
        case rel =>
          refine ⟨n2, K ++ [q], .slice xb (K.length + 1) xc, Hst.out, hd2, Nat.le_refl _, ?_, ?_, ?_, ?_, (by repeat (first | with_reducible exact Below.refl _ _ | with_reducible assumption | with_reducible apply Below.drew | with_reducible apply below_drewN | (with_reducible apply below_setp; (first | omega | (simp <;> omega))) | (with_reducible apply below_allocp; (first | omega | (simp <;> omega))) | (with_reducible refine below_viap (by assumption) ?_ ?_; (first | omega | (simp <;> omega)))))⟩
          · rw [HP.out, HQ.out]
            (repeat (first | with_reducible assumption | (with_reducible apply Blk.new_at; (first | rfl | (simp; done))) | with_reducible apply Blk.store3 | with_reducible apply Blk.store4 | (with_reducible apply Blk.farp; (first | omega | (simp <;> omega))) | with_reducible apply Blk.allocp | with_reducible apply Blk.drew | with_reducible apply Blk.drewN))
          · (repeat (first | with_reducible assumption | (with_reducible apply Blk.new_at; (first | rfl | (simp; done))) | with_reducible apply Blk.store3 | with_reducible apply Blk.store4 | (with_reducible apply Blk.farp; (first | omega | (simp <;> omega))) | with_reducible apply Blk.allocp | with_reducible apply Blk.drew | with_reducible apply Blk.drewN))
          · have hW3 : Blk (w2.setCell ⟨w.heap.size + 1 + 1, 1, none⟩ (.slice xb (K.length + 1) xc)) (w.heap.size + 1 + 1) 70 #[.int .i64 0, .slice xb (K.length + 1) xc] := hW2.set_ 1 _
            (repeat (first | with_reducible assumption | (with_reducible apply Blk.new_at; (first | rfl | (simp; done))) | with_reducible apply Blk.store3 | with_reducible apply Blk.store4 | (with_reducible apply Blk.farp; (first | omega | (simp <;> omega))) | with_reducible apply Blk.allocp | with_reducible apply Blk.drew | with_reducible apply Blk.drewN))
          · have e2 := own_snocI (K := K ++ [q]) rfl hown2
            exact own_nqv (fun q hq => by have := hge2 q hq; simp; omega) (own_nqv (fun q hq => by have := hge2 q hq; simp; omega) (own_nqv (fun q hq => by have := hge2 q hq; simp; omega) (own_nqv (fun q hq => by have := hge2 q hq; simp; omega) (own_nqv (fun q hq => by have := hge2 q hq; simp; omega) e2))))
      · rw [if_neg h2] at hrs
        rw [hrs] at hqd hrb
        generalize quO yp yr = q at *
        generalize yp % (yr.natAbs : Int) = d at *
        generalize (yr.natAbs : Int) = t at *
        clear hrs
        go_wp2
        go_quiet (first | (exact (hAb.out _).mono (by rintro e w' ⟨rfl, rfl⟩; exact ⟨rfl, _, rfl⟩)) | (exact (hMd.out _).mono (by rintro e w' ⟨rfl, rfl⟩; exact ⟨rfl, _, rfl⟩)))
        go_wp2_with (first | (go_at_call 203; (with_reducible refine (hAb.out _).mono ?_); rintro e v ⟨rfl, rfl⟩) | (at_builtin; refine wpList_append_own_at _ rfl (.tmp 34) (.tmp 36) 31 rfl (w.heap.size + 1 + 1 + 1) 3 i0 _ 1 8 Try.underlying31 hi hz0 hz1 hz2 rfl (by decide) (.slice vb K.length vc) K.length (cellsI K) rfl ?_ ⟨wr.heap.size, 0, none⟩ 1 1 [.int .i64 q] rfl rfl ?_ (one1v _) ?_ ?_ ?_ ?_; exact (by repeat (first | with_reducible assumption | with_reducible apply own_alloc | with_reducible apply own_drew | with_reducible apply own_drewN | (with_reducible refine own_setp (by assumption) ?_ ?_; (first | omega | (simp <;> omega))) | (with_reducible refine own_call (by assumption) ?_))); exact blk_news (Blk.new_at (by simp)); (unfold maxLen; omega); omega; (simp; omega); intro x2 w2 hown2 hgr _ hloc; obtain ⟨xb, xc, rfl⟩ := own_shape hown2; have hsy := hgr.size; (try simp at hsy); have hA2 : Blk w2 (w.heap.size) 49 #[.int .i64 yp, .int .i64 yq, .int .i64 yr, .int .i64 ys] := Blk.grown (by (repeat (first | with_reducible assumption | (with_reducible apply Blk.new_at; (first | rfl | (simp; done))) | with_reducible apply Blk.store3 | with_reducible apply Blk.store4 | (with_reducible apply Blk.farp; (first | omega | (simp <;> omega))) | with_reducible apply Blk.allocp | with_reducible apply Blk.drew | with_reducible apply Blk.drewN))) hgr (fun e => by have := own_ge hown _ e.symm; omega); have cA2 := hA2.cell; have fA2 := hA2.frozen; have lA2 := hA2.lt; have mA2 := Nat.ne_of_gt lA2; have nA2 := Nat.ne_of_lt lA2; have hR2 : Blk w2 (w.heap.size + 1) 70 #[.int .i64 0, .slice none 0 0] := Blk.grown (by (repeat (first | with_reducible assumption | (with_reducible apply Blk.new_at; (first | rfl | (simp; done))) | with_reducible apply Blk.store3 | with_reducible apply Blk.store4 | (with_reducible apply Blk.farp; (first | omega | (simp <;> omega))) | with_reducible apply Blk.allocp | with_reducible apply Blk.drew | with_reducible apply Blk.drewN))) hgr (fun e => by have := own_ge hown _ e.symm; omega); have cR2 := hR2.cell; have fR2 := hR2.frozen; have lR2 := hR2.lt; have mR2 := Nat.ne_of_gt lR2; have nR2 := Nat.ne_of_lt lR2; have hW2 : Blk w2 (w.heap.size + 1 + 1) 70 #[.int .i64 0, .slice vb K.length vc] := Blk.grown (by (repeat (first | with_reducible assumption | (with_reducible apply Blk.new_at; (first | rfl | (simp; done))) | with_reducible apply Blk.store3 | with_reducible apply Blk.store4 | (with_reducible apply Blk.farp; (first | omega | (simp <;> omega))) | with_reducible apply Blk.allocp | with_reducible apply Blk.drew | with_reducible apply Blk.drewN))) hgr (fun e => by have := own_ge hown _ e.symm; omega); have cW2 := hW2.cell; have fW2 := hW2.frozen; have lW2 := hW2.lt; have mW2 := Nat.ne_of_gt lW2; have nW2 := Nat.ne_of_lt lW2))
        have hge2 := own_ge hown2
        have hbel2 : Below w.heap.size w w2 := Below.grown ((by repeat (first | with_reducible exact Below.refl _ _ | with_reducible assumption | with_reducible apply Below.drew | with_reducible apply below_drewN | (with_reducible apply below_setp; (first | omega | (simp <;> omega))) | (with_reducible apply below_allocp; (first | omega | (simp <;> omega))) | (with_reducible refine below_viap (by assumption) ?_ ?_; (first | omega | (simp <;> omega)))))) hgr (by simp; omega) (fun q hq => by have := own_ge hown q hq; omega)
        go_roundg (n2.r.natAbs)
        case measure => omega
        case rel =>
          refine ⟨n2, K ++ [q], .slice xb (K.length + 1) xc, Hst.out, hd2, Nat.le_refl _, ?_, ?_, ?_, ?_, (by repeat (first | with_reducible exact Below.refl _ _ | with_reducible assumption | with_reducible apply Below.drew | with_reducible apply below_drewN | (with_reducible apply below_setp; (first | omega | (simp <;> omega))) | (with_reducible apply below_allocp; (first | omega | (simp <;> omega))) | (with_reducible refine below_viap (by assumption) ?_ ?_; (first | omega | (simp <;> omega)))))⟩
          · rw [HP.out, HQ.out]
            (repeat (first | with_reducible assumption | (with_reducible apply Blk.new_at; (first | rfl | (simp; done))) | with_reducible apply Blk.store3 | with_reducible apply Blk.store4 | (with_reducible apply Blk.farp; (first | omega | (simp <;> omega))) | with_reducible apply Blk.allocp | with_reducible apply Blk.drew | with_reducible apply Blk.drewN))
          · (repeat (first | with_reducible assumption | (with_reducible apply Blk.new_at; (first | rfl | (simp; done))) | with_reducible apply Blk.store3 | with_reducible apply Blk.store4 | (with_reducible apply Blk.farp; (first | omega | (simp <;> omega))) | with_reducible apply Blk.allocp | with_reducible apply Blk.drew | with_reducible apply Blk.drewN))
          · have hW3 : Blk (w2.setCell ⟨w.heap.size + 1 + 1, 1, none⟩ (.slice xb (K.length + 1) xc)) (w.heap.size + 1 + 1) 70 #[.int .i64 0, .slice xb (K.length + 1) xc] := hW2.set_ 1 _
            (repeat (first | with_reducible assumption | (with_reducible apply Blk.new_at; (first | rfl | (simp; done))) | with_reducible apply Blk.store3 | with_reducible apply Blk.store4 | (with_reducible apply Blk.farp; (first | omega | (simp <;> omega))) | with_reducible apply Blk.allocp | with_reducible apply Blk.drew | with_reducible apply Blk.drewN))
          · have e2 := own_snocI (K := K ++ [q]) rfl hown2
            exact own_nqv (fun q hq => by have := hge2 q hq; simp; omega) (own_nqv (fun q hq => by have := hge2 q hq; simp; omega) (own_nqv (fun q hq => by have := hge2 q hq; simp; omega) (own_nqv (fun q hq => by have := hge2 q hq; simp; omega) (own_nqv (fun q hq => by have := hge2 q hq; simp; omega) e2))))
end Go.Proofs.Ytdaofpjanklmeaa
