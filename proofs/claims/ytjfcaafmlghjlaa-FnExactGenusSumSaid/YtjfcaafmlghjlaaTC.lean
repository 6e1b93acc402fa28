/- Contract: the theta series of a reduced form, of the program. -/
import Derived.Test.YtjfcaafmlghjlaaTA
import Derived.Test.YtjfcaafmlghjlaaK7
namespace Go.Proofs.Ytjfcaafmlghjlaa
open Go.RowKit

/-- The series of a form, up to k terms. -/
noncomputable def thL (d : Int) (f : Fm) (k : Nat) : List Int := (List.range k).map fun m : Nat => (rN d f m : Int)
theorem thL_len (d : Int) (f : Fm) (k : Nat) : (thL d f k).length = k := by simp [thL]
theorem thL_next (d : Int) (f : Fm) (k : Nat) : thL d f (k + 1) = thL d f k ++ [(rN d f k : Int)] := by unfold thL; rw [List.range_succ, List.map_append]; rfl
theorem thL_get (d : Int) (f : Fm) (k i : Nat) (h : i < (thL d f k).length) : (thL d f k)[i] = (rN d f i : Int) := by simp [thL]
theorem rN_le {d : Int} {f : Fm} (D : Dsc d) (hf : f ∈ clsL d) {m : Nat} (hm : m ≤ 100) : rN d f m ≤ 50000 := by
  unfold rN
  split
  · omega
  · exact pts_len D hf ⟨by omega, by omega⟩
theorem own_lit1 {w : World} {B b : Nat} (x : Int) (hb : b = w.heap.size) (h : B ≤ w.heap.size) : (w.alloc (.cells #[.int .i64 x] 3)).ownsRow B 3 1 (.slice (some ⟨b, 0, none⟩) 1 1) 1 (cellsI [x]) := by
  subst hb
  refine ⟨by simp [cellsI], .inr ⟨w.heap.size, 1, (cellsI [x]).toArray, rfl, h, heap_alloc_new _ _, Nat.le_refl _, by unfold maxLen; omega, by simp [cellsI], by simp [cellsI]⟩⟩
def ThSt (d : Int) (f : Fm) (n : Nat) (w w1 : World) (vl vm : Value) (wr : World) : Prop :=
  ∃ m : Nat, vm = .int .i64 m ∧ 1 ≤ m ∧ m ≤ n + 1 ∧ wr.ownsRow (w1.heap.size + 1) 3 1 vl (thL d f m).length (cellsI (thL d f m)) ∧ Blk wr w1.heap.size 35 #[.int .i64 f.a, .int .i64 f.b, .int .i64 f.c] ∧ w1.heap.size < wr.heap.size ∧ Below w.heap.size w wr

set_option maxRecDepth 100000 in
set_option maxHeartbeats 3200000 in
theorem theta_any (d : Int) (n : Nat) (f : Fm) (w : World) (D : Dsc d) (hf : f ∈ clsL d) (hn : n ≤ 100) :
    Calls Try.prog 299 #[.agg #[.int .i64 f.a, .int .i64 f.b, .int .i64 f.c], .int .i64 n] w (RetI (thL d f (n + 1)) w) := by
  obtain ⟨i0, hi, hz0, hz1, hz2⟩ := info_parts infoInt
  have cf := cf_self D hf
  have hR := Lib.hid (fun w => reduced_any f.a f.b f.c f.a f.b f.c w cf.df cf.rd)
  obtain ⟨⟨a1, a2⟩, ⟨b1, b2⟩, ⟨c1, c2⟩⟩ := cls_bd D.lo hf
  have hP := Lib.hid (fun (m : Nat) (h1 : 1 ≤ m) (h2 : m ≤ 100) w => (show Calls Try.prog 106 #[.agg #[.int .i64 f.a, .int .i64 f.b, .int .i64 f.c], .int .i64 (m : Int)] w (RetP (ptsL d m f) w) from by
    have h := points_any f.a f.b f.c (-d) m f w (by rw [Int.neg_neg]; exact cf) ⟨by omega, by omega⟩ ⟨by omega, by omega⟩ ⟨by omega, by omega⟩
    rw [Int.neg_neg] at h
    exact h))
  have hNl := Lib.hid (fun m (hm : m ≤ 100) => rN_le D hf hm)
  have hRn := Lib.hid (fun (m : Nat) (h1 : 1 ≤ m) => (show ((ptsL d m f).length : Int) = (rN d f m : Int) from by unfold rN; rw [if_neg (by omega)]))
  have h1 := thL_next d f 0
  rw [show thL d f 0 = [] from rfl, show (rN d f (0 : Nat) : Int) = 1 by simp [rN]] at h1
  have H1 := Lib.hid h1
  clear cf D hf h1
  go_enter Try.func299, Try.ntmps299
  go_wp2_with (go_at_call 134; (with_reducible refine (hR.out _).mono ?_); rintro e v1 ⟨rfl, hB1⟩; have hZ1 := hB1.size; (try simp at hZ1); (try have zl1 : w.heap.size < v1.heap.size := by omega); (try have ze1 : w.heap.size ≤ v1.heap.size := by omega); (try have zn1 : ¬ w.heap.size = v1.heap.size := by omega); (try have zm1 : ¬ v1.heap.size = w.heap.size := by omega); have hC1_0 := fun o => (calm_cells hB1).1 (w.heap.size) o (by first | omega | (simp <;> omega)); have hF1_0 := fun o => (calm_cells hB1).2 (w.heap.size) o (by first | omega | (simp <;> omega)); (try have hl1_0 : w.heap.size < v1.heap.size := by omega); (try have hm1_0 : ¬ w.heap.size = v1.heap.size := by omega); (try have hn1_0 : ¬ v1.heap.size = w.heap.size := by omega))
  have hsz1 : w.heap.size < v1.heap.size := by have := hB1.size; simp at this; omega
  have ho1 : ((v1.alloc (.cells #[.int .i64 f.a, .int .i64 f.b, .int .i64 f.c] 35)).alloc (.cells #[.int .i64 1] 3)).ownsRow (v1.heap.size + 1) 3 1 (.slice (some ⟨v1.heap.size + 1, 0, none⟩) 1 1) (thL d f 1).length (cellsI (thL d f 1)) := by
    rw [H1.out]
    exact own_lit1 1 (by simp) (by simp)
  have hb1 : Below w.heap.size w v1 := (by repeat (first | with_reducible exact Below.refl _ _ | with_reducible assumption | with_reducible apply Below.drew | with_reducible apply below_drewN | (with_reducible apply below_setp; (first | omega | (simp <;> omega))) | (with_reducible apply below_allocp; (first | omega | (simp <;> omega))) | (with_reducible refine below_viap (by assumption) ?_ ?_; (first | omega | (simp <;> omega)))))
  go_loopw [6, 7] (fun vl vm wr => ThSt d f n w v1 vl vm wr) (fun _ vm _ => n + 1 - (intOf vm).toNat)
  case atStart => exact ⟨1, rfl, Nat.le_refl _, by omega, ho1, by (repeat (first | with_reducible assumption | (with_reducible apply Blk.new_at; (first | rfl | (simp; done))) | with_reducible apply Blk.store3 | with_reducible apply Blk.store4 | (with_reducible apply Blk.farp; (first | omega | (simp <;> omega))) | with_reducible apply Blk.allocp | with_reducible apply Blk.drew | with_reducible apply Blk.drewN)), by simp <;> omega, (by repeat (first | with_reducible exact Below.refl _ _ | with_reducible assumption | with_reducible apply Below.drew | with_reducible apply below_drewN | (with_reducible apply below_setp; (first | omega | (simp <;> omega))) | (with_reducible apply below_allocp; (first | omega | (simp <;> omega))) | (with_reducible refine below_viap (by assumption) ?_ ?_; (first | omega | (simp <;> omega)))))⟩
  case round =>
    clear ho1
    obtain ⟨m, rfl, h1, hm, hown, hA, hsz, hbel⟩ := hrel
    have cA := hA.cell; have fA := hA.frozen; have lA := hA.lt
    have hz := hbel.size
    by_cases hle : m ≤ n
    · have hle2 : (m : Int) ≤ n := by omega
      have hPm := Lib.hid (fun w => hP.out m h1 (by omega) w)
      have hR1 := hRn.out m h1
      have hRl := hNl.out m (by omega)
      have hnx := Lib.hid (thL_next d f m)
      have hTl := thL_len d f m
      generalize rN d f m = r at hR1 hRl hnx
      generalize thL d f m = T at hown hnx hTl
      generalize ptsL d m f = P at hPm hR1
      go_wp2_with fail
      refine (hPm.out _).mono ?_
      rintro e v2 ⟨vp, rfl, hop, hB2⟩
      have hZ2 := hB2.size
      obtain ⟨bp, cp, rfl⟩ := own_shape hop
      have hon2 := own_call hB2 hown
      have hA2 := hA.call hB2
      have hb2 : Below w.heap.size w v2 := (by repeat (first | with_reducible exact Below.refl _ _ | with_reducible assumption | with_reducible apply Below.drew | with_reducible apply below_drewN | (with_reducible apply below_setp; (first | omega | (simp <;> omega))) | (with_reducible apply below_allocp; (first | omega | (simp <;> omega))) | (with_reducible refine below_viap (by assumption) ?_ ?_; (first | omega | (simp <;> omega)))))
      clear hop hB2 hown hA cA fA lA hbel
      have hTm : T.length ≤ 101 := by omega
      clear hPm hTl
      have hPl : (P.length : Int) = r := hR1
      go_wp2_with (at_builtin; refine wpList_append_own _ rfl (.tmp 16) (.tmp 21) 31 rfl _ 3 i0 _ 1 8 Try.underlying31 hi hz0 hz1 hz2 rfl (by decide) u6 T.length (cellsI T) rfl (own_alloc hon2) ⟨v2.heap.size, 0, none⟩ 1 1 [.int .i64 r] rfl rfl ?_ (one1 _) ?_ ?_ ?_ ?_; exact cells1 (Blk.new_at (by simp)); (unfold maxLen; omega); omega; (simp; omega); intro v7 w7 hown7 hg7 _)
      have hb7 : Below w.heap.size w w7 := below_grown (fun b hb => by have := own_ge hon2 b hb; omega) (by simp <;> omega) hg7 (by repeat (first | with_reducible exact Below.refl _ _ | with_reducible assumption | with_reducible apply Below.drew | with_reducible apply below_drewN | (with_reducible apply below_setp; (first | omega | (simp <;> omega))) | (with_reducible apply below_allocp; (first | omega | (simp <;> omega))) | (with_reducible refine below_viap (by assumption) ?_ ?_; (first | omega | (simp <;> omega)))))
      have hA7 : Blk w7 v1.heap.size 35 #[.int .i64 f.a, .int .i64 f.b, .int .i64 f.c] := Blk.grown (by (repeat (first | with_reducible assumption | (with_reducible apply Blk.new_at; (first | rfl | (simp; done))) | with_reducible apply Blk.store3 | with_reducible apply Blk.store4 | (with_reducible apply Blk.farp; (first | omega | (simp <;> omega))) | with_reducible apply Blk.allocp | with_reducible apply Blk.drew | with_reducible apply Blk.drewN))) hg7 (fun hb => by have := own_ge hon2 _ hb.symm; omega)
      have ho7 := own_snocI hnx.out hown7
      have hz7 := hg7.size
      (try simp at hz7)
      clear hR1 hRl hnx hown7 hon2 hb2 hA2
      exact ⟨⟨m + 1, by simp, by omega, by omega, ho7, hA7, by omega, hb7⟩, by simp [intOf]; omega⟩
    · have e : m = n + 1 := by omega
      subst e
      go_wp2
      go_ret
      exact ⟨_, rfl, own_base (by omega) hown, hbel⟩
end Go.Proofs.Ytjfcaafmlghjlaa
