/- Parts G1 G2 G3 G4 laid together by tp.py. -/
import Derived.Test.YtlcegkafagdcjaaGreatDoorCA
import Derived.Maps.AppendAt
namespace Go.Proofs.YtlcegkafagdcjaaGreatDoor
section
open Go.RowKit

theorem infoForm : (Tryz.prog.info? 33).map (fun i => (i.zero, i.size, i.bytes)) = some (some (.agg #[.int .i64 0, .int .i64 0, .int .i64 0]), 3, 24) := by kernel_rfl

/-- A list of forms in new memory comes back. -/
def RetF (L : List Fm) (w : World) (e : Ending) (w' : World) : Prop := ∃ v, e = .returned v ∧ w'.ownsRow w.heap.size 33 3 v L.length (cellsF L) ∧ Below w.heap.size w w'

theorem a_bd {a d : Int} (hd : -2000 ≤ d) (h0 : 0 ≤ a) (h : 3 * a * a ≤ -d) : a ≤ 26 := by
  apply Int.not_lt.1
  intro hlt
  have := Int.mul_le_mul (show (27 : Int) ≤ a by omega) (show (27 : Int) ≤ a by omega) (by omega) (by omega)
  have e : 3 * a * a = 3 * (a * a) := Int.mul_assoc _ _ _
  omega
theorem sq_bd {a : Int} (h0 : -40 ≤ a) (h1 : a ≤ 40) : 0 ≤ a * a ∧ a * a ≤ 1600 := by
  have h := mul_bd (A := 40) (X := 40) h0 h1 h0 h1
  refine ⟨?_, h.2⟩
  rcases Int.le_total 0 a with h | h
  · exact Int.mul_nonneg h h
  · exact Int.mul_nonneg_of_nonpos_of_nonpos h h

theorem cand_no {d a b : Int} (h : ¬ (b * b - d) % (4 * a) = 0) : cand d a b = none := by unfold cand; rw [if_neg (fun h2 => h h2.1)]
theorem cand_no2 {d a b : Int} (h : isRed a b ((b * b - d) / (4 * a)) = false) : cand d a b = none := by unfold cand; rw [if_neg (fun h2 => by rw [h] at h2; cases h2.2)]
theorem cand_yes {d a b : Int} (h : (b * b - d) % (4 * a) = 0) (h2 : isRed a b ((b * b - d) / (4 * a)) = true) : cand d a b = some ⟨a, b, (b * b - d) / (4 * a)⟩ := by unfold cand; rw [if_pos ⟨h, h2⟩]
theorem row_skip {d a b : Int} {j : Nat} {L : List Fm} (hb : b = 1 - a + j) (h : cand d a b = none) : L ++ rowF d a (j + 1) = L ++ rowF d a j := by
  rw [rowF_succ, ← hb, h]; simp
theorem row_take {d a b : Int} {j : Nat} {L : List Fm} {f : Fm} (hb : b = 1 - a + j) (h : cand d a b = some f) : L ++ rowF d a (j + 1) = (L ++ rowF d a j) ++ [f] := by
  rw [rowF_succ, ← hb, h]; simp

/-- The state of the outer loop. -/
def AllSt (d : Int) (w : World) (v va : Value) (wr : World) : Prop :=
  ∃ (k : Nat) (a : Int), va = .int .i64 a ∧ Hid (a = k + 1) ∧ 1 ≤ a ∧ a ≤ 30 ∧ Hid (k = 0 ∨ 3 * (k : Int) * k ≤ -d) ∧ wr.ownsRow w.heap.size 33 3 v (allF d k).length (cellsF (allF d k)) ∧ Below w.heap.size w wr
/-- The state of the inner loop. -/
def RowSt (d a : Int) (k : Nat) (w : World) (v vb : Value) (wr : World) : Prop :=
  ∃ (j : Nat) (b : Int), vb = .int .i64 b ∧ Hid (b = 1 - a + j) ∧ (j : Int) ≤ 2 * a ∧ -40 ≤ b ∧ b ≤ 40 ∧ wr.ownsRow w.heap.size 33 3 v (allF d k ++ rowF d a j).length (cellsF (allF d k ++ rowF d a j)) ∧ Below w.heap.size w wr
theorem lens (d a : Int) (k j : Nat) (hk : k ≤ 30) (hj : (j : Int) ≤ 80) : (allF d k ++ rowF d a j).length ≤ 1100 := by
  rw [List.length_append]
  have h1 := allF_len d k
  have h2 := rowF_len d a j
  have h3 := Nat.mul_le_mul hk (Nat.succ_le_succ hk)
  simp at h3
  omega

end

section
open Go.RowKit

theorem disc_quot {a b d : Int} : disc ⟨a, b, (b * b - d) / (4 * a)⟩ = d ↔ (b * b - d) % (4 * a) = 0 := by
  have := Int.emod_add_mul_ediv (b * b - d) (4 * a)
  rw [← disc_eq]
  omega

set_option maxHeartbeats 1600000 in
theorem reAll_any (d : Int) (w : World) (hd1 : -2000 ≤ d) (hd2 : d ≤ -3) : Calls Tryz.prog 124 #[.int .i64 d] w (RetF (allR d) w) := by
  obtain ⟨i0, hi, hz0, hz1, hz2⟩ := info_parts infoForm
  go_enter Tryz.func124, Tryz.ntmps124
  go_wp2
  go_loopw [3, 4] (fun v a wr => AllSt d w v a wr) (fun _ a _ => (100 - intOf a).toNat)
  case atStart => exact ⟨0, 1, rfl, Lib.hid rfl, by omega, by omega, Lib.hid (.inl rfl), World.ownsRow_nil _ _ _ _, (by repeat (first | with_reducible exact Below.refl _ _ | with_reducible assumption | with_reducible apply Below.drew | with_reducible apply below_drewN | (with_reducible apply below_setp; (first | omega | (simp <;> omega))) | (with_reducible apply below_allocp; (first | omega | (simp <;> omega))) | (with_reducible refine below_viap (by assumption) ?_ ?_; (first | omega | (simp <;> omega)))))⟩
  case round =>
    obtain ⟨k, a, rfl, hka, ha1, ha2, hkd, hown, hbel⟩ := hrel
    have hsq := sq_bd (a := a) (by omega) (by omega)
    have h3 : 3 * a * a = 3 * (a * a) := Int.mul_assoc _ _ _
    have h3a : 0 ≤ 3 * a * a := by omega
    have h3b : 3 * a * a ≤ 4800 := by omega
    clear h3 hsq
    by_cases htest : 3 * a * a ≤ -d
    · go_wp2
      obtain ⟨wo, rfl⟩ : ∃ wo : World, wo = wr := ⟨_, rfl⟩
      go_loopw [3, 5] (fun v b wx => RowSt d a k w v b wx) (fun _ b _ => (100 - intOf b).toNat)
      case atStart =>
        have e : allF d k = allF d k ++ rowF d a 0 := by simp [rowF]
        refine ⟨0, 1 - a, rfl, Lib.hid (by simp), by omega, by omega, by omega, ?_, hbel⟩
        rw [← e]; exact hown
      case round =>
        clear hown hbel
        obtain ⟨j, b, rfl, hjb, hj, hb1, hb2, hown, hbel⟩ := hrel
        have hbb := sq_bd hb1 hb2
        obtain ⟨hbb1, hbb2⟩ := hbb
        have hz := hbel.size
        by_cases hba : b ≤ a
        · have hjlt : (j : Int) < 2 * a := by have := hjb.out; omega
          have e4 : (4 * a == 0) = false := by rw [beq_eq_false_iff_ne]; omega
          have e5 : ¬ 4 * a = 0 := by omega
          have hq1 : 0 ≤ (b * b - d) / (4 * a) := Int.ediv_nonneg (by omega) (by omega)
          have hq2 : (b * b - d) / (4 * a) ≤ b * b - d := Int.ediv_le_self _ (by omega)
          have hpr := mul_bd (a := 4 * a) (x := (b * b - d) / (4 * a)) (A := 120) (X := 4000) (by omega) (by omega) (by omega) (by omega)
          have f1 : Far (b * b) := ⟨by omega, by omega⟩
          have f2 : Far (4 * a) := ⟨by omega, by omega⟩
          have f3 : Far (4 * a * ((b * b - d) / (4 * a))) := ⟨by omega, by omega⟩
          have hdq := disc_quot (a := a) (b := b) (d := d)
          clear hpr
          by_cases hm : (b * b - d) % (4 * a) = 0
          · have e1 : (disc ⟨a, b, (b * b - d) / (4 * a)⟩ == d) = true := by rw [beq_iff_eq]; exact hdq.2 hm
            clear hdq
            cases hred : isRed a b ((b * b - d) / (4 * a)) with
            | true =>
              have hx := Lib.hid (row_take (L := allF d k) hjb.out (cand_yes hm hred))
              have hl := lens d a k j (by have := hka.out; omega) (by omega)
              have hjb2 := Lib.hid (show b + 1 = 1 - a + ((j + 1 : Nat) : Int) by have := hjb.out; omega)
              clear hm hjb
              go_wp2_with (first
                | (go_at_call 78; (with_reducible refine (sdisc_any a b ((b * b - d) / (4 * a)) _ f1 f2 f3).mono ?_); rintro e v1 ⟨rfl, hB1⟩; have hZ1 := hB1.size; (try simp at hZ1); (try have zl1 : w.heap.size < v1.heap.size := by omega); (try have ze1 : w.heap.size ≤ v1.heap.size := by omega); (try have zn1 : ¬ w.heap.size = v1.heap.size := by omega); (try have zm1 : ¬ v1.heap.size = w.heap.size := by omega); have hC1_0 := fun o => (calm_cells hB1).1 (wr.heap.size) o (by first | omega | (simp <;> omega)); have hF1_0 := fun o => (calm_cells hB1).2 (wr.heap.size) o (by first | omega | (simp <;> omega)); (try have hl1_0 : wr.heap.size < v1.heap.size := by omega); (try have hm1_0 : ¬ wr.heap.size = v1.heap.size := by omega); (try have hn1_0 : ¬ v1.heap.size = wr.heap.size := by omega))
                | (go_at_call 111; (with_reducible refine (reIs_any a b ((b * b - d) / (4 * a)) _ (by omega) (by omega)).mono ?_); rw [hred]; rintro e v2 ⟨rfl, hB2⟩; have hZ2 := hB2.size; (try simp at hZ2); (try have zl2 : w.heap.size < v2.heap.size := by omega); (try have ze2 : w.heap.size ≤ v2.heap.size := by omega); (try have zn2 : ¬ w.heap.size = v2.heap.size := by omega); (try have zm2 : ¬ v2.heap.size = w.heap.size := by omega); have hC2_0 := fun o => (calm_cells hB2).1 (wr.heap.size) o (by first | omega | (simp <;> omega)); have hF2_0 := fun o => (calm_cells hB2).2 (wr.heap.size) o (by first | omega | (simp <;> omega)); (try have hl2_0 : wr.heap.size < v2.heap.size := by omega); (try have hm2_0 : ¬ wr.heap.size = v2.heap.size := by omega); (try have hn2_0 : ¬ v2.heap.size = wr.heap.size := by omega))
                | (at_builtin; refine wpList_append_own _ rfl (.tmp 42) (.tmp 44) 36 rfl w.heap.size 33 i0 _ 3 24 Tryz.underlying36 hi hz0 hz1 hz2 rfl (by decide) u3 (allF d k ++ rowF d a j).length (cellsF (allF d k ++ rowF d a j)) rfl ?_ ⟨v2.heap.size, 0, none⟩ 1 1 [.int .i64 a, .int .i64 b, .int .i64 ((b * b - d) / (4 * a))] rfl rfl ?_ (one3 _ _ _) ?_ ?_ ?_ ?_; exact (by repeat (first | with_reducible assumption | with_reducible apply own_alloc | with_reducible apply own_drew | with_reducible apply own_drewN | (with_reducible refine own_setp (by assumption) ?_ ?_; (first | omega | (simp <;> omega))) | (with_reducible refine own_call (by assumption) ?_))); exact cells3 (Blk.new _ _ _); (unfold maxLen; omega); omega; (simp; omega); intro v5 w2 hown2 hg2 _))
              have hb2 : Below w.heap.size w w2 := below_grown (own_ge hown) (by simp; omega) hg2 (by repeat (first | with_reducible exact Below.refl _ _ | with_reducible assumption | with_reducible apply Below.drew | with_reducible apply below_drewN | (with_reducible apply below_setp; (first | omega | (simp <;> omega))) | (with_reducible apply below_allocp; (first | omega | (simp <;> omega))) | (with_reducible refine below_viap (by assumption) ?_ ?_; (first | omega | (simp <;> omega)))))
              have ho2 := own_snoc hx.out hown2
              clear hg2 hown2 hown hbel
              go_wp2
              go_roundw
              case rel => exact ⟨j + 1, b + 1, rfl, hjb2, by omega, by omega, by omega, ho2, hb2⟩
              case measure => simp [intOf]; omega
            | false =>
              have hx := Lib.hid (row_skip (L := allF d k) hjb.out (cand_no2 hred))
              have hjb2 := Lib.hid (show b + 1 = 1 - a + ((j + 1 : Nat) : Int) by have := hjb.out; omega)
              clear hm hjb
              go_wp2_with (first | (go_at_call 78; (with_reducible refine (sdisc_any a b ((b * b - d) / (4 * a)) _ f1 f2 f3).mono ?_); rintro e v1 ⟨rfl, hB1⟩; have hZ1 := hB1.size; (try simp at hZ1); (try have zl1 : w.heap.size < v1.heap.size := by omega); (try have ze1 : w.heap.size ≤ v1.heap.size := by omega); (try have zn1 : ¬ w.heap.size = v1.heap.size := by omega); (try have zm1 : ¬ v1.heap.size = w.heap.size := by omega); have hC1_0 := fun o => (calm_cells hB1).1 (wr.heap.size) o (by first | omega | (simp <;> omega)); have hF1_0 := fun o => (calm_cells hB1).2 (wr.heap.size) o (by first | omega | (simp <;> omega)); (try have hl1_0 : wr.heap.size < v1.heap.size := by omega); (try have hm1_0 : ¬ wr.heap.size = v1.heap.size := by omega); (try have hn1_0 : ¬ v1.heap.size = wr.heap.size := by omega)) | (go_at_call 111; (with_reducible refine (reIs_any a b ((b * b - d) / (4 * a)) _ (by omega) (by omega)).mono ?_); rw [hred]; rintro e v2 ⟨rfl, hB2⟩; have hZ2 := hB2.size; (try simp at hZ2); (try have zl2 : w.heap.size < v2.heap.size := by omega); (try have ze2 : w.heap.size ≤ v2.heap.size := by omega); (try have zn2 : ¬ w.heap.size = v2.heap.size := by omega); (try have zm2 : ¬ v2.heap.size = w.heap.size := by omega); have hC2_0 := fun o => (calm_cells hB2).1 (wr.heap.size) o (by first | omega | (simp <;> omega)); have hF2_0 := fun o => (calm_cells hB2).2 (wr.heap.size) o (by first | omega | (simp <;> omega)); (try have hl2_0 : wr.heap.size < v2.heap.size := by omega); (try have hm2_0 : ¬ wr.heap.size = v2.heap.size := by omega); (try have hn2_0 : ¬ v2.heap.size = wr.heap.size := by omega)))
              go_roundw
              case rel => exact ⟨j + 1, b + 1, rfl, hjb2, by omega, by omega, by omega, by rw [hx.out]; exact (by repeat (first | with_reducible assumption | with_reducible apply own_alloc | with_reducible apply own_drew | with_reducible apply own_drewN | (with_reducible refine own_setp (by assumption) ?_ ?_; (first | omega | (simp <;> omega))) | (with_reducible refine own_call (by assumption) ?_))), (by repeat (first | with_reducible exact Below.refl _ _ | with_reducible assumption | with_reducible apply Below.drew | with_reducible apply below_drewN | (with_reducible apply below_setp; (first | omega | (simp <;> omega))) | (with_reducible apply below_allocp; (first | omega | (simp <;> omega))) | (with_reducible refine below_viap (by assumption) ?_ ?_; (first | omega | (simp <;> omega)))))⟩
              case measure => simp [intOf]; omega
          · have e1 : (disc ⟨a, b, (b * b - d) / (4 * a)⟩ == d) = false := by rw [beq_eq_false_iff_ne]; exact fun h => hm (hdq.1 h)
            clear hdq
            have hx := Lib.hid (row_skip (L := allF d k) hjb.out (cand_no hm))
            have hjb2 := Lib.hid (show b + 1 = 1 - a + ((j + 1 : Nat) : Int) by have := hjb.out; omega)
            clear hm hjb
            go_wp2_with (go_at_call 78; (with_reducible refine (sdisc_any a b ((b * b - d) / (4 * a)) _ f1 f2 f3).mono ?_); rintro e v1 ⟨rfl, hB1⟩; have hZ1 := hB1.size; (try simp at hZ1); (try have zl1 : w.heap.size < v1.heap.size := by omega); (try have ze1 : w.heap.size ≤ v1.heap.size := by omega); (try have zn1 : ¬ w.heap.size = v1.heap.size := by omega); (try have zm1 : ¬ v1.heap.size = w.heap.size := by omega); have hC1_0 := fun o => (calm_cells hB1).1 (wr.heap.size) o (by first | omega | (simp <;> omega)); have hF1_0 := fun o => (calm_cells hB1).2 (wr.heap.size) o (by first | omega | (simp <;> omega)); (try have hl1_0 : wr.heap.size < v1.heap.size := by omega); (try have hm1_0 : ¬ wr.heap.size = v1.heap.size := by omega); (try have hn1_0 : ¬ v1.heap.size = wr.heap.size := by omega))
            go_roundw
            case rel => exact ⟨j + 1, b + 1, rfl, hjb2, by omega, by omega, by omega, by rw [hx.out]; exact (by repeat (first | with_reducible assumption | with_reducible apply own_alloc | with_reducible apply own_drew | with_reducible apply own_drewN | (with_reducible refine own_setp (by assumption) ?_ ?_; (first | omega | (simp <;> omega))) | (with_reducible refine own_call (by assumption) ?_))), (by repeat (first | with_reducible exact Below.refl _ _ | with_reducible assumption | with_reducible apply Below.drew | with_reducible apply below_drewN | (with_reducible apply below_setp; (first | omega | (simp <;> omega))) | (with_reducible apply below_allocp; (first | omega | (simp <;> omega))) | (with_reducible refine below_viap (by assumption) ?_ ?_; (first | omega | (simp <;> omega)))))⟩
            case measure => simp [intOf]; omega
        · have hj2 : j = 2 * (k + 1) := by have := hjb.out; have := hka.out; omega
          have hx := Lib.hid (show allF d k ++ rowF d a j = allF d (k + 1) by rw [allF_succ, hj2, hka.out])
          have hka2 := Lib.hid (show a + 1 = ((k + 1 : Nat) : Int) + 1 by have := hka.out; omega)
          have hkd2 := Lib.hid (show k + 1 = 0 ∨ 3 * ((k + 1 : Nat) : Int) * ((k + 1 : Nat) : Int) ≤ -d by right; have e := hka.out; rw [show ((k + 1 : Nat) : Int) = a by omega]; exact htest)
          have ha3 := a_bd hd1 (by omega) htest
          clear hj2
          go_wp2
          go_roundw
          case rel => exact ⟨k + 1, a + 1, rfl, hka2, by omega, by omega, hkd2, by rw [← hx.out]; exact hown, hbel⟩
          case measure => simp [intOf]; omega
    · have hkk : kOf d = k := by
        have e := hka.out
        refine kOf_eq (by omega) hkd.out ?_
        rw [← e]; exact htest
      have hx := Lib.hid (show allR d = allF d k by unfold allR; rw [hkk])
      clear hkk
      go_wp2
      go_ret
      exact ⟨_, rfl, by rw [hx.out]; exact hown, hbel⟩
end

section
open Go.RowKit

/-- Forms that are small. -/
def Small (L : List Fm) : Prop := ∀ f ∈ L, (-1000000000000 ≤ f.a ∧ f.a ≤ 1000000000000) ∧ (-1000000000000 ≤ f.b ∧ f.b ≤ 1000000000000) ∧ (-1000000000000 ≤ f.c ∧ f.c ≤ 1000000000000)

theorem own_form {w : World} {B : Nat} {e : TypeId} {sz : Nat} {v : Value} {n : Nat} {xs : List Value} (h : w.ownsRow B e sz v n xs) :
    (v = .slice none 0 0 ∧ n = 0) ∨ ∃ g cap, v = .slice (some ⟨g, 0, none⟩) n cap ∧ B ≤ g ∧ g < w.heap.size ∧ ∀ j u, xs[j]? = some u → w.cell? ⟨g, j, none⟩ = some u := by
  have hc := fun g => World.ownsRow.cells (g := g) h
  rcases h.2 with ⟨rfl, h0⟩ | ⟨g, cap, cur, rfl, hg, hh, _⟩
  · exact .inl ⟨rfl, h0⟩
  · refine .inr ⟨g, cap, rfl, hg, (Array.getElem?_eq_some_iff.1 hh).1, fun j u hu => ?_⟩
    have := hc g rfl j u hu
    have e : (⟨g, 0, none⟩ : Addr).add j = ⟨g, j, none⟩ := by unfold Addr.add; split <;> simp_all
    rwa [e] at this

/-- The three cells of the element k of a list of forms. -/
theorem own_cells {w : World} {L : List Fm} {g : Nat} (h : ∀ j u, (cellsF L)[j]? = some u → w.cell? ⟨g, j, none⟩ = some u) {k : Nat} (hk : k < L.length) :
    w.cell? ⟨g, k * 3, none⟩ = some (.int .i64 L[k].a) ∧ w.cell? ⟨g, k * 3 + 1, none⟩ = some (.int .i64 L[k].b) ∧ w.cell? ⟨g, k * 3 + 2, none⟩ = some (.int .i64 L[k].c) := by
  rw [show k * 3 = 3 * k by omega]
  obtain ⟨h1, h2, h3⟩ := cellsF_get L k hk
  exact ⟨h _ _ h1, h _ _ h2, h _ _ h3⟩

theorem filter_take {L : List Fm} {p : Fm → Bool} {k : Nat} (hk : k < L.length) : (L.take (k + 1)).filter p = (L.take k).filter p ++ (if p L[k] then [L[k]] else []) := by
  rw [List.take_succ_eq_append_getElem hk, List.filter_append]
  congr 1
  cases h : p L[k] <;> simp [h]

theorem filter_len {p : Fm → Bool} (L : List Fm) (k : Nat) {n : Nat} (h : L.length ≤ n) : ((L.take k).filter p).length ≤ n := by
  have h1 := List.length_filter_le p (L.take k)
  have h2 := List.length_take_le' k L
  omega

end

section
open Go.RowKit

theorem allR_small {d : Int} (hd : -2000 ≤ d) : Small (allR d) := by
  intro f hf
  obtain ⟨h1, h2, _, h4, h5, h6, h7⟩ := mem_allR hd hf
  have h8 := (isRed_iff _ _ _).1 h4
  exact ⟨⟨by omega, by omega⟩, ⟨by omega, by omega⟩, ⟨by omega, by omega⟩⟩
section
variable {w w' : World} {B : Nat} {e : TypeId} {sz : Nat} {v vl : Value} {n : Nat} {xs : List Value}
theorem own_shape (h : w.ownsRow B e sz v n xs) : ∃ base cap, v = .slice base n cap := by
  rcases h.2 with ⟨rfl, rfl⟩ | ⟨g, cap, cur, rfl, _⟩
  · exact ⟨_, _, rfl⟩
  · exact ⟨_, _, rfl⟩
def Apart (v vl : Value) : Prop := vl.ownBlock = none ∨ vl.ownBlock ≠ v.ownBlock
theorem apart_nil : Apart (.slice none 0 0) vl := by
  unfold Apart
  cases h : vl.ownBlock with
  | none => exact .inl rfl
  | some b => exact .inr (by simp [Value.ownBlock])
theorem apart_next {v' : Value} {N : Nat} (ha : Apart v vl) (h : w.ownsRow B e sz vl n xs) (hN : w.heap.size ≤ N) (hloc : v'.ownBlock = v.ownBlock ∨ v'.ownBlock = some N) : Apart v' vl := by
  unfold Apart at *
  rcases ha with ha | ha
  · exact .inl ha
  · rcases hloc with e | e
    · rw [e]; exact .inr ha
    · cases h2 : vl.ownBlock with
      | none => exact .inl rfl
      | some b =>
        have := (h.lt b h2).2
        rw [e]
        exact .inr (by simp; omega)
end
/-- The element k of an owned list of forms. -/
theorem own_elem {w : World} {B : Nat} {e : TypeId} {base : Option Addr} {n cap : Nat} {L : List Fm} (h : w.ownsRow B e 3 (.slice base n cap) L.length (cellsF L)) {k : Nat} (hk : k < L.length) :
    ∃ g, base = some ⟨g, 0, none⟩ ∧ g < w.heap.size ∧ w.cell? ⟨g, k * 3, none⟩ = some (.int .i64 L[k].a) ∧ w.cell? ⟨g, k * 3 + 1, none⟩ = some (.int .i64 L[k].b) ∧ w.cell? ⟨g, k * 3 + 2, none⟩ = some (.int .i64 L[k].c) := by
  rcases own_form h with ⟨hv, h0⟩ | ⟨g, c, hv, h1, h2, h3⟩
  · omega
  · injection hv with e1 e2 e3
    exact ⟨g, e1, h2, own_cells h3 hk⟩

/-- The state of a loop that filters a list of its own. -/
def FlkSt (p : Fm → Bool) (L : List Fm) (B : Nat) (vl : Value) (w : World) (v vi : Value) (wr : World) : Prop :=
  ∃ k : Nat, vi = .int .i64 k ∧ k ≤ L.length ∧ wr.ownsRow w.heap.size 33 3 v ((L.take k).filter p).length (cellsF ((L.take k).filter p)) ∧ wr.ownsRow B 33 3 vl L.length (cellsF L) ∧ Apart v vl ∧ Below w.heap.size w wr

set_option maxRecDepth 100000 in
set_option maxHeartbeats 1600000 in
theorem reList_any (d : Int) (w : World) (hd1 : -2000 ≤ d) (hd2 : d ≤ -3) :
    Calls Tryz.prog 99 #[.int .i64 d] w (RetF (clsL d) w) := by
  obtain ⟨i0, hi, hz0, hz1, hz2⟩ := info_parts infoForm
  have hsm := allR_small hd1
  have hl : (allR d).length ≤ 100000 := Nat.le_trans (allR_len d) (by decide)
  have Hs := Lib.hid hsm
  have Hr := reAll_any d
  have hcl : clsL d = (allR d).filter primB := rfl
  rw [hcl]
  clear hsm hcl
  generalize allR d = L at *
  go_enter Tryz.func99, Tryz.ntmps99
  go_wp2_with (go_at_call 124; refine (Hr _ hd1 hd2).mono ?_; rintro e w1 ⟨vl, rfl, howl, hb1⟩; obtain ⟨base, cap, rfl⟩ := own_shape howl)
  obtain ⟨B, hB⟩ : ∃ B : Nat, B = w.heap.size := ⟨_, rfl⟩
  rw [← hB] at howl
  have hz1' := hb1.size
  go_loopw [3, 9] (fun v i wr => FlkSt primB L B (.slice base L.length cap) w v i wr) (fun _ i _ => L.length - (intOf i).toNat)
  case atStart => exact ⟨0, rfl, Nat.zero_le _, World.ownsRow_nil _ _ _ _, howl, apart_nil, (by repeat (first | with_reducible exact Below.refl _ _ | with_reducible assumption | with_reducible apply Below.drew | with_reducible apply below_drewN | (with_reducible apply below_setp; (first | omega | (simp <;> omega))) | (with_reducible apply below_allocp; (first | omega | (simp <;> omega))) | (with_reducible refine below_viap (by assumption) ?_ ?_; (first | omega | (simp <;> omega)))))⟩
  case round =>
    clear howl hb1 hz1'
    obtain ⟨k, rfl, hk, hown, howl, hap, hbel⟩ := hrel
    by_cases hlt : k < L.length
    · obtain ⟨g, rfl, hg2, d1, d2, d3⟩ := own_elem howl hlt
      obtain ⟨⟨a1, a2⟩, ⟨b1, b2⟩, ⟨q1, q2⟩⟩ := Hs.out L[k] (List.getElem_mem hlt)
      have hft := filter_take (p := primB) hlt
      generalize L[k] = f at d1 d2 d3 a1 a2 b1 b2 q1 q2 hft
      have Hft := Lib.hid hft
      clear hft
      have fa : Far f.a := ⟨by omega, by omega⟩
      have fb : Far f.b := ⟨by omega, by omega⟩
      have fc : Far f.c := ⟨by omega, by omega⟩
      have hz := hbel.size
      have hlf := filter_len (p := primB) L k hl
      by_cases hp : primB f = true
      · have hx := Lib.hid (Hft.out.trans (by rw [if_pos hp]))
        have hcn : ((Int.gcd f.a (Int.gcd f.b f.c) : Int) == 1) = true := by have := of_decide_eq_true hp; rw [this]; rfl
        go_wp2_with (first
          | (go_at_call 108; (with_reducible refine (foContent_any f.a f.b f.c _ fa fb fc).mono ?_); rintro e v1 ⟨rfl, hB1⟩; have hZ1 := hB1.size; (try simp at hZ1); (try have zl1 : w.heap.size < v1.heap.size := by omega); (try have ze1 : w.heap.size ≤ v1.heap.size := by omega); (try have zn1 : ¬ w.heap.size = v1.heap.size := by omega); (try have zm1 : ¬ v1.heap.size = w.heap.size := by omega); have hC1_0 := fun o => (calm_cells hB1).1 (wr.heap.size) o (by first | omega | (simp <;> omega)); have hF1_0 := fun o => (calm_cells hB1).2 (wr.heap.size) o (by first | omega | (simp <;> omega)); (try have hl1_0 : wr.heap.size < v1.heap.size := by omega); (try have hm1_0 : ¬ wr.heap.size = v1.heap.size := by omega); (try have hn1_0 : ¬ v1.heap.size = wr.heap.size := by omega))
          | (at_builtin; refine wpList_append_own_at _ rfl (.tmp 16) (.tmp 18) 36 rfl w.heap.size 33 i0 _ 3 24 Tryz.underlying36 hi hz0 hz1 hz2 rfl (by decide) u3 ((L.take k).filter primB).length (cellsF ((L.take k).filter primB)) rfl ?_ ⟨v1.heap.size, 0, none⟩ 1 1 [.int .i64 f.a, .int .i64 f.b, .int .i64 f.c] rfl rfl ?_ (one3 _ _ _) ?_ ?_ ?_ ?_; exact (by repeat (first | with_reducible assumption | with_reducible apply own_alloc | with_reducible apply own_drew | with_reducible apply own_drewN | (with_reducible refine own_setp (by assumption) ?_ ?_; (first | omega | (simp <;> omega))) | (with_reducible refine own_call (by assumption) ?_))); exact cells3 (Blk.new _ _ _); (unfold maxLen; omega); omega; (simp; omega); intro v2 w2 hown2 hg2 _ hloc))
        have hb2 : Below w.heap.size w w2 := below_grown (own_ge hown) (by simp; omega) hg2 (by repeat (first | with_reducible exact Below.refl _ _ | with_reducible assumption | with_reducible apply Below.drew | with_reducible apply below_drewN | (with_reducible apply below_setp; (first | omega | (simp <;> omega))) | (with_reducible apply below_allocp; (first | omega | (simp <;> omega))) | (with_reducible refine below_viap (by assumption) ?_ ?_; (first | omega | (simp <;> omega)))))
        have ho2 := own_snoc hx.out hown2
        have hol1 : (v1.alloc (Obj.cells #[Value.int IntKind.i64 f.a, Value.int IntKind.i64 f.b, Value.int IntKind.i64 f.c] 33)).ownsRow B 33 3 (.slice (some ⟨g, 0, none⟩) L.length cap) L.length (cellsF L) := (by repeat (first | with_reducible assumption | with_reducible apply own_alloc | with_reducible apply own_drew | with_reducible apply own_drewN | (with_reducible refine own_setp (by assumption) ?_ ?_; (first | omega | (simp <;> omega))) | (with_reducible refine own_call (by assumption) ?_)))
        have hol2 := hol1.kept hg2 hap
        have hap2 := apart_next hap hol1 (Nat.le_refl _) hloc
        clear hg2 hown2 hown hbel howl hap hol1 hloc
        go_wp2
        go_roundw
        case rel => exact ⟨k + 1, rfl, hlt, ho2, hol2, hap2, hb2⟩
        case measure => simp [intOf]; omega
      · have hx := Lib.hid (Hft.out.trans (by rw [if_neg hp, List.append_nil]))
        have hcn : ((Int.gcd f.a (Int.gcd f.b f.c) : Int) == 1) = false := by rw [beq_eq_false_iff_ne]; intro h; exact hp (decide_eq_true (by omega))
        go_wp2_with (go_at_call 108; (with_reducible refine (foContent_any f.a f.b f.c _ fa fb fc).mono ?_); rintro e v1 ⟨rfl, hB1⟩; have hZ1 := hB1.size; (try simp at hZ1); (try have zl1 : w.heap.size < v1.heap.size := by omega); (try have ze1 : w.heap.size ≤ v1.heap.size := by omega); (try have zn1 : ¬ w.heap.size = v1.heap.size := by omega); (try have zm1 : ¬ v1.heap.size = w.heap.size := by omega); have hC1_0 := fun o => (calm_cells hB1).1 (wr.heap.size) o (by first | omega | (simp <;> omega)); have hF1_0 := fun o => (calm_cells hB1).2 (wr.heap.size) o (by first | omega | (simp <;> omega)); (try have hl1_0 : wr.heap.size < v1.heap.size := by omega); (try have hm1_0 : ¬ wr.heap.size = v1.heap.size := by omega); (try have hn1_0 : ¬ v1.heap.size = wr.heap.size := by omega))
        go_roundw
        case rel => exact ⟨k + 1, rfl, hlt, by rw [hx.out]; exact (by repeat (first | with_reducible assumption | with_reducible apply own_alloc | with_reducible apply own_drew | with_reducible apply own_drewN | (with_reducible refine own_setp (by assumption) ?_ ?_; (first | omega | (simp <;> omega))) | (with_reducible refine own_call (by assumption) ?_))), (by repeat (first | with_reducible assumption | with_reducible apply own_alloc | with_reducible apply own_drew | with_reducible apply own_drewN | (with_reducible refine own_setp (by assumption) ?_ ?_; (first | omega | (simp <;> omega))) | (with_reducible refine own_call (by assumption) ?_))), hap, (by repeat (first | with_reducible exact Below.refl _ _ | with_reducible assumption | with_reducible apply Below.drew | with_reducible apply below_drewN | (with_reducible apply below_setp; (first | omega | (simp <;> omega))) | (with_reducible apply below_allocp; (first | omega | (simp <;> omega))) | (with_reducible refine below_viap (by assumption) ?_ ?_; (first | omega | (simp <;> omega)))))⟩
        case measure => simp [intOf]; omega
    · have e : k = L.length := by omega
      have hx : (L.take k).filter primB = L.filter primB := by rw [e, List.take_length]
      have Hx := Lib.hid hx
      clear hx
      subst e
      go_wp2
      go_ret
      exact ⟨_, rfl, by rw [← Hx.out]; exact hown, hbel⟩

end
end Go.Proofs.YtlcegkafagdcjaaGreatDoor
