/- Contracts: the draws of the law on relations. -/
import Derived.Test.YteehcjjhkphdnaaGreatFB
namespace Go.Proofs.YteehcjjhkphdnaaGreat
open Go.RowKit

theorem keep_ofF {a b : Value} (h : ∀ q, a.ownBlock = some q → b.ownBlock ≠ some q) : a.ownBlock = none ∨ a.ownBlock ≠ b.ownBlock := by
  cases e : a.ownBlock with
  | none => exact .inl rfl
  | some q => exact .inr (fun he => h q e he.symm)
/-- What a draw of a discriminant and a list of integers gives. -/
def RetDz (w : World) (e : Ending) (w' : World) : Prop := ∃ (d : Int) (L : List Int) (vl : Value), e = .returned (.tuple #[.int .i64 d, vl]) ∧ w'.ownsRow w.heap.size 3 1 vl L.length (cellsI L) ∧ L.length ≤ 7 ∧ Below w.heap.size w w'
set_option maxRecDepth 100000 in
set_option maxHeartbeats 1600000 in
theorem drawLr_any (zs : List Int) (v : Value) (B : Nat) (w : World) (hr : RdB zs v B w) (hB : B ≤ w.heap.size) :
    Calls Tryz.prog 25 #[v] w (RetDz w) := by
  obtain ⟨A, m, c, rfl⟩ := hr.shape
  have hD0 := Lib.hid (drw_startF hr)
  clear hr
  go_enter Tryz.func25, Tryz.ntmps25
  go_wp2_with fail
  refine (disc_d (by repeat (first | with_reducible assumption | (with_reducible apply Hid.out; assumption) | with_reducible apply Drw.drewN | with_reducible apply Drw.drew | with_reducible apply Drw.alloc | (with_reducible refine Drw.setp ?_ ?_ ?_ ?_; (first | omega | (simp <;> omega)); (first | omega | (simp <;> omega)); (first | omega | (simp <;> omega))))) hB (by omega)).mono ?_
  rintro e v1 ⟨d1, rfl, hx1, hD1', hG1⟩
  have hD1 := Lib.hid hD1'
  have lG1 := hD1'.lt
  have zG1 := hG1.size
  (try simp at zG1)
  clear hD1' hG1
  clear hx1
  go_wp2_with fail
  refine (factorBase_d (Hid.out hD1) hB (by omega) d1).mono ?_
  rintro e v2 ⟨L, vl, rfl, ho2, hl, hD2, hG2⟩
  go_wp2
  go_ret2
  exact ⟨d1, L, vl, rfl, own_base (by omega) ho2, hl, below_cur hD2.gr⟩
/-- What a draw of a discriminant and two lists of integers gives. -/
def RetDzz (w : World) (e : Ending) (w' : World) : Prop := ∃ (d : Int) (L E : List Int) (vl ve : Value), e = .returned (.tuple #[.int .i64 d, vl, ve]) ∧ w'.ownsRow w.heap.size 3 1 vl L.length (cellsI L) ∧ w'.ownsRow w.heap.size 3 1 ve E.length (cellsI E) ∧ L.length ≤ 7 ∧ E.length ≤ 8 ∧ (∀ x ∈ E, -1001 ≤ x ∧ x ≤ 1001) ∧ Below w.heap.size w w'
theorem own_setF {w : World} {B O cap : Nat} {e : TypeId} {E : List Int} {x : Int} (h : w.ownsRow B e 1 (.slice (some ⟨O, 0, none⟩) E.length cap) E.length (cellsI E)) (h0 : 0 < E.length) : (w.setCell ⟨O, 0, none⟩ (.int .i64 x)).ownsRow B e 1 (.slice (some ⟨O, 0, none⟩) (x :: E.tail).length cap) (x :: E.tail).length (cellsI (x :: E.tail)) := by
  cases E with
  | nil => simp at h0
  | cons y t =>
    have hl : (x :: (y :: t).tail).length = (y :: t).length := by simp
    rw [hl]
    refine ⟨by simp [cellsI], ?_⟩
    rcases h.2 with ⟨hv, _⟩ | ⟨g, c, cur, hv, hg, hh, hnc, hcm, hcs, ht⟩
    · cases hv
    · injection hv with e1 e2 e3
      injection e1 with e1; injection e1 with e1
      subst e1; subst e3
      refine .inr ⟨O, cap, cur.setIfInBounds 0 (.int .i64 x), rfl, hg, ?_, hnc, hcm, by simpa using hcs, ?_⟩
      · simp [World.setCell, Array.getElem?_modify, hh]
      · rw [Array.toList_setIfInBounds, List.take_set, ht]; simp [cellsI]
def RcDr (zs : List Int) (v : Value) (B : Nat) (w W w2 : World) (vz : Value) (Z : List Int) (ve vi : Value) (wr : World) : Prop :=
  ∃ E : List Int, vi = .int .i64 E.length ∧ E.length ≤ Z.length ∧ (∀ x ∈ E, -1001 ≤ x ∧ x ≤ 1001) ∧ Hid (Drw zs v B w.heap.size (104 + 4 * E.length) W wr) ∧ w2.heap.size ≤ wr.heap.size ∧ wr.ownsRow (w.heap.size + 1) 3 1 vz Z.length (cellsI Z) ∧ wr.ownsRow w2.heap.size 3 1 ve E.length (cellsI E)
set_option maxRecDepth 100000 in
set_option maxHeartbeats 6400000 in
theorem drawRc_any (zs : List Int) (v : Value) (B : Nat) (w : World) (hr : RdB zs v B w) (hB : B ≤ w.heap.size) :
    Calls Tryz.prog 20 #[v] w (RetDzz w) := by
  obtain ⟨i0, hi, hz0, hz1, hz2⟩ := info_parts infoInt
  obtain ⟨A, m, c, rfl⟩ := hr.shape
  have hD0 := Lib.hid (drw_startF hr)
  clear hr
  go_enter Tryz.func20, Tryz.ntmps20
  go_wp2_with fail
  refine (disc_d (by repeat (first | with_reducible assumption | (with_reducible apply Hid.out; assumption) | with_reducible apply Drw.drewN | with_reducible apply Drw.drew | with_reducible apply Drw.alloc | (with_reducible refine Drw.setp ?_ ?_ ?_ ?_; (first | omega | (simp <;> omega)); (first | omega | (simp <;> omega)); (first | omega | (simp <;> omega))))) hB (by omega)).mono ?_
  rintro e v1 ⟨d1, rfl, hx1, hD1', hG1⟩
  have hD1 := Lib.hid hD1'
  have lG1 := hD1'.lt
  have zG1 := hG1.size
  (try simp at zG1)
  clear hD1' hG1
  clear hx1
  go_wp2_with fail
  refine (factorBase_d (Hid.out hD1) hB (by omega) d1).mono ?_
  rintro e v2 ⟨Z, vz, rfl, ho2, hl, hD2', hG2⟩
  have zq2 := hG2.size
  have ho2' := own_base (B' := w.heap.size + 1) (by omega) ho2
  have hlz := fun q hq => own_lt ho2 q hq
  have hD2 := Lib.hid hD2'
  obtain ⟨bz, cz, rfl⟩ := own_shape ho2'
  clear hD2' hG2 ho2 hD1
  go_wp2
  go_loopw [8, 19] (fun ve vi wr => RcDr zs (.slice A m c) B w (w.alloc (.cells #[.slice A m c, .int .i64 0, .int .u64 0] 95)) v2 (.slice bz Z.length cz) Z ve vi wr) (fun _ vi _ => Z.length - (intOf vi).toNat)
  case atStart => exact ⟨[], rfl, by simp, by simp, Lib.hid (hD2.out.more (by simp)), Nat.le_refl _, ho2', World.ownsRow_nil _ _ _ _⟩
  case round =>
    clear hD2 ho2'
    obtain ⟨E, rfl, hle, hEb, hD, hzr, hoz, hown⟩ := hrel
    have lG := hD.out.lt
    have zz := hD.out.size
    (try simp at zz)
    by_cases hlt : E.length < Z.length
    · go_wp2_with fail
      refine (pick_d (n := 104 + 4 * E.length) (Hid.out hD) hB 40 (by omega) (by omega)).mono ?_
      rintro e v3 ⟨x3, rfl, hx3, hD3', hG3⟩
      have hD3 := Lib.hid hD3'
      have lG3 := hD3'.lt
      have zq3 := hG3.size
      have hoz3 := own_drw hoz (by omega) hG3
      have ho3 := own_drw hown (by omega) hG3
      have h64 : wrap64 (x3 - 20) = x3 - 20 := IntWalk.wrap64_in _ (by omega)
      clear hD3' hG3 hoz hown hD
      go_wp2_with fail
      refine (among_at (w := v3) (Hid.out hD3) hB [0, 1, -1, 2, 3, 1000, -1000, x3 - 20] (fun x => -1000 ≤ x ∧ x ≤ 1000) (by simp; omega) (by simp) (by simp) (by omega) rfl rfl rfl).mono ?_
      rintro e v4 ⟨x4, rfl, ⟨hx4, hx4'⟩, hD4', hG4⟩
      have hD4 := Lib.hid hD4'
      have lG4 := hD4'.lt
      have zq4 := hG4.size
      (try simp at zq4)
      have hoz4 := own_drw hoz3 (by omega) hG4
      have ho4 := own_drw ho3 (by omega) hG4
      clear hD4' hG4 hoz3 ho3 hD3
      obtain ⟨be, ce, rfl⟩ := own_shape ho4
      go_wp2_with (at_builtin; refine wpList_append_own _ rfl (.tmp 21) (.tmp 28) 32 rfl v2.heap.size 3 i0 _ 1 8 Tryz.underlying32 hi hz0 hz1 hz2 rfl (by decide) (.slice be E.length ce) E.length (cellsI E) rfl ?_ ⟨v4.heap.size, 0, none⟩ 1 1 [.int .i64 x4] rfl rfl ?_ (one1 _) ?_ ?_ ?_ ?_; exact (by repeat (first | with_reducible assumption | with_reducible apply own_alloc | with_reducible apply own_drew | with_reducible apply own_drewN | (with_reducible refine own_setp (by assumption) ?_ ?_; (first | omega | (simp <;> omega))) | (with_reducible refine own_call (by assumption) ?_))); exact cells1 (Blk.new_at (by simp)); (unfold maxLen; omega); omega; (simp; omega); intro v7 w7 hown7 hg7 _)
      have hge := own_ge ho4
      have ho7 := own_snocI (L := E) (K := E ++ [x4]) rfl hown7
      have hoz7 := (own_alloc (o := .cells #[.int .i64 x4] 3) hoz4).kept hg7 (keep_ofF (fun q hq he => by have := hge q he; have := hlz q hq; omega))
      have zq7 := hg7.size
      (try simp at zq7)
      have hd7 : Drw zs _ B w.heap.size (_) _ w7 := Drw.rowF (by exact (by repeat (first | with_reducible assumption | (with_reducible apply Hid.out; assumption) | with_reducible apply Drw.drewN | with_reducible apply Drw.drew | with_reducible apply Drw.alloc | (with_reducible refine Drw.setp ?_ ?_ ?_ ?_; (first | omega | (simp <;> omega)); (first | omega | (simp <;> omega)); (first | omega | (simp <;> omega)))))) hB hg7 (fun q hq => by have := hge q hq; simp; omega) (by simp)
      obtain ⟨b7, c7, rfl⟩ := own_shape ho7
      go_wp2
      go_roundw
      case rel => exact ⟨E ++ [x4], by simp, by simp; omega, fun x hx => by
          rcases List.mem_append.1 hx with h | h
          · exact hEb x h
          · rw [List.mem_singleton] at h; omega, Lib.hid (hd7.more (by simp; omega)), by omega, hoz7, ho7⟩
      case measure => simp [intOf]; omega
    · have hEZ : E.length ≤ 7 := by omega
      have hfin := Lib.hid (fun (E' : List Int) (ve : Value) (w' : World) k (h : Drw zs (.slice A m c) B w.heap.size k (w.alloc (.cells #[.slice A m c, .int .i64 0, .int .u64 0] 95)) w') (hz : w'.ownsRow (w.heap.size + 1) 3 1 (.slice bz Z.length cz) Z.length (cellsI Z)) (he : w'.ownsRow v2.heap.size 3 1 ve E'.length (cellsI E')) (h1 : E'.length ≤ 8) (h2 : ∀ x ∈ E', -1001 ≤ x ∧ x ≤ 1001) => (⟨d1, Z, E', _, ve, rfl, own_base (by omega) hz, own_base (by omega) he, hl, h1, h2, below_cur h.gr⟩ : RetDzz w (.returned (.tuple #[.int .i64 d1, .slice bz Z.length cz, ve])) w'))
      go_wp2_with fail
      refine (pick_d (n := 104 + 4 * E.length) (Hid.out hD) hB 16 (by omega) (by omega)).mono ?_
      rintro e v3 ⟨x3, rfl, hx3, hD3', hG3⟩
      have hD3 := Lib.hid hD3'
      have lG3 := hD3'.lt
      have zq3 := hG3.size
      have hoz3 := own_drw hoz (by omega) hG3
      have ho3 := own_drw hown (by omega) hG3
      clear hD3' hG3 hoz hown hD
      obtain ⟨be, ce, rfl⟩ := own_shape ho3
      by_cases e0 : x3 = 0
      · subst e0
        go_wp2_with (at_builtin; refine wpList_append_own _ rfl (.tmp 35) (.tmp 36) 32 rfl v2.heap.size 3 i0 _ 1 8 Tryz.underlying32 hi hz0 hz1 hz2 rfl (by decide) (.slice be E.length ce) E.length (cellsI E) rfl ?_ ⟨v3.heap.size, 0, none⟩ 1 1 [.int .i64 0] rfl rfl ?_ (one1 _) ?_ ?_ ?_ ?_; exact (by repeat (first | with_reducible assumption | with_reducible apply own_alloc | with_reducible apply own_drew | with_reducible apply own_drewN | (with_reducible refine own_setp (by assumption) ?_ ?_; (first | omega | (simp <;> omega))) | (with_reducible refine own_call (by assumption) ?_))); exact cells1 (Blk.new_at (by simp)); (unfold maxLen; omega); omega; (simp; omega); intro v7 w7 hown7 hg7 _)
        have hge := own_ge ho3
        have ho7 := own_snocI (L := E) (K := E ++ [0]) rfl hown7
        have hoz7 := (own_alloc (o := .cells #[.int .i64 0] 3) hoz3).kept hg7 (keep_ofF (fun q hq he => by have := hge q he; have := hlz q hq; omega))
        have hd7 : Drw zs _ B w.heap.size (_) _ w7 := Drw.rowF (by exact (by repeat (first | with_reducible assumption | (with_reducible apply Hid.out; assumption) | with_reducible apply Drw.drewN | with_reducible apply Drw.drew | with_reducible apply Drw.alloc | (with_reducible refine Drw.setp ?_ ?_ ?_ ?_; (first | omega | (simp <;> omega)); (first | omega | (simp <;> omega)); (first | omega | (simp <;> omega)))))) hB hg7 (fun q hq => by have := hge q hq; simp; omega) (by simp)
        go_wp2
        go_ret3
        exact hfin.out (E ++ [0]) _ _ _ hd7 hoz7 ho7 (by simp; omega) (fun x hx => by
          rcases List.mem_append.1 hx with h | h
          · exact hEb x h
          · rw [List.mem_singleton] at h; omega)
      · have n0 : (x3 == 0) = false := by rw [beq_eq_false_iff_ne]; exact e0
        by_cases e1 : x3 = 1
        · subst e1
          by_cases h0 : E.length = 0
          · obtain rfl : E = [] := List.length_eq_zero_iff.1 h0
            clear h0
            go_wp2
            go_ret3
            exact hfin.out [] _ _ _ hD3.out hoz3 ho3 (by simp) (by simp)
          · have h0' : (0 : Int) < E.length := by omega
            have h00 : 0 < E.length := by omega
            obtain ⟨g, rfl, lg, dd⟩ := own_elemI ho3 h00
            have f0 := ho3.frozenAt 0
            have hge := own_ge ho3 g rfl
            have ho7 := own_setF (x := 1001) ho3 h00
            have hoz7 := own_set_nqF (x := .int .i64 1001) (p := ⟨g, 0, none⟩) hoz3 (fun q hq => by have := hlz q hq; show q ≠ g; omega)
            have hd7 := Drw.setp (p := ⟨g, 0, none⟩) (u := .int .i64 1001) (by show B ≤ g; omega) (by show w.heap.size ≠ g; omega) (by show _ ≤ g; simp; omega) hD3.out
            have hlen : (1001 :: E.tail).length = E.length := by simp; omega
            rw [hlen] at ho7
            go_wp2
            go_ret3
            exact hfin.out (1001 :: E.tail) _ _ _ hd7 hoz7 (by rw [hlen]; exact ho7) (by omega) (fun x hx => by
              rcases List.mem_cons.1 hx with rfl | h
              · omega
              · exact hEb x (List.mem_of_mem_tail h))
        · have n1 : (x3 == 1) = false := by rw [beq_eq_false_iff_ne]; exact e1
          clear hx3
          go_wp2
          go_ret3
          exact hfin.out E _ _ _ hD3.out hoz3 ho3 (by omega) hEb
end Go.Proofs.YteehcjjhkphdnaaGreat
