/- Contracts of LeastRelation, of the program. -/
import Derived.Test.YteehcjjhkphdnaaGreatPJ
import Derived.Test.YteehcjjhkphdnaaGreatPG
import Derived.Test.YteehcjjhkphdnaaGreatPD
namespace Go.Proofs.YteehcjjhkphdnaaGreat
open Go.RowKit

/-- Whether the composite of the powers is the identity. -/
noncomputable def gdB (d : Int) (K : List Fm) (E : List Int) : Bool := fmEq (relK d K E K.length) (oneF d)
/-- The relation with the least sum, from the sum s on. -/
noncomputable def lsUp (h : Nat → Option (List Int)) : Nat → Nat → Option (List Int)
  | 0, _ => none
  | k + 1, s => match h s with
    | some x => some x
    | none => lsUp h k (s + 1)
theorem pw_relK {d : Int} (D : Dsc d) {K : List Fm} {f : Fm} (hK : ∀ f ∈ K, f ∈ clsL d) (hf : K.getD 0 ⟨0, 0, 0⟩ = f) {n : Nat} {E : List Int} (hE : E.getD 0 0 = (n : Int)) (hE2 : ∀ k, 1 ≤ k → E.getD k 0 = 0) : ∀ k, 1 ≤ k → k ≤ K.length → relK d K E k = pw d f n
  | 0, h, _ => by omega
  | 1, _, h => by
    have hm : f ∈ clsL d := hf ▸ hK _ (by rw [List.getD_eq_getElem?_getD, List.getElem?_eq_getElem (show 0 < K.length by omega)]; exact List.getElem_mem _)
    rw [relK, relK, hE, hf]
    unfold pwZ
    rw [if_pos (by omega), show ((n : Int)).toNat = n from rfl]
    exact D.one_mul (D.pwm hm n)
  | k + 2, _, h => by
    have hm : f ∈ clsL d := hf ▸ hK _ (by rw [List.getD_eq_getElem?_getD, List.getElem?_eq_getElem (show 0 < K.length by omega)]; exact List.getElem_mem _)
    rw [relK, pw_relK D hK hf hE hE2 (k + 1) (by omega) (by omega), hE2 (k + 1) (by omega)]
    unfold pwZ
    rw [if_pos (by omega)]
    exact D.mul_one (D.pwm hm n)
theorem loopD_some {α : Type} {h : Nat → Option α} {x : α} : ∀ {k : Nat}, h k = some x → ∃ y, loopD h (k + 1) = some y := by
  intro k hk
  exact ⟨x, by rw [loopD, hk]⟩
/-- Zeros behind the first place are among the lists. -/
theorem lastL_zero (g : List Int → Bool) : ∀ (p : Nat) (pre : List Int), g (pre ++ List.replicate (p + 1) 0) = true → ∃ E, lastL g p 0 pre = some E
  | 0, pre, h => ⟨_, by rw [lastL, if_pos (by simpa using h)]⟩
  | p + 1, pre, h => by
    have h2 : g ((pre ++ [((0 : Nat) : Int)]) ++ List.replicate (p + 1) 0) = true := by
      rw [List.append_assoc]
      simpa [List.replicate_succ] using h
    obtain ⟨E, hE⟩ := lastL_zero g p _ h2
    rw [lastL]
    exact loopD_some (k := 0) hE
theorem lastL_first (g : List Int → Bool) (p s : Nat) (h : g ((s : Int) :: List.replicate p 0) = true) : ∃ E, lastL g p s [] = some E := by
  cases p with
  | zero => exact ⟨_, by rw [lastL, if_pos (by simpa using h)]⟩
  | succ p =>
    obtain ⟨E, hE⟩ := lastL_zero g p [(s : Int)] (by simpa using h)
    rw [lastL]
    exact loopD_some (k := s) (by simpa using hE)
/-- There is a relation with a sum in range. -/
theorem rel_ex {d : Int} (D : Dsc d) {K : List Fm} (hK : ∀ f ∈ K, f ∈ clsL d) {p : Nat} (hp : K.length = p + 1) : ∃ s, 1 ≤ s ∧ s ≤ 1640 ∧ ∃ E, lastL (gdB d K) p s [] = some E := by
  have hm : K.getD 0 ⟨0, 0, 0⟩ ∈ clsL d := hK _ (by rw [List.getD_eq_getElem?_getD, List.getElem?_eq_getElem (show 0 < K.length by omega)]; exact List.getElem_mem _)
  obtain ⟨h1, h2⟩ := D.ordm hm
  refine ⟨ordF d (K.getD 0 ⟨0, 0, 0⟩), h1.1, h2, lastL_first _ _ _ ?_⟩
  unfold gdB
  rw [fmEq_iff, pw_relK D hK rfl (n := ordF d (K.getD 0 ⟨0, 0, 0⟩)) rfl ?_ K.length (by omega) (Nat.le_refl _)]
  · exact h1.2.1
  · intro k hk
    obtain ⟨j, rfl⟩ : ∃ j, k = j + 1 := ⟨k - 1, by omega⟩
    rw [List.getD_cons_succ, List.getD_eq_getElem?_getD, List.getElem?_replicate]
    split <;> rfl
theorem lsUp_ex {h : Nat → Option (List Int)} {S : Nat} {x : List Int} (hS : h S = some x) : ∀ (k s : Nat), s ≤ S → S < s + k → ∃ E, lsUp h k s = some E
  | 0, s, h1, h2 => by omega
  | k + 1, s, h1, h2 => by
    cases he : h s with
    | some y => exact ⟨y, by rw [lsUp, he]⟩
    | none =>
      have : s ≠ S := fun e => by rw [e, hS] at he; cases he
      obtain ⟨E, hE⟩ := lsUp_ex hS k (s + 1) (by omega) (by omega)
      exact ⟨E, by rw [lsUp, he]; exact hE⟩
/-- The least relation of some classes. -/
noncomputable def lrK (d : Int) (K : List Fm) : Option (List Int) := lsUp (fun s => lastL (gdB d K) (K.length - 1) s []) 1641 1
/-- What LeastRelation gives. -/
noncomputable def lrO (d : Int) (Z : List Int) : Option (List Int) := (pfsO d Z 3).bind fun L => lrK d (L.map red)
theorem lrO_none {d : Int} {Z : List Int} (h : pfsO d Z 3 = none) : lrO d Z = none := by unfold lrO; rw [h]; rfl
theorem lrO_some {d : Int} {Z : List Int} {L : List Fm} (h : pfsO d Z 3 = some L) : ∃ E, lrO d Z = some E ∧ lsUp (fun s => lastL (gdB d (L.map red)) (L.length - 1) s []) 1641 1 = some E := by
  obtain ⟨hc, hcf, hlen, hle, h1⟩ := pfsO_cf h
  have hll : (L.map red).length = (L.length - 1) + 1 := by rw [List.length_map]; omega
  obtain ⟨s, s1, s2, x, hx⟩ := rel_ex (dsc_of hc) (K := L.map red) (fun f hf => by obtain ⟨g, hg, rfl⟩ := List.mem_map.1 hf; exact (hcf g hg).mem) hll
  obtain ⟨E, hE⟩ := lsUp_ex (h := fun s => lastL (gdB d (L.map red)) (L.length - 1) s []) (S := s) hx 1641 1 s1 (by omega)
  refine ⟨E, ?_, hE⟩
  unfold lrO lrK
  rw [h, Option.bind_some, List.length_map]
  exact hE

set_option maxRecDepth 100000 in
set_option maxHeartbeats 1600000 in
theorem good_any (d : Int) (L : List Fm) (E : List Int) (bl : Option Addr) (cl : Nat) (ve : Value) (bd bf B B2 : Nat) (w : World) (D : Dsc d) (hl : L.length ≤ 6) (hE : E.length = L.length) (hEb : ∀ e ∈ E, 0 ≤ e ∧ e ≤ 2000) (hg : GoodP d L)
    (hcd : w.cell? ⟨bd, 0, none⟩ = some (.int .i64 d)) (hcf : w.cell? ⟨bf, 0, none⟩ = some (.slice bl L.length cl)) (ho : w.ownsRow B 36 3 (.slice bl L.length cl) L.length (cellsF L)) (hoE : w.ownsRow B2 3 1 ve E.length (cellsI E)) :
    Calls Tryz.prog 98 #[ve, .pointer (some ⟨bd, 0, none⟩), .pointer (some ⟨bf, 0, none⟩)] w fun e w' => e = .returned (.bool (gdB d (L.map red) E)) ∧ Below w.heap.size w w' := by
  have hR := Lib.hid (fun w ho hoE => relationClass_any d L E (.slice bl L.length cl) ve B B2 w D hl (by omega) (fun e he => by have := hEb e he; omega) hg ho hoE)
  have hll : (L.map red).length = L.length := List.length_map ..
  have hm := relK_mem D (K := L.map red) (fun f hf => by obtain ⟨g, hg2, rfl⟩ := List.mem_map.1 hf; exact (hg g hg2).1.mem) E L.length (by omega)
  obtain ⟨o, ho1⟩ : ∃ o, oneF d = o := ⟨_, rfl⟩
  have hgd : gdB d (L.map red) E = fmEq (relK d (L.map red) E L.length) o := by unfold gdB; rw [hll, ho1]
  rw [hgd]
  obtain ⟨r, hr⟩ : ∃ r, relK d (L.map red) E L.length = r := ⟨_, rfl⟩
  rw [hr] at hm hR ⊢
  have hI := Lib.hid (fun w => isIdentity_any d r r o w (CF.of_mem D hm) ho1)
  have HO := Lib.hid ho
  have HE := Lib.hid hoE
  clear hr hm ho1 hgd hll ho hoE hg hEb D
  go_enter Tryz.func98, Tryz.ntmps98
  go_wp2_with (first
    | (go_at_call 88; refine (hR.out _ HO.out HE.out).mono ?_; rintro e v1 ⟨rfl, hB1⟩; have hZ1 := hB1.size)
    | (go_at_call 99; refine (hI.out _).mono ?_; rintro e v2 ⟨rfl, hB2⟩))
  go_ret
  exact ⟨rfl, below_via hB1 hB2 hZ1⟩
def LrSt (h : Nat → Option (List Int)) (E : List Int) (w2 : World) (vs : Value) (wr : World) : Prop :=
  ∃ s k : Nat, vs = .int .i64 s ∧ 1 ≤ s ∧ s + k = 1642 ∧ Hid (lsUp h k s = some E) ∧ Below w2.heap.size w2 wr
/-- What LeastRelation gives. -/
def LrP (d : Int) (Z L : List Int) (ok : Bool) : Prop := (lrO d Z = none ∧ L = [] ∧ ok = false) ∨ (lrO d Z = some L ∧ ok = true)
def RetIc (L : List Int) (ok : Bool) (w : World) (e : Ending) (w' : World) : Prop := ∃ v, e = .returned (.tuple #[v, .bool ok]) ∧ w'.ownsRow w.heap.size 3 1 v L.length (cellsI L) ∧ Below w.heap.size w w'

set_option maxRecDepth 100000 in
set_option maxHeartbeats 3200000 in
theorem implLr_any (d : Int) (v : Value) (B : Nat) (Z R : List Int) (ok : Bool) (w : World) (hlz : Z.length ≤ 10000000) (h : LrP d Z R ok) (ho : w.ownsRow B 3 1 v Z.length (cellsI Z)) :
    Calls Tryz.prog 26 #[.int .i64 d, v] w (RetIc R ok w) := by
  have hP0 := Lib.hid (fun w ho => primeForms_any d 3 Z v B w hlz (by omega) ho)
  obtain ⟨bz, cz, rfl⟩ := own_shape ho
  have HO := Lib.hid (own_alloc (o := .cells #[.int .i64 d] 3) ho)
  clear ho
  cases hz : pfsO d Z 3 with
  | none =>
    obtain ⟨rfl, rfl⟩ : R = [] ∧ ok = false := by
      rcases h with ⟨_, a, b⟩ | ⟨a, _⟩
      · exact ⟨a, b⟩
      · rw [lrO_none hz] at a; cases a
    have hP := Lib.hid (fun w ho => (show Calls Tryz.prog 86 #[.int .i64 d, .slice bz Z.length cz, .int .i64 3] w (fun e w' => e = .returned (.tuple #[.slice none 0 0, .bool false]) ∧ Below w.heap.size w w') from (hP0.out w ho).mono (fun e w' h => by
      rcases h with ⟨_, a, b⟩ | ⟨L, v, a, _⟩
      · exact ⟨a, b⟩
      · rw [hz] at a; cases a)))
    clear hP0 hz h
    go_enter Tryz.func26, Tryz.ntmps26
    go_wp2_with (go_at_call 86; (with_reducible refine (hP.out _ HO.out).mono ?_); rintro e v1 ⟨rfl, hB1⟩; have hZ1 := hB1.size; (try simp at hZ1))
    go_ret2
    have hoe := own_empty (w := v1.alloc (.cells #[.slice none 0 0] 25)) (e := 3) (sz := 1) (B := w.heap.size) (by simp; omega)
    exact ⟨_, rfl, by simpa [cellsI] using hoe, (by repeat (first | with_reducible exact Below.refl _ _ | with_reducible assumption | with_reducible apply Below.drew | with_reducible apply below_drewN | (with_reducible apply below_setp; (first | omega | (simp <;> omega))) | (with_reducible apply below_allocp; (first | omega | (simp <;> omega))) | (with_reducible refine below_viap (by assumption) ?_ ?_; (first | omega | (simp <;> omega)))))⟩
  | some L =>
    obtain ⟨E, hE1, hE2⟩ := lrO_some hz
    obtain ⟨rfl, rfl⟩ : R = E ∧ ok = true := by
      rcases h with ⟨a, _⟩ | ⟨a, b⟩
      · rw [hE1] at a; cases a
      · rw [hE1] at a; injection a with a; exact ⟨a.symm, b⟩
    obtain ⟨hc, hcf, hlen, hle, hl1⟩ := pfsO_cf hz
    have hgd : GoodP d L := by
      unfold pfsO at hz
      split at hz
      · exact pfL_good Z L hz
      · cases hz
    have D := dsc_of hc
    have hP := Lib.hid (fun w ho => (show Calls Tryz.prog 86 #[.int .i64 d, .slice bz Z.length cz, .int .i64 3] w (fun e w' => ∃ v, e = .returned (.tuple #[v, .bool true]) ∧ w'.ownsRow w.heap.size 36 3 v L.length (cellsF L) ∧ Below w.heap.size w w') from (hP0.out w ho).mono (fun e w' h => by
      rcases h with ⟨a, _⟩ | ⟨L, v, a, b⟩
      · rw [hz] at a; cases a
      · rw [hz] at a; injection a with a; subst a; exact ⟨v, b⟩)))
    have hgood := Lib.hid (fun (bl : Option Addr) (cl bd bf B : Nat) (w2 : World) (hbd : bd < w2.heap.size) (hbf : bf < w2.heap.size) hcd hcf ho => (show GoodC (.pointer (some ⟨bd, 0, none⟩)) (.pointer (some ⟨bf, 0, none⟩)) w2 (gdB d (L.map red)) L.length 2000 from fun w' ve E B2 hb hEl hEb hoE =>
      good_any d L E bl cl ve bd bf B B2 w' D (by omega) hEl hEb hgd ((World.cell?_of_block (hb.block bd hbd)).trans hcd) ((World.cell?_of_block (hb.block bf hbf)).trans hcf) (own_call hb ho) hoE))
    have hLl := Lib.hid (fun (pd pf : Value) (w2 : World) (hG : GoodC pd pf w2 (gdB d (L.map red)) L.length 2000) (s : Nat) (v : Value) (w : World) (hs : s ≤ 2000) h1 h2 h3 => lastList_any pd pf w2 (gdB d (L.map red)) L.length 2000 (by omega) (by decide) hG (L.length - 1) s [] (L.length : Int) (s : Int) v w (by omega) rfl (by simp; omega) (by simp) (by omega) h1 h2 h3)
    have hLL : Hid (∀ s, lastL (gdB d (L.map red)) (L.length - 1) s [] = lastL (gdB d (L.map red)) (L.length - 1) s []) := Lib.hid (fun _ => rfl)
    obtain ⟨hf, hhf⟩ : ∃ hf, (fun s => lastL (gdB d (L.map red)) (L.length - 1) s []) = hf := ⟨_, rfl⟩
    rw [hhf] at hE2
    have Hhf := Lib.hid (fun s => congrFun hhf s)
    have HE2 := Lib.hid hE2
    have hmf : ∀ (fn : Fn) (first cap : Array Value) (w : World), (Instr.makeFunc fn first cap).run Tryz.prog w = .ok (.func fn first cap) w := fun _ _ _ _ => rfl
    have hL3 : L.length ≤ 3 := by omega
    have hL1 : 1 ≤ L.length := by omega
    clear hP0 hz h hE1 hE2 hcf hgd D hhf hc hLL hlen hle hl1
    go_enter Tryz.func26, Tryz.ntmps26
    go_wp2_with (go_at_call 86; (with_reducible refine (hP.out _ HO.out).mono ?_); rintro e v1 ⟨vl, rfl, hol, hB1⟩; have hZ1 := hB1.size; (try simp at hZ1); obtain ⟨bl, cl, rfl⟩ := own_shape hol; have hD1 : Blk v1 w.heap.size 3 #[.int .i64 d] := Blk.call (by (repeat (first | with_reducible assumption | (with_reducible apply Blk.new_at; (first | rfl | (simp; done))) | with_reducible apply Blk.store3 | with_reducible apply Blk.store4 | (with_reducible apply Blk.farp; (first | omega | (simp <;> omega))) | with_reducible apply Blk.allocp | with_reducible apply Blk.drew | with_reducible apply Blk.drewN))) hB1)
    obtain ⟨w2, hw2⟩ : ∃ w2, v1.alloc (.cells #[.slice bl L.length cl] 25) = w2 := ⟨_, rfl⟩
    have hF2 : Blk w2 v1.heap.size 25 #[.slice bl L.length cl] := by rw [← hw2]; exact Blk.new _ _ _
    have hD2 : Blk w2 w.heap.size 3 #[.int .i64 d] := by rw [← hw2]; exact Blk.allocp hD1
    have hbw : Below w.heap.size w w2 := by rw [← hw2]; exact (by repeat (first | with_reducible exact Below.refl _ _ | with_reducible assumption | with_reducible apply Below.drew | with_reducible apply below_drewN | (with_reducible apply below_setp; (first | omega | (simp <;> omega))) | (with_reducible apply below_allocp; (first | omega | (simp <;> omega))) | (with_reducible refine below_viap (by assumption) ?_ ?_; (first | omega | (simp <;> omega)))))
    have ho2 : w2.ownsRow (w.alloc (.cells #[.int .i64 d] 3)).heap.size 36 3 (.slice bl L.length cl) L.length (cellsF L) := by rw [← hw2]; exact own_alloc hol
    have hG2 := hgood.out bl cl w.heap.size v1.heap.size _ w2 hD2.lt hF2.lt (hD2.cell 0) (hF2.cell 0) ho2
    have hL2 := Lib.hid (fun s v w hs h1 h2 h3 => hLl.out _ _ w2 hG2 s v w hs h1 h2 h3)
    obtain ⟨wb, hwb⟩ : ∃ wb : Nat, w.heap.size = wb := ⟨_, rfl⟩
    rw [hw2]
    rw [hwb] at hL2
    clear hw2 hG2 ho2 hol hB1
    go_loopw [9] (fun vs wr => LrSt hf R w2 vs wr) (fun vs _ => 1642 - (intOf vs).toNat)
    case atStart => exact ⟨1, 1641, rfl, Nat.le_refl _, rfl, HE2, Below.refl _ _⟩
    case round =>
      rw [hwb]
      obtain ⟨s, k, rfl, s1, hsk, hst, hbel⟩ := hrel
      have hz := hbel.size
      obtain ⟨k, rfl⟩ : ∃ j, k = j + 1 := by
        cases k with
        | zero => have := hst.out; rw [lsUp] at this; cases this
        | succ j => exact ⟨j, rfl⟩
      have hF3 := hF2.call hbel
      have cF3 := hF3.cell; have lF3 := hF3.lt
      have hI2 := Lib.hid (fun v w h1 h2 h3 => hL2.out s v w (by omega) h1 h2 h3)
      cases hfo : hf s with
      | none =>
        have hst2 : Hid (lsUp hf k (s + 1) = some R) := Lib.hid (by have := hst.out; rw [lsUp, hfo] at this; exact this)
        have hI3 := Lib.hid (fun x w h1 h2 h3 => (show Calls Tryz.prog 100 #[.int .i64 L.length, .int .i64 s, x, .func (.func 98) #[] #[.pointer (some ⟨wb, 0, none⟩), .pointer (some ⟨v1.heap.size, 0, none⟩)]] w (fun e w' => e = .returned (.slice none 0 0) ∧ Below w2.heap.size w w') from (hI2.out x w h1 h2 h3).mono (fun e w' hh => by
          obtain ⟨h5, _, h6, _⟩ := hh
          rcases h5 with ⟨_, h7⟩ | ⟨E, g, c, h7, _⟩
          · exact ⟨h7, h6⟩
          · rw [Hhf.out s, hfo] at h7; cases h7)))
        have hoe := own_empty (w := wr) (e := 3) (sz := 1) (B := w2.heap.size) hz
        go_wp2_with (go_at_call 100; refine (hI3.out _ _ (hbel.alloc (by omega) _) (by simp; omega) hoe).mono ?_; rintro e w3 ⟨rfl, hb3⟩; have hz3 := hb3.size)
        have hbN : Below w2.heap.size w2 w3 := (hbel.alloc (by omega) _).trans hb3
        go_roundw
        case rel => exact ⟨s + 1, k, by go_num, by omega, by omega, hst2, hbN⟩
        case measure => simp [intOf]; omega
      | some E =>
        have hRE : R = E := by have := hst.out; rw [lsUp, hfo] at this; injection this with this; exact this.symm
        subst hRE
        have hI3 := Lib.hid (fun x w h1 h2 h3 => (show Calls Tryz.prog 100 #[.int .i64 L.length, .int .i64 s, x, .func (.func 98) #[] #[.pointer (some ⟨wb, 0, none⟩), .pointer (some ⟨v1.heap.size, 0, none⟩)]] w (fun e w' => (∃ g c, e = .returned (.slice (some ⟨g, 0, none⟩) R.length c) ∧ w'.ownsRow w2.heap.size 3 1 (.slice (some ⟨g, 0, none⟩) R.length c) R.length (cellsI R)) ∧ Below w2.heap.size w w') from (hI2.out x w h1 h2 h3).mono (fun e w' hh => by
          obtain ⟨h5, _, h6, _⟩ := hh
          rcases h5 with ⟨h7, _⟩ | ⟨E, g, c, h7, h8, h9⟩
          · rw [Hhf.out s, hfo] at h7; cases h7
          · rw [Hhf.out s, hfo] at h7; injection h7 with h7; subst h7; exact ⟨⟨g, c, h8, h9⟩, h6⟩)))
        have hoe := own_empty (w := wr) (e := 3) (sz := 1) (B := w2.heap.size) hz
        go_wp2_with (go_at_call 100; refine (hI3.out _ _ (hbel.alloc (by omega) _) (by simp; omega) hoe).mono ?_; rintro e w3 ⟨⟨g, c, rfl, hoE⟩, hb3⟩; have hz3 := hb3.size)
        have hbN : Below w2.heap.size w2 w3 := (hbel.alloc (by omega) _).trans hb3
        go_ret2
        exact ⟨_, rfl, own_base hbw.size hoE, below_via hbw hbN hbw.size⟩
end Go.Proofs.YteehcjjhkphdnaaGreat
