/- Contracts: merging the parts of two members, by the program. -/
import Derived.Test.YtcijjnjgifoipaaHC
import Derived.Test.YtcijjnjgifoipaaZ2
import Derived.RegionTactic
namespace Go.Proofs.Ytcijjnjgifoipaa
open Go.RowKit

/-- The parts of i and k together, named by the least member. -/
def mrgC (c : Nat → Int) (i k : Nat) : Nat → Int := fun j => if c j = max (c i) (c k) then min (c i) (c k) else c j
def mrgU (c : Nat → Int) (i k q : Nat) : Nat → Int := fun j => if j < q then mrgC c i k j else c j
theorem mrgU_zero (c : Nat → Int) (i k : Nat) : mrgU c i k 0 = c := by funext j; unfold mrgU; rw [if_neg (by omega)]
theorem mrgU_next (c : Nat → Int) (i k q : Nat) : (fun j => if j = q then mrgC c i k q else mrgU c i k q j) = mrgU c i k (q + 1) := by
  funext j
  unfold mrgU
  by_cases e : j = q
  · subst e; rw [if_pos rfl, if_pos (by omega)]
  · rw [if_neg e]
    by_cases h : j < q
    · rw [if_pos h, if_pos (by omega)]
    · rw [if_neg h, if_neg (by omega)]
/-- The parts as a row of integers. -/
def rowC (w : World) (O m : Nat) (c : Nat → Int) : Prop := w.rowIs O 3 m (fun i => .int .i64 (c i))
def MgSt (c : Nat → Int) (i k O m : Nat) (w : World) (vj : Value) (wr : World) : Prop :=
  ∃ q : Nat, vj = .int .i64 q ∧ q ≤ m ∧ Hid (rowC wr O m (mrgU c i k q)) ∧ Hid (w.grownBy wr (some O))

set_option maxRecDepth 100000 in
set_option maxHeartbeats 1600000 in
theorem merge_any (c : Nat → Int) (i k O m : Nat) (w : World) (hm : m ≤ 1640) (hi : i < m) (hk : k < m) (hc : ∀ j, j < m → 0 ≤ c j ∧ c j ≤ 1640) (hr : rowC w O m c) :
    Calls Try.prog 58 #[.slice (some ⟨O, 0, none⟩) m m, .int .i64 i, .int .i64 k] w fun e w' => e = .returned (.tuple #[]) ∧ rowC w' O m (mrgC c i k) ∧ w.grownBy w' (some O) := by
  have HR := Lib.hid hr
  have c1 := hr.cell hi
  have c2 := hr.cell hk
  have lO := hr.lt
  obtain ⟨x1, x2⟩ := hc i hi
  obtain ⟨y1, y2⟩ := hc k hk
  have Hc := Lib.hid hc
  have hM : Hid (∀ j, mrgC c i k j = if c j = max (c i) (c k) then min (c i) (c k) else c j) := Lib.hid (fun _ => rfl)
  obtain ⟨x, hx⟩ : ∃ x, c i = x := ⟨_, rfl⟩
  obtain ⟨y, hy⟩ : ∃ y, c k = y := ⟨_, rfl⟩
  rw [hx] at c1 x1 x2 hM
  rw [hy] at c2 y1 y2 hM
  clear hr hc hx hy
  have htri : x < y ∨ x = y ∨ y < x := by omega
  rcases htri with h | h | h
  · have hmn : Hid (min x y = x ∧ max x y = y) := Lib.hid ⟨by omega, by omega⟩
    go_enter Try.func58, Try.ntmps58
    go_wp2
    go_region
    go_wp2
    go_loopw [29] (fun vj wr => MgSt c i k O m w vj wr) (fun vj _ => m - (intOf vj).toNat)
    case atStart => exact ⟨0, rfl, Nat.zero_le _, Lib.hid (by rw [mrgU_zero]; exact HR.out), Lib.hid ⟨rfl, rfl, rfl, Nat.le_refl _, fun _ _ _ => rfl⟩⟩
    case round =>
      obtain ⟨q, rfl, hq, hR, hgr⟩ := hrel
      by_cases hlt : q < m
      · have cR := hR.out.cell hlt
        have fR := hR.out.frozen q
        have lR := hR.out.lt
        have hnx := mrgU_next c i k q
        have hqv : mrgU c i k q q = c q := by unfold mrgU; rw [if_neg (by omega)]
        have hMq := hM.out q
        rw [hmn.out.1, hmn.out.2] at hMq
        obtain ⟨z1, z2⟩ := Hc.out q hlt
        simp only [hqv] at cR
        obtain ⟨z, hz⟩ : ∃ z, c q = z := ⟨_, rfl⟩
        simp only [hz] at cR hMq hqv z1 z2
        by_cases hzh : z = y
        · have hv : mrgC c i k q = x := by rw [hMq, if_pos hzh]
          have hR2 := Lib.hid ((hR.out.set q (.int .i64 x)).congr (g := fun j => .int .i64 (mrgU c i k (q + 1) j)) (fun j _ => by
            have hj : (if j = q then mrgC c i k q else mrgU c i k q j) = mrgU c i k (q + 1) j := congrFun hnx j
            rw [← hj, hv]
            by_cases e : j = q
            · rw [if_pos e, if_pos e]
            · rw [if_neg e, if_neg e]))
          have hg2 := Lib.hid (show w.grownBy (wr.setCell ⟨O, q, none⟩ (.int .i64 x)) (some O) from ⟨hgr.out.os, hgr.out.tape, hgr.out.output, by have := hgr.out.size; simp; exact this, fun j hj hne => (heap_setCell_other wr ⟨O, q, none⟩ j _ (fun e => hne (by rw [e]))).trans (hgr.out.block j hj hne)⟩)
          rw [hzh] at cR
          clear hnx hqv hMq hz hzh hv hR hgr z1 z2
          go_wp2
          go_roundw
          case rel => exact ⟨q + 1, rfl, hlt, hR2, hg2⟩
          case measure => simp [intOf]; omega
        · have hv : mrgC c i k q = z := by rw [hMq, if_neg hzh]
          have hR2 : Hid (rowC wr O m (mrgU c i k (q + 1))) := Lib.hid (hR.out.congr (fun j _ => by
            have hj : (if j = q then mrgC c i k q else mrgU c i k q j) = mrgU c i k (q + 1) j := congrFun hnx j
            rw [← hj, hv]
            by_cases e : j = q
            · subst e; rw [if_pos rfl, hqv]
            · rw [if_neg e]))
          have hzb : (z == y) = false := by rw [beq_eq_false_iff_ne]; exact hzh
          clear hnx hqv hMq hz hv hR z1 z2
          go_wp2
          go_roundw
          case rel => exact ⟨q + 1, rfl, hlt, hR2, hgr⟩
          case measure => simp [intOf]; omega
      · have hfin := Lib.hid (show rowC wr O m (mrgC c i k) from hR.out.congr (fun j hj => by unfold mrgU; rw [if_pos (by omega)]))
        clear hR
        go_wp2
        go_end0
        exact ⟨rfl, hfin.out, hgr.out⟩
  · subst h
    have hmn : Hid (min x x = x ∧ max x x = x) := Lib.hid ⟨by omega, by omega⟩
    go_enter Try.func58, Try.ntmps58
    go_wp2
    go_region
    go_wp2
    go_loopw [29] (fun vj wr => MgSt c i k O m w vj wr) (fun vj _ => m - (intOf vj).toNat)
    case atStart => exact ⟨0, rfl, Nat.zero_le _, Lib.hid (by rw [mrgU_zero]; exact HR.out), Lib.hid ⟨rfl, rfl, rfl, Nat.le_refl _, fun _ _ _ => rfl⟩⟩
    case round =>
      obtain ⟨q, rfl, hq, hR, hgr⟩ := hrel
      by_cases hlt : q < m
      · have cR := hR.out.cell hlt
        have fR := hR.out.frozen q
        have lR := hR.out.lt
        have hnx := mrgU_next c i k q
        have hqv : mrgU c i k q q = c q := by unfold mrgU; rw [if_neg (by omega)]
        have hMq := hM.out q
        rw [hmn.out.1, hmn.out.2] at hMq
        obtain ⟨z1, z2⟩ := Hc.out q hlt
        simp only [hqv] at cR
        obtain ⟨z, hz⟩ : ∃ z, c q = z := ⟨_, rfl⟩
        simp only [hz] at cR hMq hqv z1 z2
        by_cases hzh : z = x
        · have hv : mrgC c i k q = x := by rw [hMq, if_pos hzh]
          have hR2 := Lib.hid ((hR.out.set q (.int .i64 x)).congr (g := fun j => .int .i64 (mrgU c i k (q + 1) j)) (fun j _ => by
            have hj : (if j = q then mrgC c i k q else mrgU c i k q j) = mrgU c i k (q + 1) j := congrFun hnx j
            rw [← hj, hv]
            by_cases e : j = q
            · rw [if_pos e, if_pos e]
            · rw [if_neg e, if_neg e]))
          have hg2 := Lib.hid (show w.grownBy (wr.setCell ⟨O, q, none⟩ (.int .i64 x)) (some O) from ⟨hgr.out.os, hgr.out.tape, hgr.out.output, by have := hgr.out.size; simp; exact this, fun j hj hne => (heap_setCell_other wr ⟨O, q, none⟩ j _ (fun e => hne (by rw [e]))).trans (hgr.out.block j hj hne)⟩)
          rw [hzh] at cR
          clear hnx hqv hMq hz hzh hv hR hgr z1 z2
          go_wp2
          go_roundw
          case rel => exact ⟨q + 1, rfl, hlt, hR2, hg2⟩
          case measure => simp [intOf]; omega
        · have hv : mrgC c i k q = z := by rw [hMq, if_neg hzh]
          have hR2 : Hid (rowC wr O m (mrgU c i k (q + 1))) := Lib.hid (hR.out.congr (fun j _ => by
            have hj : (if j = q then mrgC c i k q else mrgU c i k q j) = mrgU c i k (q + 1) j := congrFun hnx j
            rw [← hj, hv]
            by_cases e : j = q
            · subst e; rw [if_pos rfl, hqv]
            · rw [if_neg e]))
          have hzb : (z == x) = false := by rw [beq_eq_false_iff_ne]; exact hzh
          clear hnx hqv hMq hz hv hR z1 z2
          go_wp2
          go_roundw
          case rel => exact ⟨q + 1, rfl, hlt, hR2, hgr⟩
          case measure => simp [intOf]; omega
      · have hfin := Lib.hid (show rowC wr O m (mrgC c i k) from hR.out.congr (fun j hj => by unfold mrgU; rw [if_pos (by omega)]))
        clear hR
        go_wp2
        go_end0
        exact ⟨rfl, hfin.out, hgr.out⟩
  · have hmn : Hid (min x y = y ∧ max x y = x) := Lib.hid ⟨by omega, by omega⟩
    go_enter Try.func58, Try.ntmps58
    go_wp2
    go_region
    go_wp2
    go_loopw [29] (fun vj wr => MgSt c i k O m w vj wr) (fun vj _ => m - (intOf vj).toNat)
    case atStart => exact ⟨0, rfl, Nat.zero_le _, Lib.hid (by rw [mrgU_zero]; exact HR.out), Lib.hid ⟨rfl, rfl, rfl, Nat.le_refl _, fun _ _ _ => rfl⟩⟩
    case round =>
      obtain ⟨q, rfl, hq, hR, hgr⟩ := hrel
      by_cases hlt : q < m
      · have cR := hR.out.cell hlt
        have fR := hR.out.frozen q
        have lR := hR.out.lt
        have hnx := mrgU_next c i k q
        have hqv : mrgU c i k q q = c q := by unfold mrgU; rw [if_neg (by omega)]
        have hMq := hM.out q
        rw [hmn.out.1, hmn.out.2] at hMq
        obtain ⟨z1, z2⟩ := Hc.out q hlt
        simp only [hqv] at cR
        obtain ⟨z, hz⟩ : ∃ z, c q = z := ⟨_, rfl⟩
        simp only [hz] at cR hMq hqv z1 z2
        by_cases hzh : z = x
        · have hv : mrgC c i k q = y := by rw [hMq, if_pos hzh]
          have hR2 := Lib.hid ((hR.out.set q (.int .i64 y)).congr (g := fun j => .int .i64 (mrgU c i k (q + 1) j)) (fun j _ => by
            have hj : (if j = q then mrgC c i k q else mrgU c i k q j) = mrgU c i k (q + 1) j := congrFun hnx j
            rw [← hj, hv]
            by_cases e : j = q
            · rw [if_pos e, if_pos e]
            · rw [if_neg e, if_neg e]))
          have hg2 := Lib.hid (show w.grownBy (wr.setCell ⟨O, q, none⟩ (.int .i64 y)) (some O) from ⟨hgr.out.os, hgr.out.tape, hgr.out.output, by have := hgr.out.size; simp; exact this, fun j hj hne => (heap_setCell_other wr ⟨O, q, none⟩ j _ (fun e => hne (by rw [e]))).trans (hgr.out.block j hj hne)⟩)
          rw [hzh] at cR
          clear hnx hqv hMq hz hzh hv hR hgr z1 z2
          go_wp2
          go_roundw
          case rel => exact ⟨q + 1, rfl, hlt, hR2, hg2⟩
          case measure => simp [intOf]; omega
        · have hv : mrgC c i k q = z := by rw [hMq, if_neg hzh]
          have hR2 : Hid (rowC wr O m (mrgU c i k (q + 1))) := Lib.hid (hR.out.congr (fun j _ => by
            have hj : (if j = q then mrgC c i k q else mrgU c i k q j) = mrgU c i k (q + 1) j := congrFun hnx j
            rw [← hj, hv]
            by_cases e : j = q
            · subst e; rw [if_pos rfl, hqv]
            · rw [if_neg e]))
          have hzb : (z == x) = false := by rw [beq_eq_false_iff_ne]; exact hzh
          clear hnx hqv hMq hz hv hR z1 z2
          go_wp2
          go_roundw
          case rel => exact ⟨q + 1, rfl, hlt, hR2, hgr⟩
          case measure => simp [intOf]; omega
      · have hfin := Lib.hid (show rowC wr O m (mrgC c i k) from hR.out.congr (fun j hj => by unfold mrgU; rw [if_pos (by omega)]))
        clear hR
        go_wp2
        go_end0
        exact ⟨rfl, hfin.out, hgr.out⟩
end Go.Proofs.Ytcijjnjgifoipaa
