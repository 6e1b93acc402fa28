/- Parts D1 D2 D3 DC laid together by tp.py. -/
import Derived.Test.YtlcegkafagdcjaaGreatDoorGG
import Derived.Test.YtlcegkafagdcjaaGreatDoorN5
import Derived.Test.YtlcegkafagdcjaaGreatDoorW4
import Derived.Laws.BitsLemmas
import Derived.Laws.Bits64
import Derived.IntWalk
import Derived.Test.YtlcegkafagdcjaaGreatDoorUA
import Derived.Test.YtlcegkafagdcjaaGreatDoorW2
import Derived.ChangeSlices
import Derived.WideKeyArgs
namespace Go.Proofs.YtlcegkafagdcjaaGreatDoor
section
open Go.RowKit

/-- The value v is a slice of bytes that reads as zs, from a block below B. -/
def RdB (zs : List Int) (v : Value) (B : Nat) (w : World) : Prop :=
  (∀ b ∈ zs, 0 ≤ b ∧ b ≤ 255) ∧ zs.length ≤ 100000000 ∧ ∃ (A : Option Addr) (cap : Nat), v = .slice A zs.length cap ∧ ∀ i (h : i < zs.length), ∃ a, A = some a ∧ a.block < B ∧ w.cell? (a.add i) = some (.int .u8 zs[i])
theorem RdB.grown {zs : List Int} {v : Value} {B : Nat} {w w' : World} {row : Option Nat} (h : RdB zs v B w) (hg : w.grownBy w' row) (hr : ∀ k, row = some k → B ≤ k) : RdB zs v B w' := by
  obtain ⟨h0, h1, A, cap, rfl, hc⟩ := h
  refine ⟨h0, h1, A, cap, rfl, fun i hi => ?_⟩
  obtain ⟨a, rfl, hB, ha⟩ := hc i hi
  refine ⟨a, rfl, hB, ?_⟩
  have hb : (a.add i).block = a.block := block_of_add a i
  refine hg.cell ha ?_
  intro e
  have := hr _ e.symm
  omega
theorem RdB.below {zs : List Int} {v : Value} {B N : Nat} {w w' : World} (h : RdB zs v B w) (hb : Below N w w') (hN : B ≤ N) : RdB zs v B w' := by
  obtain ⟨h0, h1, A, cap, rfl, hc⟩ := h
  refine ⟨h0, h1, A, cap, rfl, fun i hi => ?_⟩
  obtain ⟨a, rfl, hB, ha⟩ := hc i hi
  refine ⟨a, rfl, hB, ?_⟩
  have hb2 : (a.add i).block = a.block := block_of_add a i
  exact (hb.cell (by omega)).trans ha
/-- The cursor over v at the block G, after at most n bytes. -/
def Cur (v : Value) (G n : Nat) (w : World) : Prop :=
  ∃ (p : Nat) (s : Int), p ≤ n ∧ 0 ≤ s ∧ s ≤ 18446744073709551615 ∧ Blk w G 51 #[v, .int .i64 p, .int .u64 s]
theorem Cur.call {v : Value} {G n : Nat} {w w' : World} (h : Cur v G n w) (hb : Below w.heap.size w w') : Cur v G n w' := by
  obtain ⟨p, s, h1, h2, h3, h4⟩ := h
  exact ⟨p, s, h1, h2, h3, h4.call hb⟩
theorem Cur.more {v : Value} {G n m : Nat} {w : World} (h : Cur v G n w) (hm : n ≤ m) : Cur v G m w := by
  obtain ⟨p, s, h1, h⟩ := h
  exact ⟨p, s, Nat.le_trans h1 hm, h⟩
theorem Cur.lt {v : Value} {G n : Nat} {w : World} (h : Cur v G n w) : G < w.heap.size := by
  obtain ⟨p, s, _, _, _, h⟩ := h
  exact h.lt
/-- What a choice gives: a number with P, and the cursor has gone on. -/
def RetPk (P : Int → Prop) (v : Value) (G n : Nat) (w : World) (e : Ending) (w' : World) : Prop :=
  ∃ x : Int, e = .returned (.int .i64 x) ∧ P x ∧ Cur v G n w' ∧ w.grownBy w' (some G)

theorem cur_grown {w : World} {G k l : Nat} {a b : Value} : w.grownBy ((((w.drewN k).setCell ⟨G, 1, none⟩ a).setCell ⟨G, 2, none⟩ b).drewN l) (some G) := by
  refine ⟨rfl, rfl, rfl, by simp, fun q _ hne => ?_⟩
  have h : ¬ G = q := fun e => hne (by rw [e])
  show (((w.drewN k).setCell ⟨G, 1, none⟩ a).setCell ⟨G, 2, none⟩ b).heap[q]? = (w.drewN k).heap[q]?
  rw [Below.heap_setCell _ _ _ _ (by simpa using fun e => h e.symm), Below.heap_setCell _ _ _ _ (by simpa using fun e => h e.symm)]
theorem cur_set {w : World} {G : Nat} {v : Value} {p s x y : Value} (h : Blk w G 51 #[v, p, s]) : Blk ((w.setCell ⟨G, 1, none⟩ x).setCell ⟨G, 2, none⟩ y) G 51 #[v, x, y] :=
  (h.set_ 1 x).set_ 2 y
theorem u64_bd (x : Int) : 0 ≤ IntKind.u64.wrap x ∧ IntKind.u64.wrap x ≤ 18446744073709551615 := by
  simp [IntKind.wrap, IntKind.bits, IntKind.signed]
  omega

theorem cur_next {w : World} {G n p k l : Nat} {v : Value} {s : Int} (x : Int) (h : Blk w G 51 #[v, .int .i64 p, .int .u64 s]) (hp : p ≤ n) :
    Cur v G (n + 1) ((((w.drewN k).setCell ⟨G, 1, none⟩ (.int .i64 (p + 1))).setCell ⟨G, 2, none⟩ (.int .u64 (IntKind.u64.wrap x))).drewN l) :=
  ⟨p + 1, _, by omega, (u64_bd x).1, (u64_bd x).2, cur_set (w := w.drewN k) h⟩

theorem wraps_u63 (n : Int) (h₀ : 0 ≤ n) (h₁ : n < 2 ^ 63) : IntKind.u64.wrap n = n := by rw [IntKind.wrap_u64]; omega
theorem and255 (x : Int) : 0 ≤ wrap64 (bits .and .u64 (IntKind.u64.wrap x / 1099511627776) 255) ∧ wrap64 (bits .and .u64 (IntKind.u64.wrap x / 1099511627776) 255) ≤ 255 := by
  have h1 := u64_bd x
  generalize IntKind.u64.wrap x = y at h1
  have h := bits_mask .u64 63 (by decide) wraps_u63 8 (by decide) (y / 1099511627776) (by omega) (by omega)
  have e : ((2 : Int) ^ 8 - 1) = 255 := by decide
  have e2 : ((2 : Int) ^ 8) = 256 := by decide
  rw [e, e2] at h
  rw [h]
  have h3 : wrap64 (y / 1099511627776 % 256) = y / 1099511627776 % 256 := IntWalk.wrap64_in _ (by omega)
  rw [h3]
  omega

set_option maxRecDepth 100000 in
set_option maxHeartbeats 1600000 in
theorem next_any (zs : List Int) (v : Value) (B G n : Nat) (w : World) (hr : RdB zs v B w) (hc : Cur v G n w) (hn : n ≤ 100000000) :
    Calls Tryz.prog 94 #[.pointer (some ⟨G, 0, none⟩)] w (RetPk (fun x => 0 ≤ x ∧ x ≤ 255) v G (n + 1) w) := by
  obtain ⟨h0, hlen, A, cap, rfl, hcell⟩ := hr
  obtain ⟨p, s, hp, hs0, hs1, hblk⟩ := hc
  have c0 := hblk.cell 0
  have c1 := hblk.cell 1
  have c2 := hblk.cell 2
  have f1 := hblk.frozen 1
  have f2 := hblk.frozen 2
  simp at c0 c1 c2
  by_cases hlt : p < zs.length
  · obtain ⟨a, rfl, haB, ha⟩ := hcell p hlt
    have hb := h0 _ (List.getElem_mem hlt)
    obtain ⟨b, hbe⟩ : ∃ b, zs[p] = b := ⟨_, rfl⟩
    rw [hbe] at ha hb
    clear hbe hcell h0
    have hlt' : (p : Int) < zs.length := by omega
    go_enter Tryz.func94, Tryz.ntmps94
    go_wp2
    go_quiet (fail)
    go_wp2
    go_quiet (fail)
    go_wp2
    go_quiet (fail)
    go_wp2
    go_ret
    exact ⟨b, rfl, hb, cur_next _ hblk hp, cur_grown⟩
  · have hlt' : (zs.length : Int) ≤ p := by omega
    clear h0 hcell
    go_enter Tryz.func94, Tryz.ntmps94
    go_wp2
    go_quiet (fail)
    go_wp2
    go_quiet (fail)
    go_wp2
    go_ret
    exact ⟨_, rfl, and255 _, cur_next _ hblk hp, cur_grown⟩
theorem RetPk.mk {P : Int → Prop} {v : Value} {G n : Nat} {w w' : World} {x : Int} (hx : P x) (hc : Cur v G n w') (hg : w.grownBy w' (some G)) : RetPk P v G n w (.returned (.int .i64 x)) w' := ⟨x, rfl, hx, hc, hg⟩
theorem grown_refl (w : World) (row : Option Nat) : w.grownBy w row := ⟨rfl, rfl, rfl, Nat.le_refl _, fun _ _ _ => rfl⟩

set_option maxRecDepth 100000 in
set_option maxHeartbeats 1600000 in
theorem pick_any (m : Int) (zs : List Int) (v : Value) (B G n : Nat) (w : World) (hr : RdB zs v B w) (hc : Cur v G n w) (hB : B ≤ G) (hn : n + 2 ≤ 100000000) (hm : m ≤ 1000000000) :
    Calls Tryz.prog 53 #[.pointer (some ⟨G, 0, none⟩), .int .i64 m] w (RetPk (fun x => 0 ≤ x ∧ x < max m 1) v G (n + 2) w) := by
  have HR := Lib.hid hr
  have HC := Lib.hid hc
  clear hr hc
  by_cases h1 : m ≤ 1
  · go_enter Tryz.func53, Tryz.ntmps53
    go_wp2
    go_ret
    exact ⟨0, rfl, by omega, HC.out.more (by omega), grown_refl _ _⟩
  · by_cases h2 : m ≤ 200
    · go_enter Tryz.func53, Tryz.ntmps53
      go_wp2_with (go_at_call 94; refine (next_any zs v B G n w HR.out HC.out (by omega)).mono ?_; rintro e w1 ⟨b, rfl, hb, hc1, hg1⟩)
      go_ret
      have hb1 := Int.emod_nonneg b (show m ≠ 0 by omega)
      have hb2 := Int.emod_lt_of_pos b (show 0 < m by omega)
      exact ⟨_, rfl, by omega, hc1.more (by omega), hg1⟩
    · go_enter Tryz.func53, Tryz.ntmps53
      go_wp2_with fail
      refine (next_any zs v B G n w HR.out HC.out (by omega)).mono ?_
      rintro e w1 ⟨b, rfl, hb, hc1, hg1⟩
      have HC1 := Lib.hid hc1
      have hg1' := Lib.hid hg1
      clear hc1 hg1
      go_wp2_with fail
      refine (next_any zs v B G (n + 1) w1 (HR.out.grown hg1'.out (fun k hk => by injection hk with hk; omega)) HC1.out (by omega)).mono ?_
      rintro e w2 ⟨b2, rfl, hb2, hc2, hg2⟩
      have HC2 := Lib.hid hc2
      have hg2' := Lib.hid (hg1'.out.trans hg2)
      clear hc2 hg2
      go_wp2
      go_ret
      have hb3 := Int.emod_nonneg (b * 256 + b2) (show m ≠ 0 by omega)
      have hb4 := Int.emod_lt_of_pos (b * 256 + b2) (show 0 < m by omega)
      exact ⟨_, rfl, by omega, HC2.out, hg2'.out⟩
set_option maxHeartbeats 800000 in
theorem one_pk (m : Int) (zs : List Int) (v : Value) (B G n : Nat) (w : World) (hr : RdB zs v B w) (hc : Cur v G n w) (hB : B ≤ G) (hn : n + 2 ≤ 100000000) (hm : m ≤ 1000000000) :
    Calls Tryz.prog 20 #[.pointer (some ⟨G, 0, none⟩), .int .i64 m] w fun e w' => ∃ b : Bool, e = .returned (.bool b) ∧ Cur v G (n + 2) w' ∧ w.grownBy w' (some G) := by
  have HR := Lib.hid hr
  have HC := Lib.hid hc
  clear hr hc
  go_enter Tryz.func20, Tryz.ntmps20
  go_wp2_with (go_at_call 53; refine (pick_any m zs v B G n w HR.out HC.out hB hn hm).mono ?_; rintro e w1 ⟨b, rfl, hb, hc1, hg1⟩)
  go_ret
  exact ⟨_, rfl, hc1, hg1⟩
set_option maxRecDepth 100000 in
set_option maxHeartbeats 1600000 in
theorem among_any (L : List Int) (vl : Value) (BL : Nat) (P : Int → Prop) (zs : List Int) (v : Value) (B G n : Nat) (w : World) (ho : w.ownsRow BL 3 1 vl L.length (cellsI L)) (hP : ∀ x ∈ L, P x) (h1 : 1 ≤ L.length) (h2 : L.length ≤ 1000) (hne : vl.ownBlock ≠ some G)
    (hr : RdB zs v B w) (hc : Cur v G n w) (hB : B ≤ G) (hn : n + 2 ≤ 100000000) :
    Calls Tryz.prog 19 #[.pointer (some ⟨G, 0, none⟩), vl] w (RetPk P v G (n + 2) w) := by
  obtain ⟨bl, cl, rfl⟩ := own_shape ho
  have HO := Lib.hid ho
  have HR := Lib.hid hr
  have HC := Lib.hid hc
  clear hr hc ho
  go_enter Tryz.func19, Tryz.ntmps19
  go_wp2_with fail
  refine (pick_any L.length zs v B G n w HR.out HC.out hB hn (by omega)).mono ?_
  rintro e w1 ⟨b, rfl, hb, hc1, hg1⟩
  have HC1 := Lib.hid hc1
  have hg1' := Lib.hid hg1
  obtain ⟨k, rfl⟩ : ∃ k : Nat, b = k := ⟨b.toNat, by omega⟩
  have hk : k < L.length := by omega
  have ho1 := HO.out.kept hg1 (.inr hne)
  obtain ⟨g, rfl, lg, cg⟩ := own_elemI ho1 hk
  have hx := hP _ (List.getElem_mem hk)
  obtain ⟨x, hxe⟩ : ∃ x, L[k] = x := ⟨_, rfl⟩
  rw [hxe] at cg hx
  clear hc1 hg1 ho1 hxe
  go_wp2
  go_ret
  exact ⟨_, rfl, hx, HC1.out, hg1'.out⟩
end

section
open Go.RowKit

theorem own_lit {w : World} {B : Nat} (L : List Int) (h : B ≤ w.heap.size) (hl : L.length ≤ 1000) :
    (w.alloc (.cells (cellsI L).toArray 3)).ownsRow B 3 1 (.slice (some ⟨w.heap.size, 0, none⟩) L.length L.length) L.length (cellsI L) := by
  refine ⟨by rw [cellsI_len]; omega, .inr ⟨w.heap.size, L.length, (cellsI L).toArray, rfl, h, heap_alloc_new _ _, Nat.le_refl _, by unfold maxLen; omega, by simp [cellsI_len], ?_⟩⟩
  simp only [Nat.mul_one]
  rw [List.take_of_length_le (by simp [cellsI_len])]
theorem RetPk.from {P : Int → Prop} {v : Value} {G n m : Nat} {w w1 w2 : World} {x : Int} (hx : P x) (hc : Cur v G n w2) (hm : n ≤ m) (h1 : w.grownBy w1 (some G)) (h2 : w1.grownBy w2 (some G)) : RetPk P v G m w (.returned (.int .i64 x)) w2 :=
  ⟨x, rfl, hx, hc.more hm, h1.trans h2⟩
/-- What a drawn discriminant is. -/
def DrawnD (d : Int) : Prop := -9223372036854775808 ≤ d ∧ d ≤ 5
theorem grownB {w w' : World} {row : Option Nat} (h : Below w.heap.size w w') : w.grownBy w' row := ⟨h.os, h.tape, h.output, h.size, fun k hk _ => h.block k hk⟩
theorem grown_alloc (w : World) (o : Obj) (row : Option Nat) : w.grownBy (w.alloc o) row := grownB ((Below.refl _ _).alloc (Nat.le_refl _) _)

set_option maxRecDepth 100000 in
set_option maxHeartbeats 6400000 in
theorem disc_any (zs : List Int) (v : Value) (B G n : Nat) (w : World) (hr : RdB zs v B w) (hc : Cur v G n w) (hB : B ≤ G) (hn : n + 4 ≤ 100000000) :
    Calls Tryz.prog 97 #[.pointer (some ⟨G, 0, none⟩)] w (RetPk DrawnD v G (n + 4) w) := by
  have HR := Lib.hid hr
  have HC := Lib.hid hc
  clear hr hc
  go_enter Tryz.func97, Tryz.ntmps97
  go_wp2_with fail
  refine (pick_any 16 zs v B G n w HR.out HC.out hB (by omega) (by omega)).mono ?_
  rintro e w1 ⟨b, rfl, hb, hc1, hg1⟩
  have HC1 := Lib.hid hc1
  have hg1' := Lib.hid hg1
  have HR1 := Lib.hid (HR.out.grown hg1 (fun k hk => by injection hk with hk; omega))
  have hlt1 := hc1.lt
  have hne1 : ¬ G = w1.heap.size := by omega
  clear hc1 hg1
  have hpk := Lib.hid (fun (m : Int) (hm : m ≤ 1000000000) => pick_any m zs v B G (n + 2) w1 HR1.out HC1.out hB (by omega) hm)
  have ham := Lib.hid (fun (L : List Int) (h1 : 1 ≤ L.length) (h2 : L.length ≤ 1000) (hP : ∀ x ∈ L, DrawnD x) => among_any L (.slice (some ⟨w1.heap.size, 0, none⟩) L.length L.length) w1.heap.size DrawnD zs v B G (n + 2) (w1.alloc (.cells (cellsI L).toArray 3)) (own_lit L (Nat.le_refl _) h2) hP h1 h2 (by simp [Value.ownBlock]; omega) (HR1.out.grown (grown_alloc _ _ none) (fun k hk => by cases hk)) (HC1.out.call ((Below.refl _ _).alloc (Nat.le_refl _) _)) hB (by omega))
  by_cases e0 : b = 0
  · subst e0
    clear hb
    go_wp2_with fail
    refine (ham.out [-3, -4, -2000, -1999, -1996, -1995, -163, -2001, -2003, -2004, 0, 1, 5, -1, -2, -5, -9223372036854775808] (by decide) (by decide) (by unfold DrawnD; decide)).mono ?_
    rintro e w2 ⟨x, rfl, hx, hc2, hg2⟩
    go_wp2
    go_ret
    exact RetPk.from hx hc2 (by omega) hg1'.out ((grown_alloc _ _ _).trans hg2)
  · by_cases e1 : b = 1 ∨ b = 2
    · have e2 : (b == 1) = true ∨ (b == 1) = false ∧ (b == 2) = true := by
        rcases e1 with rfl | rfl
        · exact .inl rfl
        · exact .inr ⟨rfl, rfl⟩
      clear e1 hb
      rcases e2 with e2 | ⟨e2, e3⟩
      all_goals
        go_wp2_with fail
        refine (hpk.out 1998 (by decide)).mono ?_
        rintro e w2 ⟨x, rfl, hx, hc2, hg2⟩
        have HC2 := Lib.hid hc2
        have hg2' := Lib.hid hg2
        have hx2 : 0 ≤ x ∧ x ≤ 1997 := by omega
        clear hx hc2 hg2
        go_wp2_with fail
        refine (nuMod_any (-3 - x) 4 _ (by decide) (by decide)).mono ?_
        rintro e w3 ⟨rfl, rfl⟩
        by_cases hm : 1 < (-3 - x) % 4
        · go_wp2_with fail
          refine (l1Most_any (-2000) (-3 - x - 2) _).mono ?_
          rintro e w3 ⟨rfl, rfl⟩
          go_wp2
          go_ret
          exact RetPk.from (by unfold DrawnD; omega) HC2.out (by omega) hg1'.out hg2'.out
        · go_wp2
          go_ret
          exact RetPk.from (by unfold DrawnD; omega) HC2.out (by omega) hg1'.out hg2'.out
    · by_cases e3 : b = 3 ∨ b = 4 ∨ b = 5
      · have e2 : (b == 3) = true ∨ (b == 3) = false ∧ ((b == 4) = true ∨ (b == 4) = false ∧ (b == 5) = true) := by
          rcases e3 with rfl | rfl | rfl
          · exact .inl rfl
          · exact .inr ⟨rfl, .inl rfl⟩
          · exact .inr ⟨rfl, .inr ⟨rfl, rfl⟩⟩
        have n0 : (b == 0) = false := by rw [beq_eq_false_iff_ne]; exact e0
        have n1 : (b == 1) = false := by rw [beq_eq_false_iff_ne]; omega
        have n2 : (b == 2) = false := by rw [beq_eq_false_iff_ne]; omega
        clear e1 hb e0 e3
        rcases e2 with e2 | ⟨e2, e2 | ⟨e3, e4⟩⟩
        all_goals
          go_wp2_with fail
          refine (ham.out [-84, -420, -231, -260, -455, -520, -660, -1155, -1320, -1380, -1428, -1540, -399, -1092, -1560, -1785] (by decide) (by decide) (by unfold DrawnD; decide)).mono ?_
          rintro e w2 ⟨x, rfl, hx, hc2, hg2⟩
          go_wp2
          go_ret
          exact RetPk.from hx hc2 (by omega) hg1'.out ((grown_alloc _ _ _).trans hg2)
      · have n0 : (b == 0) = false := by rw [beq_eq_false_iff_ne]; exact e0
        have n1 : (b == 1) = false := by rw [beq_eq_false_iff_ne]; omega
        have n2 : (b == 2) = false := by rw [beq_eq_false_iff_ne]; omega
        have n3 : (b == 3) = false := by rw [beq_eq_false_iff_ne]; omega
        have n4 : (b == 4) = false := by rw [beq_eq_false_iff_ne]; omega
        have n5 : (b == 5) = false := by rw [beq_eq_false_iff_ne]; omega
        have e2 : (b == 6) = true ∨ (b == 6) = false ∧ ((b == 7) = true ∨ (b == 7) = false) := by
          cases (b == 6) <;> cases (b == 7) <;> simp
        clear e1 hb e0 e3
        rcases e2 with e2 | ⟨e2, e3 | e3⟩
        · go_wp2_with fail
          refine (hpk.out 60 (by decide)).mono ?_
          rintro e w2 ⟨x, rfl, hx, hc2, hg2⟩
          have HC2 := Lib.hid hc2
          have hg2' := Lib.hid hg2
          have hx2 : 0 ≤ x ∧ x ≤ 59 := by omega
          clear hx hc2 hg2
          go_wp2
          go_ret
          exact RetPk.from (by unfold DrawnD; omega) HC2.out (by omega) hg1'.out hg2'.out
        · go_wp2_with fail
          refine (hpk.out 60 (by decide)).mono ?_
          rintro e w2 ⟨x, rfl, hx, hc2, hg2⟩
          have HC2 := Lib.hid hc2
          have hg2' := Lib.hid hg2
          have hx2 : 0 ≤ x ∧ x ≤ 59 := by omega
          clear hx hc2 hg2
          go_wp2
          go_ret
          exact RetPk.from (by unfold DrawnD; omega) HC2.out (by omega) hg1'.out hg2'.out
        · go_wp2_with fail
          refine (hpk.out 50 (by decide)).mono ?_
          rintro e w2 ⟨x, rfl, hx, hc2, hg2⟩
          have HC2 := Lib.hid hc2
          have hg2' := Lib.hid hg2
          have hx2 : 0 ≤ x ∧ x ≤ 49 := by omega
          clear hx hc2 hg2
          go_wp2
          go_ret
          exact RetPk.from (by unfold DrawnD; omega) HC2.out (by omega) hg1'.out hg2'.out
theorem RdB.shape {zs : List Int} {v : Value} {B : Nat} {w : World} (h : RdB zs v B w) : ∃ A m c, v = .slice A m c := by
  obtain ⟨_, _, A, cap, rfl, _⟩ := h
  exact ⟨_, _, _, rfl⟩
theorem cur_start {w : World} {v : Value} : Cur v w.heap.size 0 (w.alloc (.cells #[v, .int .i64 0, .int .u64 0] 51)) :=
  ⟨0, 0, Nat.le_refl _, by decide, by decide, Blk.new _ _ _⟩
end

section
open Go.RowKit Go.ChangeShapes

/-- The value v is a slice of bytes that reads as zs. -/
def ReB (zs : List Int) (v : Value) (w : World) : Prop :=
  (∀ b ∈ zs, 0 ≤ b ∧ b ≤ 255) ∧ ∃ (A : Option Addr) (cap : Nat), v = .slice A zs.length cap ∧ ∀ i (h : i < zs.length), ∃ a, A = some a ∧ w.cell? (a.add i) = some (.int .u8 zs[i])
theorem ReB.rd {zs : List Int} {v : Value} {w : World} (h : ReB zs v w) (hl : zs.length ≤ 1048576) : RdB zs v w.heap.size w := by
  obtain ⟨h0, A, cap, rfl, hc⟩ := h
  refine ⟨h0, by omega, A, cap, rfl, fun i hi => ?_⟩
  obtain ⟨a, rfl, ha⟩ := hc i hi
  have hlt := World.block_lt_of_cell? w _ ha
  exact ⟨a, rfl, by rw [block_of_add] at hlt; exact hlt, ha⟩
theorem laid_D3 : laidOutB Tryz.prog = true := by kernel_rfl
theorem cells_D3 : Tryz.prog.cellsOf 5 = 1 := by kernel_rfl
theorem wf_u8 {n : Int} (h : (Lit.int .u8 n).wf = true) : 0 ≤ n ∧ n ≤ 255 := by
  simp [Lit.wf, IntKind.min, IntKind.max, IntKind.bits, IntKind.signed] at h
  omega
set_option maxRecDepth 100000 in
theorem open_reB {H : Type} {enc : TypeId × Value → H} {w : World} {v : Value} {d : DataW H} {ps : List MemPlace} {r : Reach} {b0 : Nat} (hval : Value.okWide Tryz.prog w r b0 22 v) (h : DataW.Trod enc Tryz.prog w 0 (fun _ => true) true 22 v d ps) :
    ∃ zs : List Int, ReB zs v w := by
  obtain ⟨A0, l0, c0, rfl⟩ := Go.WideShapes.okWide_slice Tryz.underlying22 hval
  obtain ⟨fuel, hf⟩ := h
  rcases open_ints Tryz.underlying22 Tryz.underlying5 cells_D3 hf with ⟨hc, _⟩ | ⟨a, len, cap, zs, hc, _, hl, _, hzl, _, hcell, hwf⟩
  · simp [Value.cells] at hc
    obtain ⟨rfl, rfl, rfl⟩ := hc
    exact ⟨[], by simp, none, 0, rfl, fun i h => absurd h (Nat.not_lt_zero _)⟩
  · simp [Value.cells] at hc
    obtain ⟨rfl, rfl, rfl⟩ := hc
    simp at hzl
    refine ⟨zs.take l0, fun n hn => wf_u8 (hwf n (List.mem_of_mem_take hn)), some a, c0, by rw [List.length_take, hzl, Nat.min_eq_left hl], fun i hi => ⟨a, rfl, ?_⟩⟩
    rw [List.length_take] at hi
    have h1 := hcell i (by omega)
    rw [h1, List.getElem_take]
    simp [List.getD_eq_getElem?_getD, show i < zs.length by omega]
set_option maxHeartbeats 400000 in
theorem big_no (A A2 : Option Addr) (n m c c2 : Nat) (w : World) (h1 : n ≤ 1048576) (h2 : m ≤ 1048576 - n) :
    Calls Tryz.prog 4 #[.slice A n c, .slice A2 m c2] w fun e w' => e = .returned (.bool false) ∧ w = w' := by
  have h3 : (n : Int) ≤ 1048576 := by omega
  have h4 : (m : Int) ≤ 1048576 - n := by omega
  go_enter Tryz.func4, Tryz.ntmps4
  go_wp2
  go_ret
  exact ⟨ret_bool (by first | (simp; done) | (simp; omega) | (rw [Bool.eq_iff_iff]; simp; omega) | (simp_all; done) | (simp_all; omega)), rfl⟩
set_option maxHeartbeats 400000 in
theorem big_yes (A A2 : Option Addr) (n m c c2 : Nat) (w : World) (h : ¬ (n ≤ 1048576 ∧ m ≤ 1048576 - n)) :
    Calls Tryz.prog 4 #[.slice A n c, .slice A2 m c2] w fun e w' => e = .returned (.bool true) ∧ w = w' := by
  by_cases h1 : n ≤ 1048576
  · have h3 : (n : Int) ≤ 1048576 := by omega
    have h4 : 1048576 - (n : Int) < m := by omega
    go_enter Tryz.func4, Tryz.ntmps4
    go_wp2
    go_ret
    exact ⟨ret_bool (by first | (simp; done) | (simp; omega) | (rw [Bool.eq_iff_iff]; simp; omega) | (simp_all; done) | (simp_all; omega)), rfl⟩
  · have h3 : 1048576 < (n : Int) := by omega
    go_enter Tryz.func4, Tryz.ntmps4
    go_wp2
    go_ret
    exact ⟨ret_bool (by first | (simp; done) | (simp; omega) | (rw [Bool.eq_iff_iff]; simp; omega) | (simp_all; done) | (simp_all; omega)), rfl⟩
end

section
open Go.RowKit

theorem ReB.shape {zs : List Int} {v : Value} {w : World} (h : ReB zs v w) : ∃ A c, v = .slice A zs.length c := by
  obtain ⟨_, A, cap, rfl, _⟩ := h
  exact ⟨_, _, rfl⟩
end
end Go.Proofs.YtlcegkafagdcjaaGreatDoor
