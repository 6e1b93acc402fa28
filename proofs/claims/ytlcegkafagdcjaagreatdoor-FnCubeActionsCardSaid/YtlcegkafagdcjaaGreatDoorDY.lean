/- Parts D4 D5 laid together by tp.py. -/
import Derived.Test.YtlcegkafagdcjaaGreatDoorDX
import Derived.Test.YtlcegkafagdcjaaGreatDoorUA
namespace Go.Proofs.YtlcegkafagdcjaaGreatDoor
section
open Go.RowKit

/-- The state of a draw: the bytes, the cursor, and what has changed since w. -/
structure Drw (zs : List Int) (v : Value) (B G n : Nat) (w w' : World) : Prop where
  rd : RdB zs v B w'
  cur : Cur v G n w'
  gr : w.grownBy w' (some G)
section
variable {zs : List Int} {v : Value} {B G n m : Nat} {w w1 w2 w' : World}
theorem Drw.start (hr : RdB zs v B w) (hc : Cur v G n w) : Drw zs v B G n w w := ⟨hr, hc, grown_refl _ _⟩
theorem Drw.more (h : Drw zs v B G n w w') (hm : n ≤ m) : Drw zs v B G m w w' := ⟨h.rd, h.cur.more hm, h.gr⟩
theorem Drw.next (h : Drw zs v B G n w w1) (hB : B ≤ G) (hc : Cur v G m w2) (hg : w1.grownBy w2 (some G)) : Drw zs v B G m w w2 :=
  ⟨h.rd.grown hg (fun k hk => by injection hk with hk; omega), hc, h.gr.trans hg⟩
theorem Drw.drewN (h : Drw zs v B G n w w1) (k : Nat) : Drw zs v B G n w (w1.drewN k) := ⟨h.rd, h.cur, ⟨h.gr.os, h.gr.tape, h.gr.output, h.gr.size, h.gr.block⟩⟩
theorem Drw.drew (h : Drw zs v B G n w w1) : Drw zs v B G n w w1.drew := ⟨h.rd, h.cur, ⟨h.gr.os, h.gr.tape, h.gr.output, h.gr.size, h.gr.block⟩⟩
theorem Drw.alloc (h : Drw zs v B G n w w1) (o : Obj) : Drw zs v B G n w (w1.alloc o) :=
  ⟨h.rd.grown (grown_alloc _ _ none) (fun k hk => by cases hk), h.cur.call ((Below.refl _ _).alloc (Nat.le_refl _) _), h.gr.trans (grown_alloc _ _ _)⟩
theorem RdB.set_ {p : Addr} {u : Value} (h : RdB zs v B w) (hp : B ≤ p.block) : RdB zs v B (w.setCell p u) := by
  obtain ⟨h0, h1, A, cap, rfl, hc⟩ := h
  refine ⟨h0, h1, A, cap, rfl, fun i hi => ?_⟩
  obtain ⟨a, rfl, hB, ha⟩ := hc i hi
  refine ⟨a, rfl, hB, ?_⟩
  have hb : (a.add i).block = a.block := block_of_add a i
  have hne : ¬ (a.add i).block = p.block := by omega
  unfold World.cell? at ha ⊢
  rw [Below.heap_setCell w p u _ hne]
  exact ha
theorem Cur.set_ {p : Addr} {u : Value} (h : Cur v G n w) (hp : G ≠ p.block) : Cur v G n (w.setCell p u) := by
  obtain ⟨p', s, h1, h2, h3, h4⟩ := h
  exact ⟨p', s, h1, h2, h3, h4.far hp u⟩
theorem Drw.set_ (h : Drw zs v B G n w w1) {p : Addr} {u : Value} (hp : B ≤ p.block) (hG : G ≠ p.block) (hw : w.heap.size ≤ p.block) : Drw zs v B G n w (w1.setCell p u) := by
  refine ⟨h.rd.set_ hp, h.cur.set_ hG, ⟨h.gr.os, h.gr.tape, h.gr.output, by rw [World.size_setCell]; exact h.gr.size, fun k hk hne => ?_⟩⟩
  rw [Below.heap_setCell w1 p u k (by omega)]
  exact h.gr.block k hk hne
theorem Drw.setp {p : Addr} {u : Value} (hp : B ≤ p.block) (hG : G ≠ p.block) (hw : w.heap.size ≤ p.block) (h : Drw zs v B G n w w1) : Drw zs v B G n w (w1.setCell p u) := h.set_ hp hG hw
theorem Drw.lt (h : Drw zs v B G n w w1) : G < w1.heap.size := h.cur.lt
theorem Drw.size (h : Drw zs v B G n w w1) : w.heap.size ≤ w1.heap.size := h.gr.size
theorem Drw.below (h : Drw zs v B G n w w1) (hG : G ≤ w.heap.size) : Below G w w1 := ((Below.refl _ _)).grown h.gr hG (fun k hk => by injection hk with hk; omega)
end
section
variable {zs : List Int} {v : Value} {B G n m : Nat} {w0 w : World}
theorem pick_d (h : Drw zs v B G n w0 w) (hB : B ≤ G) (k : Int) (hn : n + 2 ≤ 100000000) (hm : k ≤ 1000000000) :
    Calls Tryz.prog 53 #[.pointer (some ⟨G, 0, none⟩), .int .i64 k] w fun e w' => ∃ x : Int, e = .returned (.int .i64 x) ∧ (0 ≤ x ∧ x < max k 1) ∧ Drw zs v B G (n + 2) w0 w' ∧ w.grownBy w' (some G) := by
  refine (pick_any k zs v B G n w h.rd h.cur hB hn hm).mono ?_
  rintro e w1 ⟨x, rfl, hx, hc, hg⟩
  exact ⟨x, rfl, hx, h.next hB hc hg, hg⟩
theorem one_d (h : Drw zs v B G n w0 w) (hB : B ≤ G) (k : Int) (hn : n + 2 ≤ 100000000) (hm : k ≤ 1000000000) :
    Calls Tryz.prog 20 #[.pointer (some ⟨G, 0, none⟩), .int .i64 k] w fun e w' => ∃ x : Bool, e = .returned (.bool x) ∧ True ∧ Drw zs v B G (n + 2) w0 w' ∧ w.grownBy w' (some G) := by
  refine (one_pk k zs v B G n w h.rd h.cur hB hn hm).mono ?_
  rintro e w1 ⟨x, rfl, hc, hg⟩
  exact ⟨x, rfl, trivial, h.next hB hc hg, hg⟩
theorem among_d (h : Drw zs v B G n w0 w) (hB : B ≤ G) (L : List Int) (P : Int → Prop) (hP : ∀ x ∈ L, P x) (h1 : 1 ≤ L.length) (h2 : L.length ≤ 1000) (hn : n + 2 ≤ 100000000) :
    Calls Tryz.prog 19 #[.pointer (some ⟨G, 0, none⟩), .slice (some ⟨w.heap.size, 0, none⟩) L.length L.length] (w.alloc (.cells (cellsI L).toArray 3)) fun e w' => ∃ x : Int, e = .returned (.int .i64 x) ∧ P x ∧ Drw zs v B G (n + 2) w0 w' ∧ w.grownBy w' (some G) := by
  have hl := h.lt
  have ha := h.alloc (.cells (cellsI L).toArray 3)
  refine (among_any L (.slice (some ⟨w.heap.size, 0, none⟩) L.length L.length) w.heap.size P zs v B G n (w.alloc (.cells (cellsI L).toArray 3)) (own_lit L (Nat.le_refl _) h2) hP h1 h2 (by simp [Value.ownBlock]; omega) ha.rd ha.cur hB hn).mono ?_
  rintro e w1 ⟨x, rfl, hx, hc, hg⟩
  exact ⟨x, rfl, hx, ha.next hB hc hg, (grown_alloc _ _ _).trans hg⟩
theorem disc_d (h : Drw zs v B G n w0 w) (hB : B ≤ G) (hn : n + 4 ≤ 100000000) :
    Calls Tryz.prog 97 #[.pointer (some ⟨G, 0, none⟩)] w fun e w' => ∃ x : Int, e = .returned (.int .i64 x) ∧ DrawnD x ∧ Drw zs v B G (n + 4) w0 w' ∧ w.grownBy w' (some G) := by
  refine (disc_any zs v B G n w h.rd h.cur hB hn).mono ?_
  rintro e w1 ⟨x, rfl, hx, hc, hg⟩
  exact ⟨x, rfl, hx, h.next hB hc hg, hg⟩

set_option maxRecDepth 100000 in
set_option maxHeartbeats 1600000 in
theorem number_d (h : Drw zs v B G n w0 w) (hB : B ≤ G) (hn : n + 8 ≤ 100000000) :
    Calls Tryz.prog 58 #[.pointer (some ⟨G, 0, none⟩)] w fun e w' => ∃ x : Int, e = .returned (.int .i64 x) ∧ True ∧ Drw zs v B G (n + 8) w0 w' ∧ w.grownBy w' (some G) := by
  have H := Lib.hid h
  have lG0 := h.lt
  have hD0 := Lib.hid (Drw.start h.rd h.cur)
  clear h
  have hfin : Hid (∀ (x : Int) (w' : World) (k : Nat), Drw zs v B G k w w' → k ≤ n + 8 → ∃ y : Int, Ending.returned (.int .i64 x) = .returned (.int .i64 y) ∧ True ∧ Drw zs v B G (n + 8) w0 w' ∧ w.grownBy w' (some G)) :=
    Lib.hid (fun x w' k hd hk => ⟨x, rfl, trivial, (H.out.next hB hd.cur hd.gr).more hk, hd.gr⟩)
  go_enter Tryz.func58, Tryz.ntmps58
  go_wp2_with fail
  refine (pick_d (by repeat (first | with_reducible assumption | (with_reducible apply Hid.out; assumption) | with_reducible apply Drw.drewN | with_reducible apply Drw.drew | with_reducible apply Drw.alloc | (with_reducible refine Drw.setp ?_ ?_ ?_ ?_; (first | omega | (simp <;> omega)); (first | omega | (simp <;> omega)); (first | omega | (simp <;> omega))))) hB 12 (by omega) (by omega)).mono ?_
  rintro e v1 ⟨x1, rfl, hx1, hD1', hG1⟩
  have hD1 := Lib.hid hD1'
  have lG1 := hD1'.lt
  have zG1 := hG1.size
  (try simp at zG1)
  clear hD1' hG1
  by_cases e0 : x1 = 0
  · subst e0
    clear hx1
    go_wp2_with fail
    refine (among_d (w := v1) (by repeat (first | with_reducible assumption | (with_reducible apply Hid.out; assumption) | with_reducible apply Drw.drewN | with_reducible apply Drw.drew | with_reducible apply Drw.alloc | (with_reducible refine Drw.setp ?_ ?_ ?_ ?_; (first | omega | (simp <;> omega)); (first | omega | (simp <;> omega)); (first | omega | (simp <;> omega))))) hB [0, 1, -1, 1000000, -1000000, 1000001, -1000001, -9223372036854775808, 9223372036854775807, 999983, 999999, 1000] (fun _ => True) (by simp) (by decide) (by decide) (by omega)).mono ?_
    rintro e v2 ⟨x2, rfl, hx2, hD2', hG2⟩
    have hD2 := Lib.hid hD2'
    clear hD2' hG2
    go_wp2
    go_ret
    exact hfin.out _ _ _ (by repeat (first | with_reducible assumption | (with_reducible apply Hid.out; assumption) | with_reducible apply Drw.drewN | with_reducible apply Drw.drew | with_reducible apply Drw.alloc | (with_reducible refine Drw.setp ?_ ?_ ?_ ?_; (first | omega | (simp <;> omega)); (first | omega | (simp <;> omega)); (first | omega | (simp <;> omega))))) (by omega)
  · by_cases e1 : x1 = 1 ∨ x1 = 2
    · have e2 : (x1 == 1) = true ∨ (x1 == 1) = false ∧ (x1 == 2) = true := by
        rcases e1 with rfl | rfl
        · exact .inl rfl
        · exact .inr ⟨rfl, rfl⟩
      have n0 : (x1 == 0) = false := by rw [beq_eq_false_iff_ne]; exact e0
      clear e1 hx1 e0
      rcases e2 with e2 | ⟨e2, e3⟩
      all_goals
        go_wp2_with fail
        refine (pick_d (by repeat (first | with_reducible assumption | (with_reducible apply Hid.out; assumption) | with_reducible apply Drw.drewN | with_reducible apply Drw.drew | with_reducible apply Drw.alloc | (with_reducible refine Drw.setp ?_ ?_ ?_ ?_; (first | omega | (simp <;> omega)); (first | omega | (simp <;> omega)); (first | omega | (simp <;> omega))))) hB 50000 (by omega) (by omega)).mono ?_
        rintro e v2 ⟨x2, rfl, hx2, hD2', hG2⟩
        have hD2 := Lib.hid hD2'
        have lG2 := hD2'.lt
        have zG2 := hG2.size
        (try simp at zG2)
        clear hD2' hG2
        go_wp2_with fail
        refine (pick_d (by repeat (first | with_reducible assumption | (with_reducible apply Hid.out; assumption) | with_reducible apply Drw.drewN | with_reducible apply Drw.drew | with_reducible apply Drw.alloc | (with_reducible refine Drw.setp ?_ ?_ ?_ ?_; (first | omega | (simp <;> omega)); (first | omega | (simp <;> omega)); (first | omega | (simp <;> omega))))) hB 20 (by omega) (by omega)).mono ?_
        rintro e v3 ⟨x3, rfl, hx3, hD3', hG3⟩
        have hD3 := Lib.hid hD3'
        have lG3 := hD3'.lt
        have zG3 := hG3.size
        (try simp at zG3)
        clear hD3' hG3
        go_wp2_with fail
        refine (pick_d (by repeat (first | with_reducible assumption | (with_reducible apply Hid.out; assumption) | with_reducible apply Drw.drewN | with_reducible apply Drw.drew | with_reducible apply Drw.alloc | (with_reducible refine Drw.setp ?_ ?_ ?_ ?_; (first | omega | (simp <;> omega)); (first | omega | (simp <;> omega)); (first | omega | (simp <;> omega))))) hB 2 (by omega) (by omega)).mono ?_
        rintro e v4 ⟨x4, rfl, hx4, hD4', hG4⟩
        have hD4 := Lib.hid hD4'
        have lG4 := hD4'.lt
        have zG4 := hG4.size
        (try simp at zG4)
        clear hD4' hG4
        go_wp2
        go_ret
        exact hfin.out _ _ _ (by repeat (first | with_reducible assumption | (with_reducible apply Hid.out; assumption) | with_reducible apply Drw.drewN | with_reducible apply Drw.drew | with_reducible apply Drw.alloc | (with_reducible refine Drw.setp ?_ ?_ ?_ ?_; (first | omega | (simp <;> omega)); (first | omega | (simp <;> omega)); (first | omega | (simp <;> omega))))) (by omega)
    · by_cases e3 : x1 = 3 ∨ x1 = 4
      · have e2 : (x1 == 3) = true ∨ (x1 == 3) = false ∧ (x1 == 4) = true := by
          rcases e3 with rfl | rfl
          · exact .inl rfl
          · exact .inr ⟨rfl, rfl⟩
        have n0 : (x1 == 0) = false := by rw [beq_eq_false_iff_ne]; exact e0
        have n1 : (x1 == 1) = false := by rw [beq_eq_false_iff_ne]; omega
        have n2 : (x1 == 2) = false := by rw [beq_eq_false_iff_ne]; omega
        clear e1 hx1 e0 e3
        rcases e2 with e2 | ⟨e2, e3⟩
        all_goals
          go_wp2_with fail
          refine (pick_d (by repeat (first | with_reducible assumption | (with_reducible apply Hid.out; assumption) | with_reducible apply Drw.drewN | with_reducible apply Drw.drew | with_reducible apply Drw.alloc | (with_reducible refine Drw.setp ?_ ?_ ?_ ?_; (first | omega | (simp <;> omega)); (first | omega | (simp <;> omega)); (first | omega | (simp <;> omega))))) hB 2000 (by omega) (by omega)).mono ?_
          rintro e v2 ⟨x2, rfl, hx2, hD2', hG2⟩
          have hD2 := Lib.hid hD2'
          have lG2 := hD2'.lt
          have zG2 := hG2.size
          (try simp at zG2)
          clear hD2' hG2
          go_wp2
          go_ret
          exact hfin.out _ _ _ (by repeat (first | with_reducible assumption | (with_reducible apply Hid.out; assumption) | with_reducible apply Drw.drewN | with_reducible apply Drw.drew | with_reducible apply Drw.alloc | (with_reducible refine Drw.setp ?_ ?_ ?_ ?_; (first | omega | (simp <;> omega)); (first | omega | (simp <;> omega)); (first | omega | (simp <;> omega))))) (by omega)
      · have n0 : (x1 == 0) = false := by rw [beq_eq_false_iff_ne]; exact e0
        have n1 : (x1 == 1) = false := by rw [beq_eq_false_iff_ne]; omega
        have n2 : (x1 == 2) = false := by rw [beq_eq_false_iff_ne]; omega
        have n3 : (x1 == 3) = false := by rw [beq_eq_false_iff_ne]; omega
        have n4 : (x1 == 4) = false := by rw [beq_eq_false_iff_ne]; omega
        clear e1 hx1 e0 e3
        go_wp2_with fail
        refine (pick_d (by repeat (first | with_reducible assumption | (with_reducible apply Hid.out; assumption) | with_reducible apply Drw.drewN | with_reducible apply Drw.drew | with_reducible apply Drw.alloc | (with_reducible refine Drw.setp ?_ ?_ ?_ ?_; (first | omega | (simp <;> omega)); (first | omega | (simp <;> omega)); (first | omega | (simp <;> omega))))) hB 121 (by omega) (by omega)).mono ?_
        rintro e v2 ⟨x2, rfl, hx2, hD2', hG2⟩
        have hD2 := Lib.hid hD2'
        have lG2 := hD2'.lt
        have zG2 := hG2.size
        (try simp at zG2)
        clear hD2' hG2
        go_wp2
        go_ret
        exact hfin.out _ _ _ (by repeat (first | with_reducible assumption | (with_reducible apply Hid.out; assumption) | with_reducible apply Drw.drewN | with_reducible apply Drw.drew | with_reducible apply Drw.alloc | (with_reducible refine Drw.setp ?_ ?_ ?_ ?_; (first | omega | (simp <;> omega)); (first | omega | (simp <;> omega)); (first | omega | (simp <;> omega))))) (by omega)
end
end

section
open Go.RowKit

section
variable {zs : List Int} {v : Value} {B G n m : Nat} {w0 w w1 w2 : World}
theorem Drw.call (h : Drw zs v B G n w0 w) (hB : B ≤ G) (hb : Below w.heap.size w w1) : Drw zs v B G n w0 w1 := by
  have := h.lt
  exact ⟨h.rd.below hb (by omega), h.cur.call hb, h.gr.trans (grownB hb)⟩
theorem own_drw {e : TypeId} {sz k B2 : Nat} {u : Value} {xs : List Value} (ho : w.ownsRow B2 e sz u k xs) (hG : G < B2) (hg : w.grownBy w1 (some G)) : w1.ownsRow B2 e sz u k xs :=
  ho.kept hg (by
    cases hq : u.ownBlock with
    | none => exact .inl rfl
    | some q => exact .inr (fun he => by injection he with he; have := (ho.lt q hq).1; omega))

set_option maxRecDepth 100000 in
set_option maxHeartbeats 1600000 in
theorem form_d (h : Drw zs v B G n w0 w) (hB : B ≤ G) (hn : n + 26 ≤ 100000000) :
    Calls Tryz.prog 133 #[.pointer (some ⟨G, 0, none⟩)] w fun e w' => ∃ f : Fm, e = .returned (.agg #[.int .i64 f.a, .int .i64 f.b, .int .i64 f.c]) ∧ True ∧ Drw zs v B G (n + 26) w0 w' ∧ w.grownBy w' (some G) := by
  have H := Lib.hid h
  have lG0 := h.lt
  have hD0 := Lib.hid (Drw.start h.rd h.cur)
  clear h
  have hfin : Hid (∀ (x y z : Int) (w' : World), Drw zs v B G (n + 26) w w' → ∃ f : Fm, Ending.returned (.agg #[.int .i64 x, .int .i64 y, .int .i64 z]) = .returned (.agg #[.int .i64 f.a, .int .i64 f.b, .int .i64 f.c]) ∧ True ∧ Drw zs v B G (n + 26) w0 w' ∧ w.grownBy w' (some G)) :=
    Lib.hid (fun x y z w' hd => ⟨⟨x, y, z⟩, rfl, trivial, H.out.next hB hd.cur hd.gr, hd.gr⟩)
  go_enter Tryz.func133, Tryz.ntmps133
  go_wp2_with fail
  refine (pick_d (by repeat (first | with_reducible assumption | (with_reducible apply Hid.out; assumption) | with_reducible apply Drw.drewN | with_reducible apply Drw.drew | with_reducible apply Drw.alloc | (with_reducible refine Drw.setp ?_ ?_ ?_ ?_; (first | omega | (simp <;> omega)); (first | omega | (simp <;> omega)); (first | omega | (simp <;> omega))))) hB 14 (by omega) (by omega)).mono ?_
  rintro e v1 ⟨x1, rfl, hx1, hD1', hG1⟩
  have hD1 := Lib.hid hD1'
  have lG1 := hD1'.lt
  have zG1 := hG1.size
  (try simp at zG1)
  have hA1 : Blk v1 (w.heap.size) 33 #[.int .i64 0, .int .i64 0, .int .i64 0] := Blk.grown (by (repeat (first | with_reducible assumption | (with_reducible apply Blk.new_at; (first | rfl | (simp; done))) | with_reducible apply Blk.store3 | with_reducible apply Blk.store4 | (with_reducible apply Blk.farp; (first | omega | (simp <;> omega))) | with_reducible apply Blk.allocp | with_reducible apply Blk.drew | with_reducible apply Blk.drewN))) hG1 (by simp; omega)
  have cA1 := hA1.cell; have fA1 := hA1.frozen; have lA1 := hA1.lt; have mA1 := Nat.ne_of_gt lA1; have nA1 := Nat.ne_of_lt lA1
  clear hD1' hG1
  by_cases e0 : x1 = 0
  · subst e0
    clear hx1
    go_wp2_with fail
    refine (number_d (by repeat (first | with_reducible assumption | (with_reducible apply Hid.out; assumption) | with_reducible apply Drw.drewN | with_reducible apply Drw.drew | with_reducible apply Drw.alloc | (with_reducible refine Drw.setp ?_ ?_ ?_ ?_; (first | omega | (simp <;> omega)); (first | omega | (simp <;> omega)); (first | omega | (simp <;> omega))))) hB (by omega)).mono ?_
    rintro e v2 ⟨x2, rfl, hx2, hD2', hG2⟩
    have hD2 := Lib.hid hD2'
    have lG2 := hD2'.lt
    have zG2 := hG2.size
    (try simp at zG2)
    have hA2 : Blk v2 (w.heap.size) 33 #[.int .i64 0, .int .i64 0, .int .i64 0] := Blk.grown (by (repeat (first | with_reducible assumption | (with_reducible apply Blk.new_at; (first | rfl | (simp; done))) | with_reducible apply Blk.store3 | with_reducible apply Blk.store4 | (with_reducible apply Blk.farp; (first | omega | (simp <;> omega))) | with_reducible apply Blk.allocp | with_reducible apply Blk.drew | with_reducible apply Blk.drewN))) hG2 (by simp; omega)
    have cA2 := hA2.cell; have fA2 := hA2.frozen; have lA2 := hA2.lt; have mA2 := Nat.ne_of_gt lA2; have nA2 := Nat.ne_of_lt lA2
    clear hD2' hG2
    go_wp2_with fail
    refine (number_d (by repeat (first | with_reducible assumption | (with_reducible apply Hid.out; assumption) | with_reducible apply Drw.drewN | with_reducible apply Drw.drew | with_reducible apply Drw.alloc | (with_reducible refine Drw.setp ?_ ?_ ?_ ?_; (first | omega | (simp <;> omega)); (first | omega | (simp <;> omega)); (first | omega | (simp <;> omega))))) hB (by omega)).mono ?_
    rintro e v3 ⟨x3, rfl, hx3, hD3', hG3⟩
    have hD3 := Lib.hid hD3'
    have lG3 := hD3'.lt
    have zG3 := hG3.size
    (try simp at zG3)
    have hA3 : Blk v3 (w.heap.size) 33 #[.int .i64 0, .int .i64 0, .int .i64 0] := Blk.grown (by (repeat (first | with_reducible assumption | (with_reducible apply Blk.new_at; (first | rfl | (simp; done))) | with_reducible apply Blk.store3 | with_reducible apply Blk.store4 | (with_reducible apply Blk.farp; (first | omega | (simp <;> omega))) | with_reducible apply Blk.allocp | with_reducible apply Blk.drew | with_reducible apply Blk.drewN))) hG3 (by simp; omega)
    have cA3 := hA3.cell; have fA3 := hA3.frozen; have lA3 := hA3.lt; have mA3 := Nat.ne_of_gt lA3; have nA3 := Nat.ne_of_lt lA3
    clear hD3' hG3
    go_wp2_with fail
    refine (number_d (by repeat (first | with_reducible assumption | (with_reducible apply Hid.out; assumption) | with_reducible apply Drw.drewN | with_reducible apply Drw.drew | with_reducible apply Drw.alloc | (with_reducible refine Drw.setp ?_ ?_ ?_ ?_; (first | omega | (simp <;> omega)); (first | omega | (simp <;> omega)); (first | omega | (simp <;> omega))))) hB (by omega)).mono ?_
    rintro e v4 ⟨x4, rfl, hx4, hD4', hG4⟩
    have hD4 := Lib.hid hD4'
    have lG4 := hD4'.lt
    have zG4 := hG4.size
    (try simp at zG4)
    have hA4 : Blk v4 (w.heap.size) 33 #[.int .i64 0, .int .i64 0, .int .i64 0] := Blk.grown (by (repeat (first | with_reducible assumption | (with_reducible apply Blk.new_at; (first | rfl | (simp; done))) | with_reducible apply Blk.store3 | with_reducible apply Blk.store4 | (with_reducible apply Blk.farp; (first | omega | (simp <;> omega))) | with_reducible apply Blk.allocp | with_reducible apply Blk.drew | with_reducible apply Blk.drewN))) hG4 (by simp; omega)
    have cA4 := hA4.cell; have fA4 := hA4.frozen; have lA4 := hA4.lt; have mA4 := Nat.ne_of_gt lA4; have nA4 := Nat.ne_of_lt lA4
    clear hD4' hG4
    go_wp2
    exact bodyPost_ret (v := .agg #[.int .i64 x2, .int .i64 x3, .int .i64 x4]) (by simp [results, Tryz.results133, go_sem, *]) rfl (hfin.out _ _ _ _ (Drw.more (n := n + 2 + 8 + 8 + 8) (by repeat (first | with_reducible assumption | (with_reducible apply Hid.out; assumption) | with_reducible apply Drw.drewN | with_reducible apply Drw.drew | with_reducible apply Drw.alloc | (with_reducible refine Drw.setp ?_ ?_ ?_ ?_; (first | omega | (simp <;> omega)); (first | omega | (simp <;> omega)); (first | omega | (simp <;> omega))))) (by omega)))
  · have n0 : (x1 == 0) = false := by rw [beq_eq_false_iff_ne]; exact e0
    by_cases e1 : x1 = 1
    · subst e1
      clear hx1 e0 n0
      go_wp2_with fail
      refine (among_d (w := v1) (by repeat (first | with_reducible assumption | (with_reducible apply Hid.out; assumption) | with_reducible apply Drw.drewN | with_reducible apply Drw.drew | with_reducible apply Drw.alloc | (with_reducible refine Drw.setp ?_ ?_ ?_ ?_; (first | omega | (simp <;> omega)); (first | omega | (simp <;> omega)); (first | omega | (simp <;> omega))))) hB [2, 3, -1, 0, 1000] (fun _ => True) (by simp) (by decide) (by decide) (by omega)).mono ?_
      rintro e v2 ⟨x2, rfl, hx2, hD2', hG2⟩
      have hD2 := Lib.hid hD2'
      have lG2 := hD2'.lt
      have zG2 := hG2.size
      have hA2 : Blk v2 w.heap.size 33 #[.int .i64 0, .int .i64 0, .int .i64 0] := Blk.grown (by (repeat (first | with_reducible assumption | (with_reducible apply Blk.new_at; (first | rfl | (simp; done))) | with_reducible apply Blk.store3 | with_reducible apply Blk.store4 | (with_reducible apply Blk.farp; (first | omega | (simp <;> omega))) | with_reducible apply Blk.allocp | with_reducible apply Blk.drew | with_reducible apply Blk.drewN))) hG2 (by simp; omega)
      have cA2 := hA2.cell; have fA2 := hA2.frozen; have lA2 := hA2.lt; have mA2 := Nat.ne_of_gt lA2; have nA2 := Nat.ne_of_lt lA2
      clear hD2' hG2
      go_wp2_with fail
      refine (pick_d (by repeat (first | with_reducible assumption | (with_reducible apply Hid.out; assumption) | with_reducible apply Drw.drewN | with_reducible apply Drw.drew | with_reducible apply Drw.alloc | (with_reducible refine Drw.setp ?_ ?_ ?_ ?_; (first | omega | (simp <;> omega)); (first | omega | (simp <;> omega)); (first | omega | (simp <;> omega))))) hB 20 (by omega) (by omega)).mono ?_
      rintro e v3 ⟨x3, rfl, hx3, hD3', hG3⟩
      have hD3 := Lib.hid hD3'
      have lG3 := hD3'.lt
      have zG3 := hG3.size
      (try simp at zG3)
      have hA3 : Blk v3 (w.heap.size) 33 #[.int .i64 0, .int .i64 0, .int .i64 0] := Blk.grown (by (repeat (first | with_reducible assumption | (with_reducible apply Blk.new_at; (first | rfl | (simp; done))) | with_reducible apply Blk.store3 | with_reducible apply Blk.store4 | (with_reducible apply Blk.farp; (first | omega | (simp <;> omega))) | with_reducible apply Blk.allocp | with_reducible apply Blk.drew | with_reducible apply Blk.drewN))) hG3 (by simp; omega)
      have cA3 := hA3.cell; have fA3 := hA3.frozen; have lA3 := hA3.lt; have mA3 := Nat.ne_of_gt lA3; have nA3 := Nat.ne_of_lt lA3
      clear hD3' hG3
      go_wp2_with fail
      refine (pick_d (by repeat (first | with_reducible assumption | (with_reducible apply Hid.out; assumption) | with_reducible apply Drw.drewN | with_reducible apply Drw.drew | with_reducible apply Drw.alloc | (with_reducible refine Drw.setp ?_ ?_ ?_ ?_; (first | omega | (simp <;> omega)); (first | omega | (simp <;> omega)); (first | omega | (simp <;> omega))))) hB 21 (by omega) (by omega)).mono ?_
      rintro e v4 ⟨x4, rfl, hx4, hD4', hG4⟩
      have hD4 := Lib.hid hD4'
      have lG4 := hD4'.lt
      have zG4 := hG4.size
      (try simp at zG4)
      have hA4 : Blk v4 (w.heap.size) 33 #[.int .i64 0, .int .i64 0, .int .i64 0] := Blk.grown (by (repeat (first | with_reducible assumption | (with_reducible apply Blk.new_at; (first | rfl | (simp; done))) | with_reducible apply Blk.store3 | with_reducible apply Blk.store4 | (with_reducible apply Blk.farp; (first | omega | (simp <;> omega))) | with_reducible apply Blk.allocp | with_reducible apply Blk.drew | with_reducible apply Blk.drewN))) hG4 (by simp; omega)
      have cA4 := hA4.cell; have fA4 := hA4.frozen; have lA4 := hA4.lt; have mA4 := Nat.ne_of_gt lA4; have nA4 := Nat.ne_of_lt lA4
      clear hD4' hG4
      go_wp2_with fail
      refine (pick_d (by repeat (first | with_reducible assumption | (with_reducible apply Hid.out; assumption) | with_reducible apply Drw.drewN | with_reducible apply Drw.drew | with_reducible apply Drw.alloc | (with_reducible refine Drw.setp ?_ ?_ ?_ ?_; (first | omega | (simp <;> omega)); (first | omega | (simp <;> omega)); (first | omega | (simp <;> omega))))) hB 20 (by omega) (by omega)).mono ?_
      rintro e v5 ⟨x5, rfl, hx5, hD5', hG5⟩
      have hD5 := Lib.hid hD5'
      have lG5 := hD5'.lt
      have zG5 := hG5.size
      (try simp at zG5)
      have hA5 : Blk v5 (w.heap.size) 33 #[.int .i64 0, .int .i64 0, .int .i64 0] := Blk.grown (by (repeat (first | with_reducible assumption | (with_reducible apply Blk.new_at; (first | rfl | (simp; done))) | with_reducible apply Blk.store3 | with_reducible apply Blk.store4 | (with_reducible apply Blk.farp; (first | omega | (simp <;> omega))) | with_reducible apply Blk.allocp | with_reducible apply Blk.drew | with_reducible apply Blk.drewN))) hG5 (by simp; omega)
      have cA5 := hA5.cell; have fA5 := hA5.frozen; have lA5 := hA5.lt; have mA5 := Nat.ne_of_gt lA5; have nA5 := Nat.ne_of_lt lA5
      clear hD5' hG5
      go_wp2
      exact bodyPost_ret (v := .agg #[.int .i64 (wrap64 (x2 * x3)), .int .i64 (wrap64 (x2 * (x4 - 10))), .int .i64 (wrap64 (x2 * x5))]) (by simp [results, Tryz.results133, go_sem, *]) rfl (hfin.out _ _ _ _ (Drw.more (n := n + 2 + 2 + 2 + 2 + 2) (by repeat (first | with_reducible assumption | (with_reducible apply Hid.out; assumption) | with_reducible apply Drw.drewN | with_reducible apply Drw.drew | with_reducible apply Drw.alloc | (with_reducible refine Drw.setp ?_ ?_ ?_ ?_; (first | omega | (simp <;> omega)); (first | omega | (simp <;> omega)); (first | omega | (simp <;> omega))))) (by omega)))
    · have n1 : (x1 == 1) = false := by rw [beq_eq_false_iff_ne]; exact e1
      by_cases e2 : x1 = 2
      · subst e2
        clear hx1 e0 n0 e1 n1
        go_wp2_with fail
        refine (pick_d (by repeat (first | with_reducible assumption | (with_reducible apply Hid.out; assumption) | with_reducible apply Drw.drewN | with_reducible apply Drw.drew | with_reducible apply Drw.alloc | (with_reducible refine Drw.setp ?_ ?_ ?_ ?_; (first | omega | (simp <;> omega)); (first | omega | (simp <;> omega)); (first | omega | (simp <;> omega))))) hB 2000 (by omega) (by omega)).mono ?_
        rintro e v3 ⟨x3, rfl, hx3, hD3', hG3⟩
        have hD3 := Lib.hid hD3'
        have lG3 := hD3'.lt
        have zG3 := hG3.size
        (try simp at zG3)
        have hA3 : Blk v3 (w.heap.size) 33 #[.int .i64 0, .int .i64 0, .int .i64 0] := Blk.grown (by (repeat (first | with_reducible assumption | (with_reducible apply Blk.new_at; (first | rfl | (simp; done))) | with_reducible apply Blk.store3 | with_reducible apply Blk.store4 | (with_reducible apply Blk.farp; (first | omega | (simp <;> omega))) | with_reducible apply Blk.allocp | with_reducible apply Blk.drew | with_reducible apply Blk.drewN))) hG3 (by simp; omega)
        have cA3 := hA3.cell; have fA3 := hA3.frozen; have lA3 := hA3.lt; have mA3 := Nat.ne_of_gt lA3; have nA3 := Nat.ne_of_lt lA3
        clear hD3' hG3
        go_wp2_with fail
        refine (pick_d (by repeat (first | with_reducible assumption | (with_reducible apply Hid.out; assumption) | with_reducible apply Drw.drewN | with_reducible apply Drw.drew | with_reducible apply Drw.alloc | (with_reducible refine Drw.setp ?_ ?_ ?_ ?_; (first | omega | (simp <;> omega)); (first | omega | (simp <;> omega)); (first | omega | (simp <;> omega))))) hB 3000 (by omega) (by omega)).mono ?_
        rintro e v4 ⟨x4, rfl, hx4, hD4', hG4⟩
        have hD4 := Lib.hid hD4'
        have lG4 := hD4'.lt
        have zG4 := hG4.size
        (try simp at zG4)
        have hA4 : Blk v4 (w.heap.size) 33 #[.int .i64 0, .int .i64 0, .int .i64 0] := Blk.grown (by (repeat (first | with_reducible assumption | (with_reducible apply Blk.new_at; (first | rfl | (simp; done))) | with_reducible apply Blk.store3 | with_reducible apply Blk.store4 | (with_reducible apply Blk.farp; (first | omega | (simp <;> omega))) | with_reducible apply Blk.allocp | with_reducible apply Blk.drew | with_reducible apply Blk.drewN))) hG4 (by simp; omega)
        have cA4 := hA4.cell; have fA4 := hA4.frozen; have lA4 := hA4.lt; have mA4 := Nat.ne_of_gt lA4; have nA4 := Nat.ne_of_lt lA4
        clear hD4' hG4
        go_wp2_with fail
        refine (pick_d (by repeat (first | with_reducible assumption | (with_reducible apply Hid.out; assumption) | with_reducible apply Drw.drewN | with_reducible apply Drw.drew | with_reducible apply Drw.alloc | (with_reducible refine Drw.setp ?_ ?_ ?_ ?_; (first | omega | (simp <;> omega)); (first | omega | (simp <;> omega)); (first | omega | (simp <;> omega))))) hB 2000 (by omega) (by omega)).mono ?_
        rintro e v5 ⟨x5, rfl, hx5, hD5', hG5⟩
        have hD5 := Lib.hid hD5'
        have lG5 := hD5'.lt
        have zG5 := hG5.size
        (try simp at zG5)
        have hA5 : Blk v5 (w.heap.size) 33 #[.int .i64 0, .int .i64 0, .int .i64 0] := Blk.grown (by (repeat (first | with_reducible assumption | (with_reducible apply Blk.new_at; (first | rfl | (simp; done))) | with_reducible apply Blk.store3 | with_reducible apply Blk.store4 | (with_reducible apply Blk.farp; (first | omega | (simp <;> omega))) | with_reducible apply Blk.allocp | with_reducible apply Blk.drew | with_reducible apply Blk.drewN))) hG5 (by simp; omega)
        have cA5 := hA5.cell; have fA5 := hA5.frozen; have lA5 := hA5.lt; have mA5 := Nat.ne_of_gt lA5; have nA5 := Nat.ne_of_lt lA5
        clear hD5' hG5
        go_wp2
        exact bodyPost_ret (v := .agg #[.int .i64 x3, .int .i64 (x4 - 1500), .int .i64 x5]) (by simp [results, Tryz.results133, go_sem, *]) rfl (hfin.out _ _ _ _ (Drw.more (n := n + 2 + 2 + 2 + 2) (by repeat (first | with_reducible assumption | (with_reducible apply Hid.out; assumption) | with_reducible apply Drw.drewN | with_reducible apply Drw.drew | with_reducible apply Drw.alloc | (with_reducible refine Drw.setp ?_ ?_ ?_ ?_; (first | omega | (simp <;> omega)); (first | omega | (simp <;> omega)); (first | omega | (simp <;> omega))))) (by omega)))
      · have n2 : (x1 == 2) = false := by rw [beq_eq_false_iff_ne]; exact e2
        by_cases e3 : x1 = 3
        · subst e3
          clear hx1 e0 n0 e1 n1 e2 n2
          go_wp2_with fail
          refine (pick_d (by repeat (first | with_reducible assumption | (with_reducible apply Hid.out; assumption) | with_reducible apply Drw.drewN | with_reducible apply Drw.drew | with_reducible apply Drw.alloc | (with_reducible refine Drw.setp ?_ ?_ ?_ ?_; (first | omega | (simp <;> omega)); (first | omega | (simp <;> omega)); (first | omega | (simp <;> omega))))) hB 21 (by omega) (by omega)).mono ?_
          rintro e v3 ⟨x3, rfl, hx3, hD3', hG3⟩
          have hD3 := Lib.hid hD3'
          have lG3 := hD3'.lt
          have zG3 := hG3.size
          (try simp at zG3)
          have hA3 : Blk v3 (w.heap.size) 33 #[.int .i64 0, .int .i64 0, .int .i64 0] := Blk.grown (by (repeat (first | with_reducible assumption | (with_reducible apply Blk.new_at; (first | rfl | (simp; done))) | with_reducible apply Blk.store3 | with_reducible apply Blk.store4 | (with_reducible apply Blk.farp; (first | omega | (simp <;> omega))) | with_reducible apply Blk.allocp | with_reducible apply Blk.drew | with_reducible apply Blk.drewN))) hG3 (by simp; omega)
          have cA3 := hA3.cell; have fA3 := hA3.frozen; have lA3 := hA3.lt; have mA3 := Nat.ne_of_gt lA3; have nA3 := Nat.ne_of_lt lA3
          clear hD3' hG3
          go_wp2_with fail
          refine (pick_d (by repeat (first | with_reducible assumption | (with_reducible apply Hid.out; assumption) | with_reducible apply Drw.drewN | with_reducible apply Drw.drew | with_reducible apply Drw.alloc | (with_reducible refine Drw.setp ?_ ?_ ?_ ?_; (first | omega | (simp <;> omega)); (first | omega | (simp <;> omega)); (first | omega | (simp <;> omega))))) hB 21 (by omega) (by omega)).mono ?_
          rintro e v4 ⟨x4, rfl, hx4, hD4', hG4⟩
          have hD4 := Lib.hid hD4'
          have lG4 := hD4'.lt
          have zG4 := hG4.size
          (try simp at zG4)
          have hA4 : Blk v4 (w.heap.size) 33 #[.int .i64 0, .int .i64 0, .int .i64 0] := Blk.grown (by (repeat (first | with_reducible assumption | (with_reducible apply Blk.new_at; (first | rfl | (simp; done))) | with_reducible apply Blk.store3 | with_reducible apply Blk.store4 | (with_reducible apply Blk.farp; (first | omega | (simp <;> omega))) | with_reducible apply Blk.allocp | with_reducible apply Blk.drew | with_reducible apply Blk.drewN))) hG4 (by simp; omega)
          have cA4 := hA4.cell; have fA4 := hA4.frozen; have lA4 := hA4.lt; have mA4 := Nat.ne_of_gt lA4; have nA4 := Nat.ne_of_lt lA4
          clear hD4' hG4
          go_wp2_with fail
          refine (pick_d (by repeat (first | with_reducible assumption | (with_reducible apply Hid.out; assumption) | with_reducible apply Drw.drewN | with_reducible apply Drw.drew | with_reducible apply Drw.alloc | (with_reducible refine Drw.setp ?_ ?_ ?_ ?_; (first | omega | (simp <;> omega)); (first | omega | (simp <;> omega)); (first | omega | (simp <;> omega))))) hB 21 (by omega) (by omega)).mono ?_
          rintro e v5 ⟨x5, rfl, hx5, hD5', hG5⟩
          have hD5 := Lib.hid hD5'
          have lG5 := hD5'.lt
          have zG5 := hG5.size
          (try simp at zG5)
          have hA5 : Blk v5 (w.heap.size) 33 #[.int .i64 0, .int .i64 0, .int .i64 0] := Blk.grown (by (repeat (first | with_reducible assumption | (with_reducible apply Blk.new_at; (first | rfl | (simp; done))) | with_reducible apply Blk.store3 | with_reducible apply Blk.store4 | (with_reducible apply Blk.farp; (first | omega | (simp <;> omega))) | with_reducible apply Blk.allocp | with_reducible apply Blk.drew | with_reducible apply Blk.drewN))) hG5 (by simp; omega)
          have cA5 := hA5.cell; have fA5 := hA5.frozen; have lA5 := hA5.lt; have mA5 := Nat.ne_of_gt lA5; have nA5 := Nat.ne_of_lt lA5
          clear hD5' hG5
          go_wp2
          exact bodyPost_ret (v := .agg #[.int .i64 (x3 - 10), .int .i64 (x4 - 10), .int .i64 (x5 - 10)]) (by simp [results, Tryz.results133, go_sem, *]) rfl (hfin.out _ _ _ _ (Drw.more (n := n + 2 + 2 + 2 + 2) (by repeat (first | with_reducible assumption | (with_reducible apply Hid.out; assumption) | with_reducible apply Drw.drewN | with_reducible apply Drw.drew | with_reducible apply Drw.alloc | (with_reducible refine Drw.setp ?_ ?_ ?_ ?_; (first | omega | (simp <;> omega)); (first | omega | (simp <;> omega)); (first | omega | (simp <;> omega))))) (by omega)))
        · have n3 : (x1 == 3) = false := by rw [beq_eq_false_iff_ne]; exact e3
          clear hx1 e0 e1 e2 e3
          go_wp2_with fail
          refine (pick_d (by repeat (first | with_reducible assumption | (with_reducible apply Hid.out; assumption) | with_reducible apply Drw.drewN | with_reducible apply Drw.drew | with_reducible apply Drw.alloc | (with_reducible refine Drw.setp ?_ ?_ ?_ ?_; (first | omega | (simp <;> omega)); (first | omega | (simp <;> omega)); (first | omega | (simp <;> omega))))) hB 25 (by omega) (by omega)).mono ?_
          rintro e v3 ⟨x3, rfl, hx3, hD3', hG3⟩
          have hD3 := Lib.hid hD3'
          have lG3 := hD3'.lt
          have zG3 := hG3.size
          (try simp at zG3)
          have hA3 : Blk v3 (w.heap.size) 33 #[.int .i64 0, .int .i64 0, .int .i64 0] := Blk.grown (by (repeat (first | with_reducible assumption | (with_reducible apply Blk.new_at; (first | rfl | (simp; done))) | with_reducible apply Blk.store3 | with_reducible apply Blk.store4 | (with_reducible apply Blk.farp; (first | omega | (simp <;> omega))) | with_reducible apply Blk.allocp | with_reducible apply Blk.drew | with_reducible apply Blk.drewN))) hG3 (by simp; omega)
          have cA3 := hA3.cell; have fA3 := hA3.frozen; have lA3 := hA3.lt; have mA3 := Nat.ne_of_gt lA3; have nA3 := Nat.ne_of_lt lA3
          clear hD3' hG3
          go_wp2_with fail
          refine (pick_d (by repeat (first | with_reducible assumption | (with_reducible apply Hid.out; assumption) | with_reducible apply Drw.drewN | with_reducible apply Drw.drew | with_reducible apply Drw.alloc | (with_reducible refine Drw.setp ?_ ?_ ?_ ?_; (first | omega | (simp <;> omega)); (first | omega | (simp <;> omega)); (first | omega | (simp <;> omega))))) hB 40 (by omega) (by omega)).mono ?_
          rintro e v4 ⟨x4, rfl, hx4, hD4', hG4⟩
          have hD4 := Lib.hid hD4'
          have lG4 := hD4'.lt
          have zG4 := hG4.size
          (try simp at zG4)
          have hA4 : Blk v4 (w.heap.size) 33 #[.int .i64 0, .int .i64 0, .int .i64 0] := Blk.grown (by (repeat (first | with_reducible assumption | (with_reducible apply Blk.new_at; (first | rfl | (simp; done))) | with_reducible apply Blk.store3 | with_reducible apply Blk.store4 | (with_reducible apply Blk.farp; (first | omega | (simp <;> omega))) | with_reducible apply Blk.allocp | with_reducible apply Blk.drew | with_reducible apply Blk.drewN))) hG4 (by simp; omega)
          have cA4 := hA4.cell; have fA4 := hA4.frozen; have lA4 := hA4.lt; have mA4 := Nat.ne_of_gt lA4; have nA4 := Nat.ne_of_lt lA4
          clear hD4' hG4
          go_wp2_with fail
          refine (pick_d (by repeat (first | with_reducible assumption | (with_reducible apply Hid.out; assumption) | with_reducible apply Drw.drewN | with_reducible apply Drw.drew | with_reducible apply Drw.alloc | (with_reducible refine Drw.setp ?_ ?_ ?_ ?_; (first | omega | (simp <;> omega)); (first | omega | (simp <;> omega)); (first | omega | (simp <;> omega))))) hB _ (by omega) (by omega)).mono ?_
          rintro e v5 ⟨x5, rfl, hx5, hD5', hG5⟩
          have hD5 := Lib.hid hD5'
          have lG5 := hD5'.lt
          have zG5 := hG5.size
          (try simp at zG5)
          have hA5 : Blk v5 (w.heap.size) 33 #[.int .i64 0, .int .i64 0, .int .i64 0] := Blk.grown (by (repeat (first | with_reducible assumption | (with_reducible apply Blk.new_at; (first | rfl | (simp; done))) | with_reducible apply Blk.store3 | with_reducible apply Blk.store4 | (with_reducible apply Blk.farp; (first | omega | (simp <;> omega))) | with_reducible apply Blk.allocp | with_reducible apply Blk.drew | with_reducible apply Blk.drewN))) hG5 (by simp; omega)
          have cA5 := hA5.cell; have fA5 := hA5.frozen; have lA5 := hA5.lt; have mA5 := Nat.ne_of_gt lA5; have nA5 := Nat.ne_of_lt lA5
          clear hD5' hG5
          go_wp2
          exact bodyPost_ret (v := .agg #[.int .i64 (1 + x3), .int .i64 (x5 - (1 + x3) + 1), .int .i64 (wrap64 (wrap64 ((wrap64 (wrap64 ((x5 - (1 + x3) + 1) * (x5 - (1 + x3) + 1)) + 4 * (1 + x3))).tdiv (4 * (1 + x3))) + x4))]) (by simp [results, Tryz.results133, go_sem, *]) rfl (hfin.out _ _ _ _ (Drw.more (n := n + 2 + 2 + 2 + 2) (by repeat (first | with_reducible assumption | (with_reducible apply Hid.out; assumption) | with_reducible apply Drw.drewN | with_reducible apply Drw.drew | with_reducible apply Drw.alloc | (with_reducible refine Drw.setp ?_ ?_ ?_ ?_; (first | omega | (simp <;> omega)); (first | omega | (simp <;> omega)); (first | omega | (simp <;> omega))))) (by omega)))
end
end
end Go.Proofs.YtlcegkafagdcjaaGreatDoor
