/- Parts D4 D5 laid together by tp.py. -/
import Derived.Test.YtdhennlanngjgaaDX
import Derived.Test.YtdhennlanngjgaaUA
namespace Go.Proofs.Ytdhennlanngjgaa
section
open Go.RowKit

/-- A form is drawn, and the cursor has gone on. -/
def RetFo (P : Fm → Prop) (v : Value) (G n : Nat) (w : World) (e : Ending) (w' : World) : Prop :=
  ∃ f : Fm, e = .returned (.agg #[.int .i64 f.a, .int .i64 f.b, .int .i64 f.c]) ∧ P f ∧ Cur v G n w' ∧ w.grownBy w' (some G)
/-- A matrix is drawn. -/
def RetMa (P : Int → Int → Int → Int → Prop) (v : Value) (G n : Nat) (w : World) (e : Ending) (w' : World) : Prop :=
  ∃ p q r s : Int, e = .returned (.agg #[.int .i64 p, .int .i64 q, .int .i64 r, .int .i64 s]) ∧ P p q r s ∧ Cur v G n w' ∧ w.grownBy w' (some G)
/-- The state of a draw: the bytes, the cursor, and what has changed since w. -/
structure Drw (zs : List Int) (v : Value) (B G n : Nat) (w w' : World) : Prop where
  rd : RdB zs v B w'
  cur : Cur v G n w'
  gr : w.grownBy w' (some G)
section
variable {zs : List Int} {v : Value} {B G n m : Nat} {w w1 w2 w' : World}
theorem grown_set_ne {p : Addr} {u : Value} (hp : w.heap.size ≤ p.block) : w.grownBy (w.setCell p u) none :=
  ⟨rfl, rfl, rfl, by simp, fun k hk _ => Below.heap_setCell w p u k (by omega)⟩
theorem grown_mono (h : w.grownBy w' none) : w.grownBy w' (some G) := ⟨h.os, h.tape, h.output, h.size, fun k hk _ => h.block k hk (by simp)⟩
theorem Drw.start (hr : RdB zs v B w) (hc : Cur v G n w) : Drw zs v B G n w w := ⟨hr, hc, grown_refl _ _⟩
theorem Drw.more (h : Drw zs v B G n w w') (hm : n ≤ m) : Drw zs v B G m w w' := ⟨h.rd, h.cur.more hm, h.gr⟩
theorem Drw.next (h : Drw zs v B G n w w1) (hB : B ≤ G) (hc : Cur v G m w2) (hg : w1.grownBy w2 (some G)) : Drw zs v B G m w w2 :=
  ⟨h.rd.grown hg (fun k hk => by injection hk with hk; omega), hc, h.gr.trans hg⟩
theorem Drw.drewN (h : Drw zs v B G n w w1) (k : Nat) : Drw zs v B G n w (w1.drewN k) := ⟨h.rd, h.cur, ⟨h.gr.os, h.gr.tape, h.gr.output, h.gr.size, h.gr.block⟩⟩
theorem Drw.drew (h : Drw zs v B G n w w1) : Drw zs v B G n w w1.drew := ⟨h.rd, h.cur, ⟨h.gr.os, h.gr.tape, h.gr.output, h.gr.size, h.gr.block⟩⟩
theorem Drw.alloc (h : Drw zs v B G n w w1) (o : Obj) : Drw zs v B G n w (w1.alloc o) :=
  ⟨h.rd.grown (grown_alloc _ _ none) (fun k hk => by cases hk), h.cur.call ((Below.refl _ _).alloc (Nat.le_refl _) _), h.gr.trans (grown_alloc _ _ _)⟩
theorem RdB.set_ {p : Addr} {u : Value} (h : RdB zs v B w) (hp : B ≤ p.block) : RdB zs v B (w.setCell p u) := by
  obtain ⟨h0, h1, A, cap, rfl, hc⟩ := h
  refine ⟨h0, h1, A, cap, rfl, fun i hi => ?_⟩
  obtain ⟨a, rfl, hB, ha⟩ := hc i hi
  refine ⟨a, rfl, hB, ?_⟩
  have hb : (a.add i).block = a.block := block_of_add a i
  have hne : ¬ (a.add i).block = p.block := by omega
  unfold World.cell? at ha ⊢
  rw [Below.heap_setCell w p u _ hne]
  exact ha
theorem Cur.set_ {p : Addr} {u : Value} (h : Cur v G n w) (hp : G ≠ p.block) : Cur v G n (w.setCell p u) := by
  obtain ⟨p', s, h1, h2, h3, h4⟩ := h
  exact ⟨p', s, h1, h2, h3, h4.far hp u⟩
theorem Drw.set_ (h : Drw zs v B G n w w1) {p : Addr} {u : Value} (hp : B ≤ p.block) (hG : G ≠ p.block) (hw : w.heap.size ≤ p.block) : Drw zs v B G n w (w1.setCell p u) := by
  refine ⟨h.rd.set_ hp, h.cur.set_ hG, ⟨h.gr.os, h.gr.tape, h.gr.output, by rw [World.size_setCell]; exact h.gr.size, fun k hk hne => ?_⟩⟩
  rw [Below.heap_setCell w1 p u k (by omega)]
  exact h.gr.block k hk hne
theorem Drw.setp {p : Addr} {u : Value} (hp : B ≤ p.block) (hG : G ≠ p.block) (hw : w.heap.size ≤ p.block) (h : Drw zs v B G n w w1) : Drw zs v B G n w (w1.setCell p u) := h.set_ hp hG hw
theorem Drw.lt (h : Drw zs v B G n w w1) : G < w1.heap.size := h.cur.lt
theorem Drw.size (h : Drw zs v B G n w w1) : w.heap.size ≤ w1.heap.size := h.gr.size
theorem Drw.below (h : Drw zs v B G n w w1) (hG : G ≤ w.heap.size) : Below G w w1 := ((Below.refl _ _)).grown h.gr hG (fun k hk => by injection hk with hk; omega)
/-- What a draw gives. -/
def RetD {α : Type} (mk : α → Value) (P : α → Prop) (zs : List Int) (v : Value) (B G n : Nat) (w0 w : World) (e : Ending) (w' : World) : Prop :=
  ∃ x : α, e = .returned (mk x) ∧ P x ∧ Drw zs v B G n w0 w' ∧ w.grownBy w' (some G)
theorem RetD.fin {α : Type} {mk : α → Value} {P : α → Prop} {w0 : World} {x : α} (h : Drw zs v B G n w0 w) (hB : B ≤ G) (hx : P x) (hd : Drw zs v B G m w w') : RetD mk P zs v B G m w0 w (.returned (mk x)) w' :=
  ⟨x, rfl, hx, h.next hB hd.cur hd.gr, hd.gr⟩
end
def mkI (x : Int) : Value := .int .i64 x
def mkB (x : Bool) : Value := .bool x
def mkF (f : Fm) : Value := .agg #[.int .i64 f.a, .int .i64 f.b, .int .i64 f.c]
def mkM (m : Int × Int × Int × Int) : Value := .agg #[.int .i64 m.1, .int .i64 m.2.1, .int .i64 m.2.2.1, .int .i64 m.2.2.2]
section
variable {zs : List Int} {v : Value} {B G n m : Nat} {w0 w : World}
theorem pick_d (h : Drw zs v B G n w0 w) (hB : B ≤ G) (k : Int) (hn : n + 2 ≤ 100000000) (hm : k ≤ 1000000000) :
    Calls Try.prog 68 #[.pointer (some ⟨G, 0, none⟩), .int .i64 k] w fun e w' => ∃ x : Int, e = .returned (.int .i64 x) ∧ (0 ≤ x ∧ x < max k 1) ∧ Drw zs v B G (n + 2) w0 w' ∧ w.grownBy w' (some G) := by
  refine (pick_any k zs v B G n w h.rd h.cur hB hn hm).mono ?_
  rintro e w1 ⟨x, rfl, hx, hc, hg⟩
  exact ⟨x, rfl, hx, h.next hB hc hg, hg⟩
theorem one_d (h : Drw zs v B G n w0 w) (hB : B ≤ G) (k : Int) (hn : n + 2 ≤ 100000000) (hm : k ≤ 1000000000) :
    Calls Try.prog 74 #[.pointer (some ⟨G, 0, none⟩), .int .i64 k] w fun e w' => ∃ x : Bool, e = .returned (.bool x) ∧ True ∧ Drw zs v B G (n + 2) w0 w' ∧ w.grownBy w' (some G) := by
  refine (one_pk k zs v B G n w h.rd h.cur hB hn hm).mono ?_
  rintro e w1 ⟨x, rfl, hc, hg⟩
  exact ⟨x, rfl, trivial, h.next hB hc hg, hg⟩
theorem among_d (h : Drw zs v B G n w0 w) (hB : B ≤ G) (L : List Int) (P : Int → Prop) (hP : ∀ x ∈ L, P x) (h1 : 1 ≤ L.length) (h2 : L.length ≤ 1000) (hn : n + 2 ≤ 100000000) :
    Calls Try.prog 67 #[.pointer (some ⟨G, 0, none⟩), .slice (some ⟨w.heap.size, 0, none⟩) L.length L.length] (w.alloc (.cells (cellsI L).toArray 3)) fun e w' => ∃ x : Int, e = .returned (.int .i64 x) ∧ P x ∧ Drw zs v B G (n + 2) w0 w' ∧ w.grownBy w' (some G) := by
  have hl := h.lt
  have ha := h.alloc (.cells (cellsI L).toArray 3)
  refine (among_any L (.slice (some ⟨w.heap.size, 0, none⟩) L.length L.length) w.heap.size P zs v B G n (w.alloc (.cells (cellsI L).toArray 3)) (own_lit L (Nat.le_refl _) h2) hP h1 h2 (by simp [Value.ownBlock]; omega) ha.rd ha.cur hB hn).mono ?_
  rintro e w1 ⟨x, rfl, hx, hc, hg⟩
  exact ⟨x, rfl, hx, ha.next hB hc hg, (grown_alloc _ _ _).trans hg⟩
end
end

section
open Go.RowKit

section
variable {zs : List Int} {v : Value} {B G n m : Nat} {w0 w w1 w2 : World}
theorem Drw.call (h : Drw zs v B G n w0 w) (hB : B ≤ G) (hb : Below w.heap.size w w1) : Drw zs v B G n w0 w1 := by
  have := h.lt
  exact ⟨h.rd.below hb (by omega), h.cur.call hb, h.gr.trans (grownB hb)⟩
theorem own_drw {e : TypeId} {sz k B2 : Nat} {u : Value} {xs : List Value} (ho : w.ownsRow B2 e sz u k xs) (hG : G < B2) (hg : w.grownBy w1 (some G)) : w1.ownsRow B2 e sz u k xs :=
  ho.kept hg (by
    cases hq : u.ownBlock with
    | none => exact .inl rfl
    | some q => exact .inr (fun he => by injection he with he; have := (ho.lt q hq).1; omega))

end
end
end Go.Proofs.Ytdhennlanngjgaa
