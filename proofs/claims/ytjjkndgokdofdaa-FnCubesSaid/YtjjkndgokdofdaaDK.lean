/- Parts DH DI laid together by tp.py. -/
import Derived.Test.YtjjkndgokdofdaaDZ
import Derived.Test.YtjjkndgokdofdaaDX
import Derived.Test.YtjjkndgokdofdaaUB
import Derived.Test.YtjjkndgokdofdaaK7
namespace Go.Proofs.Ytjjkndgokdofdaa
section
open Go.RowKit

/-- What a draw of a form gives. -/
def RetDf (w : World) (e : Ending) (w' : World) : Prop := ∃ f : Fm, e = .returned (.agg #[.int .i64 f.a, .int .i64 f.b, .int .i64 f.c]) ∧ Below w.heap.size w w'
theorem drw_start {zs : List Int} {v : Value} {B : Nat} {w : World} (hr : RdB zs v B w) : Drw zs v B w.heap.size 0 (w.alloc (.cells #[v, .int .i64 0, .int .u64 0] 69)) (w.alloc (.cells #[v, .int .i64 0, .int .u64 0] 69)) :=
  Drw.start (hr.grown (grown_alloc _ _ none) (fun k hk => by cases hk)) cur_start
theorem drw_start2 {zs : List Int} {v : Value} {B : Nat} {w : World} (r : Obj) (hr : RdB zs v B w) : Drw zs v B (w.heap.size + 1) 0 w ((w.alloc r).alloc (.cells #[v, .int .i64 0, .int .u64 0] 69)) := by
  have h := drw_start (w := w.alloc r) (hr.grown (grown_alloc _ _ none) (fun k hk => by cases hk))
  refine ⟨h.rd, by simpa using h.cur, (grown_alloc _ _ _).trans (grown_alloc _ _ _)⟩
theorem below_cur2 {w w' : World} (h : w.grownBy w' (some (w.heap.size + 1))) : Below w.heap.size w w' :=
  (Below.refl w.heap.size w).grown h (Nat.le_refl _) (fun k hk => by injection hk with hk; omega)
theorem retDf_mk {w w' : World} {zs : List Int} {v : Value} {B n : Nat} (x y z : Int) (h : Drw zs v B (w.heap.size + 1) n w w') : RetDf w (.returned (.agg #[.int .i64 x, .int .i64 y, .int .i64 z])) w' :=
  ⟨⟨x, y, z⟩, rfl, below_cur2 h.gr⟩
end

section
open Go.RowKit

theorem Drw.row {zs : List Int} {v : Value} {B G n : Nat} {w0 w1 w2 : World} {row : Option Nat} (h : Drw zs v B G n w0 w1) (hB : B ≤ G) (hg : w1.grownBy w2 row) (hr : ∀ q, row = some q → w0.heap.size ≤ q) (hG : G < w0.heap.size) : Drw zs v B G n w0 w2 := by
  refine ⟨h.rd.grown hg (fun k hk => by have := hr k hk; omega), ?_, ⟨hg.os.trans h.gr.os, hg.tape.trans h.gr.tape, hg.output.trans h.gr.output, Nat.le_trans h.gr.size hg.size, fun k hk hn => ?_⟩⟩
  · obtain ⟨p, s, h1, h2, h3, h4⟩ := h.cur
    exact ⟨p, s, h1, h2, h3, h4.grown hg (fun e => by have := hr G e.symm; omega)⟩
  · have h1 := h.gr.size
    rw [hg.block k (by omega) (fun e => by have := hr k e.symm; omega), h.gr.block k hk hn]
section
variable {zs : List Int} {v : Value} {B G n m : Nat} {w0 w w1 w2 : World}
theorem own_set_nq {w : World} {B2 k sz : Nat} {e : TypeId} {u x : Value} {xs : List Value} {p : Addr} (h : w.ownsRow B2 e sz u k xs) (hne : ∀ q, u.ownBlock = some q → q ≠ p.block) : (w.setCell p x).ownsRow B2 e sz u k xs :=
  h.kept (row := some p.block) ⟨rfl, rfl, rfl, by simp, fun k _ hn => Below.heap_setCell w p x k (fun e => hn (by rw [e]))⟩ (by
    cases hq : u.ownBlock with
    | none => exact .inl rfl
    | some q => exact .inr (fun he => by injection he with he; exact hne q hq he))
end
/-- What a draw of a list of forms gives. -/
def RetDl (w : World) (e : Ending) (w' : World) : Prop := ∃ (d : Int) (L : List Fm) (vl : Value), e = .returned (.tuple #[.int .i64 d, vl]) ∧ w'.ownsRow w.heap.size 33 3 vl L.length (cellsF L) ∧ L.length ≤ 30 ∧ Below w.heap.size w w'
def lenSl : Value → Nat
  | .slice _ n _ => n
  | _ => 0
def GnDr (zs : List Int) (v : Value) (B : Nat) (w W : World) (vl vk : Value) (wr : World) : Prop :=
  ∃ (k : Nat) (L : List Fm), vk = .int .i64 k ∧ L.length + k ≤ 3 ∧ Hid (Drw zs v B w.heap.size (90 - 26 * k) W wr) ∧ wr.ownsRow (w.heap.size + 1) 33 3 vl L.length (cellsF L)
def GnDr2 (zs : List Int) (v : Value) (B : Nat) (w W : World) (vl : Value) (wr : World) : Prop :=
  ∃ L : List Fm, L.length ≤ 21 ∧ Hid (Drw zs v B w.heap.size (100 + 2 * L.length) W wr) ∧ wr.ownsRow (w.heap.size + 1) 33 3 vl L.length (cellsF L)
end
end Go.Proofs.Ytjjkndgokdofdaa
