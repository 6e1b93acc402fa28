/- Contracts: drawn lists of primes. -/
import Derived.Test.YtdaofpjanklmeaaDY
import Derived.Test.YtdaofpjanklmeaaDX
import Derived.Test.YtdaofpjanklmeaaN5
import Derived.Test.YtdaofpjanklmeaaPB
namespace Go.Proofs.Ytdaofpjanklmeaa
open Go.RowKit

theorem drw_startF {zs : List Int} {v : Value} {B : Nat} {w : World} (hr : RdB zs v B w) : Drw zs v B w.heap.size 0 (w.alloc (.cells #[v, .int .i64 0, .int .u64 0] 117)) (w.alloc (.cells #[v, .int .i64 0, .int .u64 0] 117)) :=
  Drw.start (hr.grown (grown_alloc _ _ none) (fun k hk => by cases hk)) cur_start
theorem Drw.rowF {zs : List Int} {v : Value} {B G n : Nat} {w0 w1 w2 : World} {row : Option Nat} (h : Drw zs v B G n w0 w1) (hB : B ≤ G) (hg : w1.grownBy w2 row) (hr : ∀ q, row = some q → w0.heap.size ≤ q) (hG : G < w0.heap.size) : Drw zs v B G n w0 w2 := by
  refine ⟨h.rd.grown hg (fun k hk => by have := hr k hk; omega), ?_, ⟨hg.os.trans h.gr.os, hg.tape.trans h.gr.tape, hg.output.trans h.gr.output, Nat.le_trans h.gr.size hg.size, fun k hk hn => ?_⟩⟩
  · obtain ⟨p, s, h1, h2, h3, h4⟩ := h.cur
    exact ⟨p, s, h1, h2, h3, h4.grown hg (fun e => by have := hr G e.symm; omega)⟩
  · have h1 := h.gr.size
    rw [hg.block k (by omega) (fun e => by have := hr k e.symm; omega), h.gr.block k hk hn]
theorem own_set_nqF {w : World} {B2 k sz : Nat} {e : TypeId} {u x : Value} {xs : List Value} {p : Addr} (h : w.ownsRow B2 e sz u k xs) (hne : ∀ q, u.ownBlock = some q → q ≠ p.block) : (w.setCell p x).ownsRow B2 e sz u k xs :=
  h.kept (row := some p.block) ⟨rfl, rfl, rfl, by simp, fun k _ hn => Below.heap_setCell w p x k (fun e => hn (by rw [e]))⟩ (by
    cases hq : u.ownBlock with
    | none => exact .inl rfl
    | some q => exact .inr (fun he => by injection he with he; exact hne q hq he))
/-- What a draw of a list of integers gives. -/
def RetIl (G n m : Nat) (zs : List Int) (v : Value) (B : Nat) (w0 w : World) (e : Ending) (w' : World) : Prop := ∃ (L : List Int) (vl : Value), e = .returned vl ∧ w'.ownsRow w.heap.size 3 1 vl L.length (cellsI L) ∧ L.length ≤ m ∧ Drw zs v B G n w0 w' ∧ w.grownBy w' (some G)
section
variable {zs : List Int} {v : Value} {B G n m : Nat} {w0 w : World}
def FbSt (zs : List Int) (v : Value) (B G n : Nat) (w : World) (vl vn : Value) (wr : World) : Prop :=
  ∃ (k : Nat) (L : List Int), vn = .int .i64 k ∧ L.length + k ≤ 7 ∧ Hid (Drw zs v B G (n + 2 + 14 * L.length) w wr) ∧ wr.ownsRow w.heap.size 3 1 vl L.length (cellsI L)
def FbIn (zs : List Int) (v : Value) (B G n : Nat) (L : List Int) (w : World) (vl vp vk : Value) (wr : World) : Prop :=
  ∃ (k : Nat) (p : Int), vk = .int .i64 k ∧ vp = .int .i64 p ∧ k ≤ 6 ∧ Hid (Drw zs v B G (n + 2 + 14 * L.length + 2 + 2 * k) w wr) ∧ wr.ownsRow w.heap.size 3 1 vl L.length (cellsI L)
theorem among_at (h : Drw zs v B G n w0 w) (hB : B ≤ G) (L : List Int) (P : Int → Prop) (hP : ∀ x ∈ L, P x) (h1 : 1 ≤ L.length) (h2 : L.length ≤ 1000) (hn : n + 2 ≤ 100000000) {N k : Nat} {xs : Array Value} (hN : N = w.heap.size) (hk : L.length = k) (hxs : (cellsI L).toArray = xs) :
    Calls Try.prog 170 #[.pointer (some ⟨G, 0, none⟩), .slice (some ⟨N, 0, none⟩) k k] (w.alloc (.cells xs 3)) fun e w' => ∃ x : Int, e = .returned (.int .i64 x) ∧ P x ∧ Drw zs v B G (n + 2) w0 w' ∧ w.grownBy w' (some G) := by
  subst hN hk hxs
  exact among_d h hB L P hP h1 h2 hn
end
end Go.Proofs.Ytdaofpjanklmeaa
