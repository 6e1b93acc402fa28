/- Contracts: drawn lists of primes. -/
import Derived.Test.YteehcjjhkphdnaaGreatDY
import Derived.Test.YteehcjjhkphdnaaGreatDX
import Derived.Test.YteehcjjhkphdnaaGreatN5
import Derived.Test.YteehcjjhkphdnaaGreatPB
namespace Go.Proofs.YteehcjjhkphdnaaGreat
open Go.RowKit

theorem drw_startF {zs : List Int} {v : Value} {B : Nat} {w : World} (hr : RdB zs v B w) : Drw zs v B w.heap.size 0 (w.alloc (.cells #[v, .int .i64 0, .int .u64 0] 95)) (w.alloc (.cells #[v, .int .i64 0, .int .u64 0] 95)) :=
  Drw.start (hr.grown (grown_alloc _ _ none) (fun k hk => by cases hk)) cur_start
theorem Drw.rowF {zs : List Int} {v : Value} {B G n : Nat} {w0 w1 w2 : World} {row : Option Nat} (h : Drw zs v B G n w0 w1) (hB : B ≤ G) (hg : w1.grownBy w2 row) (hr : ∀ q, row = some q → w0.heap.size ≤ q) (hG : G < w0.heap.size) : Drw zs v B G n w0 w2 := by
  refine ⟨h.rd.grown hg (fun k hk => by have := hr k hk; omega), ?_, ⟨hg.os.trans h.gr.os, hg.tape.trans h.gr.tape, hg.output.trans h.gr.output, Nat.le_trans h.gr.size hg.size, fun k hk hn => ?_⟩⟩
  · obtain ⟨p, s, h1, h2, h3, h4⟩ := h.cur
    exact ⟨p, s, h1, h2, h3, h4.grown hg (fun e => by have := hr G e.symm; omega)⟩
  · have h1 := h.gr.size
    rw [hg.block k (by omega) (fun e => by have := hr k e.symm; omega), h.gr.block k hk hn]
theorem own_set_nqF {w : World} {B2 k sz : Nat} {e : TypeId} {u x : Value} {xs : List Value} {p : Addr} (h : w.ownsRow B2 e sz u k xs) (hne : ∀ q, u.ownBlock = some q → q ≠ p.block) : (w.setCell p x).ownsRow B2 e sz u k xs :=
  h.kept (row := some p.block) ⟨rfl, rfl, rfl, by simp, fun k _ hn => Below.heap_setCell w p x k (fun e => hn (by rw [e]))⟩ (by
    cases hq : u.ownBlock with
    | none => exact .inl rfl
    | some q => exact .inr (fun he => by injection he with he; exact hne q hq he))
/-- What a draw of a list of integers gives. -/
def RetIl (G n m : Nat) (zs : List Int) (v : Value) (B : Nat) (w0 w : World) (e : Ending) (w' : World) : Prop := ∃ (L : List Int) (vl : Value), e = .returned vl ∧ w'.ownsRow w.heap.size 3 1 vl L.length (cellsI L) ∧ L.length ≤ m ∧ Drw zs v B G n w0 w' ∧ w.grownBy w' (some G)
section
variable {zs : List Int} {v : Value} {B G n m : Nat} {w0 w : World}
def FbSt (zs : List Int) (v : Value) (B G n : Nat) (w : World) (vl vn : Value) (wr : World) : Prop :=
  ∃ (k : Nat) (L : List Int), vn = .int .i64 k ∧ L.length + k ≤ 7 ∧ Hid (Drw zs v B G (n + 2 + 14 * L.length) w wr) ∧ wr.ownsRow w.heap.size 3 1 vl L.length (cellsI L)
def FbIn (zs : List Int) (v : Value) (B G n : Nat) (L : List Int) (w : World) (vl vp vk : Value) (wr : World) : Prop :=
  ∃ (k : Nat) (p : Int), vk = .int .i64 k ∧ vp = .int .i64 p ∧ k ≤ 6 ∧ Hid (Drw zs v B G (n + 2 + 14 * L.length + 2 + 2 * k) w wr) ∧ wr.ownsRow w.heap.size 3 1 vl L.length (cellsI L)
theorem among_at (h : Drw zs v B G n w0 w) (hB : B ≤ G) (L : List Int) (P : Int → Prop) (hP : ∀ x ∈ L, P x) (h1 : 1 ≤ L.length) (h2 : L.length ≤ 1000) (hn : n + 2 ≤ 100000000) {N k : Nat} {xs : Array Value} (hN : N = w.heap.size) (hk : L.length = k) (hxs : (cellsI L).toArray = xs) :
    Calls Tryz.prog 84 #[.pointer (some ⟨G, 0, none⟩), .slice (some ⟨N, 0, none⟩) k k] (w.alloc (.cells xs 3)) fun e w' => ∃ x : Int, e = .returned (.int .i64 x) ∧ P x ∧ Drw zs v B G (n + 2) w0 w' ∧ w.grownBy w' (some G) := by
  subst hN hk hxs
  exact among_d h hB L P hP h1 h2 hn
set_option maxRecDepth 100000 in
set_option maxHeartbeats 6400000 in
theorem factorBase_d (h : Drw zs v B G n w0 w) (hB : B ≤ G) (hn : n + 100 ≤ 100000000) (d : Int) :
    Calls Tryz.prog 83 #[.pointer (some ⟨G, 0, none⟩), .int .i64 d] w (RetIl G (n + 100) 7 zs v B w0 w) := by
  obtain ⟨i0, hi, hz0, hz1, hz2⟩ := info_parts infoInt
  have H := Lib.hid h
  have lG0 := h.lt
  have hD0 := Lib.hid (Drw.start h.rd h.cur)
  clear h
  have hfin := Lib.hid (fun (L : List Int) (vl : Value) (w' : World) (k : Nat) (hd : Drw zs v B G k w w') (hk : k ≤ n + 100) (ho : w'.ownsRow w.heap.size 3 1 vl L.length (cellsI L)) (hl : L.length ≤ 7) => (⟨L, vl, rfl, ho, hl, (H.out.next hB hd.cur hd.gr).more hk, hd.gr⟩ : RetIl G (n + 100) 7 zs v B w0 w (.returned vl) w'))
  have hRD := Lib.hid (fun w => reDisc_any d w)
  have hPF := Lib.hid (fun p w => specPF_any d p w)
  go_enter Tryz.func83, Tryz.ntmps83
  go_wp2_with fail
  refine (among_at (w := w) (Hid.out hD0) hB [1, 1, 2, 2, 3, 3, 6, 7, 0] (fun x => 0 ≤ x ∧ x ≤ 7) (by simp) (by simp) (by simp) (by omega) rfl rfl rfl).mono ?_
  rintro e v1 ⟨x1, rfl, ⟨hx1, hx1'⟩, hD1', hG1⟩
  obtain ⟨k1, rfl⟩ : ∃ k : Nat, x1 = k := ⟨x1.toNat, by omega⟩
  have hD1 := Lib.hid hD1'
  clear hD1' hG1 hD0 H
  go_wp2
  go_loopw [5, 6] (fun vl vn wr => FbSt zs v B G n w vl vn wr) (fun _ vn _ => (intOf vn).toNat)
  case atStart => exact ⟨k1, [], rfl, by simp; omega, Lib.hid hD1.out, World.ownsRow_nil _ _ _ _⟩
  case round =>
    clear hD1 hx1 hx1'
    obtain ⟨k, L, rfl, hk, hD, hown⟩ := hrel
    have lG := hD.out.lt
    have zz := hD.out.size
    by_cases hk0 : k = 0
    · subst hk0
      go_wp2
      go_ret
      exact hfin.out L _ _ _ hD.out (by omega) hown (by omega)
    · obtain ⟨j, rfl⟩ : ∃ j, k = j + 1 := ⟨k - 1, by omega⟩
      have hk1 : 0 < ((j + 1 : Nat) : Int) := by omega
      have hk2 : wrap64 (((j + 1 : Nat) : Int) - 1) = (j : Int) := by rw [IntWalk.wrap64_in _ (by omega)]; omega
      go_wp2_with fail
      refine (among_at (w := wr) (Hid.out hD) hB [2, 3, 5, 7, 11, 13, 17, 19, 23] (fun _ => True) (by simp) (by simp) (by simp) (by omega) rfl rfl rfl).mono ?_
      rintro e v2 ⟨p2, rfl, _, hD2', hG2⟩
      have hD2 := Lib.hid hD2'
      have ho2 := own_drw hown (by omega) hG2
      clear hD2' hG2 hown hD
      go_wp2
      obtain ⟨wo, rfl⟩ : ∃ wo : World, wo = wr := ⟨_, rfl⟩
      go_loopw [7, 8] (fun vp vk wr => FbIn zs v B G n L w u5 vp vk wr) (fun _ vk _ => 6 - (intOf vk).toNat)
      case atStart => exact ⟨0, p2, rfl, rfl, by omega, Lib.hid (hD2.out.more (by omega)), ho2⟩
      case round =>
        clear hD2 ho2 zz lG
        obtain ⟨i, p, rfl, rfl, hi6, hD, hown⟩ := hrel
        have lG := hD.out.lt
        have zz := hD.out.size
        by_cases hlt : i < 6
        · have hP := Lib.hid (hPF.out p)
          generalize (pfV (prF d p)) = f at hP
          generalize (prF d p).isSome = b at hP
          go_wp2_with fail
          refine (hP.out _).mono ?_
          rintro e v3 ⟨rfl, hB3⟩
          have hz3 := hB3.size
          have hD3 : Drw zs v B G _ w v3 := Drw.call (w := _) (Hid.out hD) hB hB3
          have lG3 := hD3.lt
          have ho3 := own_call hB3 hown
          have hD3a := Lib.hid (hD3.alloc (.cells #[.int .i64 f.a, .int .i64 f.b, .int .i64 f.c] 36))
          have ho3a := own_alloc (o := .cells #[.int .i64 f.a, .int .i64 f.b, .int .i64 f.c] 36) ho3
          clear hD3 ho3 hB3 hown hD hP
          cases b with
          | true =>
            go_wp2
            go_roundw
            case rel => exact ⟨i + 1, p, by simp, rfl, by omega, Lib.hid (hD3a.out.more (by omega)), ho3a⟩
            case measure => simp [intOf]; omega
          | false =>
            cases hc : isDisc d with
            | false =>
              rw [hc] at hRD
              go_wp2_with (go_at_call 74; (with_reducible refine (hRD.out _).mono ?_); rintro e v ⟨rfl, rfl⟩)
              go_roundw
              case rel => exact ⟨i + 1, p, by simp, rfl, by omega, Lib.hid (hD3a.out.more (by omega)), ho3a⟩
              case measure => simp [intOf]; omega
            | true =>
              rw [hc] at hRD
              go_wp2_with (go_at_call 74; (with_reducible refine (hRD.out _).mono ?_); rintro e v ⟨rfl, rfl⟩)
              refine (among_at (Hid.out hD3a) hB [2, 3, 5, 7, 11, 13, 17, 19, 23, 29, 31, 37] (fun _ => True) (by simp) (by simp) (by simp) (by omega) (by simp) rfl rfl).mono ?_
              rintro e v4 ⟨p4, rfl, _, hD4', hG4⟩
              have ho4 := own_drw ho3a (by omega) hG4
              go_wp2
              go_roundw
              case rel => exact ⟨i + 1, p4, by simp, rfl, by omega, Lib.hid (hD4'.more (by omega)), ho4⟩
              case measure => simp [intOf]; omega
        · obtain rfl : i = 6 := by omega
          go_wp2_with (at_builtin; refine wpList_append_own _ rfl (.tmp 40) (.tmp 42) 32 rfl w.heap.size 3 i0 _ 1 8 Tryz.underlying32 hi hz0 hz1 hz2 rfl (by decide) u5 L.length (cellsI L) rfl ?_ ⟨wr.heap.size, 0, none⟩ 1 1 [.int .i64 p] rfl rfl ?_ (one1 _) ?_ ?_ ?_ ?_; exact (by repeat (first | with_reducible assumption | with_reducible apply own_alloc | with_reducible apply own_drew | with_reducible apply own_drewN | (with_reducible refine own_setp (by assumption) ?_ ?_; (first | omega | (simp <;> omega))) | (with_reducible refine own_call (by assumption) ?_))); exact cells1 (Blk.new_at (by simp)); (unfold maxLen; omega); omega; (simp; omega); intro v7 w7 hown7 hg7 _)
          have ho7 := own_snocI (L := L) (K := L ++ [p]) rfl hown7
          have hd7 : Drw zs v B G (_) w w7 := Drw.rowF (by exact (by repeat (first | with_reducible assumption | (with_reducible apply Hid.out; assumption) | with_reducible apply Drw.drewN | with_reducible apply Drw.drew | with_reducible apply Drw.alloc | (with_reducible refine Drw.setp ?_ ?_ ?_ ?_; (first | omega | (simp <;> omega)); (first | omega | (simp <;> omega)); (first | omega | (simp <;> omega)))))) hB hg7 (fun q hq => own_ge hown q hq) lG0
          go_wp2
          go_roundw
          case rel => exact ⟨j, L ++ [p], by simp, by simp; omega, Lib.hid (hd7.more (by simp; omega)), ho7⟩
          case measure => simp [intOf]
end
end Go.Proofs.YteehcjjhkphdnaaGreat
