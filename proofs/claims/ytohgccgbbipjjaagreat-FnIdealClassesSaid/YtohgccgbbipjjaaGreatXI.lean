/- Parts ZK ZM ZN ZO ZP ZQ laid together by tp.py. -/
import Derived.Test.YtohgccgbbipjjaaGreatZC
import Derived.Test.YtohgccgbbipjjaaGreatXC
import Derived.Test.YtohgccgbbipjjaaGreatRU
import Derived.Test.YtohgccgbbipjjaaGreatR8
import Derived.Deep.RegionHeld3
import Derived.Test.YtohgccgbbipjjaaGreatUB
import Derived.Test.YtohgccgbbipjjaaGreatXG
import Derived.Test.YtohgccgbbipjjaaGreatGU
import Derived.Test.YtohgccgbbipjjaaGreatRY
namespace Go.Proofs.YtohgccgbbipjjaaGreat
section
open Go.RowKit

set_option maxRecDepth 100000 in
set_option maxHeartbeats 6400000 in
theorem disc_anyE (zs : List Int) (v : Value) (B G n : Nat) (w : World) (hr : RdB zs v B w) (hc : Cur v G n w) (hB : B ≤ G) (hn : n + 4 ≤ 100000000) :
    Calls Tryz.prog 55 #[.pointer (some ⟨G, 0, none⟩)] w (RetPk DrawnE v G (n + 4) w) := by
  have HR := Lib.hid hr
  have HC := Lib.hid hc
  clear hr hc
  go_enter Tryz.func55, Tryz.ntmps55
  go_wp2_with fail
  refine (pick_any 16 zs v B G n w HR.out HC.out hB (by omega) (by omega)).mono ?_
  rintro e w1 ⟨b, rfl, hb, hc1, hg1⟩
  have HC1 := Lib.hid hc1
  have hg1' := Lib.hid hg1
  have HR1 := Lib.hid (HR.out.grown hg1 (fun k hk => by injection hk with hk; omega))
  have hlt1 := hc1.lt
  have hne1 : ¬ G = w1.heap.size := by omega
  clear hc1 hg1
  have hpk := Lib.hid (fun (m : Int) (hm : m ≤ 1000000000) => pick_any m zs v B G (n + 2) w1 HR1.out HC1.out hB (by omega) hm)
  have ham := Lib.hid (fun (L : List Int) (h1 : 1 ≤ L.length) (h2 : L.length ≤ 1000) (hP : ∀ x ∈ L, DrawnE x) => among_any L (.slice (some ⟨w1.heap.size, 0, none⟩) L.length L.length) w1.heap.size DrawnE zs v B G (n + 2) (w1.alloc (.cells (cellsI L).toArray 3)) (own_lit L (Nat.le_refl _) h2) hP h1 h2 (by simp [Value.ownBlock]; omega) (HR1.out.grown (grown_alloc _ _ none) (fun k hk => by cases hk)) (HC1.out.call ((Below.refl _ _).alloc (Nat.le_refl _) _)) hB (by omega))
  by_cases e0 : b = 0
  · subst e0
    clear hb
    go_wp2_with fail
    refine (ham.out [-3, -4, -2000, -1999, -1996, -1995, -163, -2001, -2003, -2004, 0, 1, 5, -1, -2, -5, -9223372036854775808] (by decide) (by decide) (by unfold DrawnE; decide)).mono ?_
    rintro e w2 ⟨x, rfl, hx, hc2, hg2⟩
    go_wp2
    go_ret
    exact RetPk.from hx hc2 (by omega) hg1'.out ((grown_alloc _ _ _).trans hg2)
  · by_cases e1 : b = 1 ∨ b = 2
    · have e2 : (b == 1) = true ∨ (b == 1) = false ∧ (b == 2) = true := by
        rcases e1 with rfl | rfl
        · exact .inl rfl
        · exact .inr ⟨rfl, rfl⟩
      clear e1 hb
      rcases e2 with e2 | ⟨e2, e3⟩
      all_goals
        go_wp2_with fail
        refine (hpk.out 1998 (by decide)).mono ?_
        rintro e w2 ⟨x, rfl, hx, hc2, hg2⟩
        have HC2 := Lib.hid hc2
        have hg2' := Lib.hid hg2
        have hx2 : 0 ≤ x ∧ x ≤ 1997 := by omega
        clear hx hc2 hg2
        go_wp2_with fail
        refine (nuMod_any (-3 - x) 4 _ (by decide) (by decide)).mono ?_
        rintro e w3 ⟨rfl, rfl⟩
        by_cases hm : 1 < (-3 - x) % 4
        · go_wp2_with fail
          refine (l1Most_any (-2000) (-3 - x - 2) _).mono ?_
          rintro e w3 ⟨rfl, rfl⟩
          go_wp2
          go_ret
          exact RetPk.from (by unfold DrawnE; omega) HC2.out (by omega) hg1'.out hg2'.out
        · go_wp2
          go_ret
          exact RetPk.from (by unfold DrawnE; omega) HC2.out (by omega) hg1'.out hg2'.out
    · by_cases e3 : b = 3 ∨ b = 4 ∨ b = 5
      · have e2 : (b == 3) = true ∨ (b == 3) = false ∧ ((b == 4) = true ∨ (b == 4) = false ∧ (b == 5) = true) := by
          rcases e3 with rfl | rfl | rfl
          · exact .inl rfl
          · exact .inr ⟨rfl, .inl rfl⟩
          · exact .inr ⟨rfl, .inr ⟨rfl, rfl⟩⟩
        have n0 : (b == 0) = false := by rw [beq_eq_false_iff_ne]; exact e0
        have n1 : (b == 1) = false := by rw [beq_eq_false_iff_ne]; omega
        have n2 : (b == 2) = false := by rw [beq_eq_false_iff_ne]; omega
        clear e1 hb e0 e3
        rcases e2 with e2 | ⟨e2, e2 | ⟨e3, e4⟩⟩
        all_goals
          go_wp2_with fail
          refine (ham.out [-84, -420, -231, -260, -455, -520, -660, -1155, -1320, -1380, -1428, -1540, -399, -1092, -1560, -1785] (by decide) (by decide) (by unfold DrawnE; decide)).mono ?_
          rintro e w2 ⟨x, rfl, hx, hc2, hg2⟩
          go_wp2
          go_ret
          exact RetPk.from hx hc2 (by omega) hg1'.out ((grown_alloc _ _ _).trans hg2)
      · have n0 : (b == 0) = false := by rw [beq_eq_false_iff_ne]; exact e0
        have n1 : (b == 1) = false := by rw [beq_eq_false_iff_ne]; omega
        have n2 : (b == 2) = false := by rw [beq_eq_false_iff_ne]; omega
        have n3 : (b == 3) = false := by rw [beq_eq_false_iff_ne]; omega
        have n4 : (b == 4) = false := by rw [beq_eq_false_iff_ne]; omega
        have n5 : (b == 5) = false := by rw [beq_eq_false_iff_ne]; omega
        have e2 : (b == 6) = true ∨ (b == 6) = false ∧ ((b == 7) = true ∨ (b == 7) = false) := by
          cases (b == 6) <;> cases (b == 7) <;> simp
        clear e1 hb e0 e3
        rcases e2 with e2 | ⟨e2, e3 | e3⟩
        · go_wp2_with fail
          refine (hpk.out 60 (by decide)).mono ?_
          rintro e w2 ⟨x, rfl, hx, hc2, hg2⟩
          have HC2 := Lib.hid hc2
          have hg2' := Lib.hid hg2
          have hx2 : 0 ≤ x ∧ x ≤ 59 := by omega
          clear hx hc2 hg2
          go_wp2
          go_ret
          exact RetPk.from (by unfold DrawnE; omega) HC2.out (by omega) hg1'.out hg2'.out
        · go_wp2_with fail
          refine (hpk.out 60 (by decide)).mono ?_
          rintro e w2 ⟨x, rfl, hx, hc2, hg2⟩
          have HC2 := Lib.hid hc2
          have hg2' := Lib.hid hg2
          have hx2 : 0 ≤ x ∧ x ≤ 59 := by omega
          clear hx hc2 hg2
          go_wp2
          go_ret
          exact RetPk.from (by unfold DrawnE; omega) HC2.out (by omega) hg1'.out hg2'.out
        · go_wp2_with fail
          refine (hpk.out 50 (by decide)).mono ?_
          rintro e w2 ⟨x, rfl, hx, hc2, hg2⟩
          have HC2 := Lib.hid hc2
          have hg2' := Lib.hid hg2
          have hx2 : 0 ≤ x ∧ x ≤ 49 := by omega
          clear hx hc2 hg2
          go_wp2
          go_ret
          exact RetPk.from (by unfold DrawnE; omega) HC2.out (by omega) hg1'.out hg2'.out
section
variable {zs : List Int} {v : Value} {B G n m : Nat} {w0 w w1 w2 : World}
theorem disc_dE (h : Drw zs v B G n w0 w) (hB : B ≤ G) (hn : n + 4 ≤ 100000000) :
    Calls Tryz.prog 55 #[.pointer (some ⟨G, 0, none⟩)] w fun e w' => ∃ x : Int, e = .returned (.int .i64 x) ∧ DrawnE x ∧ Drw zs v B G (n + 4) w0 w' ∧ w.grownBy w' (some G) := by
  refine (disc_anyE zs v B G n w h.rd h.cur hB hn).mono ?_
  rintro e w1 ⟨x, rfl, hx, hc, hg⟩
  exact ⟨x, rfl, hx, h.next hB hc hg, hg⟩
end
section
variable {zs : List Int} {v : Value} {B G n m : Nat} {w0 w w1 w2 : World}
set_option maxRecDepth 100000 in
set_option maxHeartbeats 3200000 in
theorem fund_d (h : Drw zs v B G n w0 w) (hB : B ≤ G) (hn : n + 6 ≤ 100000000) :
    Calls Tryz.prog 20 #[.pointer (some ⟨G, 0, none⟩)] w fun e w' => ∃ x : Int, e = .returned (.int .i64 x) ∧ DrawnE x ∧ Drw zs v B G (n + 6) w0 w' ∧ w.grownBy w' (some G) := by
  have H := Lib.hid h
  have hD0 := Lib.hid (Drw.start h.rd h.cur)
  clear h
  have hfin : Hid (∀ (x : Int) (w' : World), DrawnE x → Drw zs v B G (n + 6) w w' → ∃ y : Int, Ending.returned (.int .i64 x) = .returned (.int .i64 y) ∧ DrawnE y ∧ Drw zs v B G (n + 6) w0 w' ∧ w.grownBy w' (some G)) :=
    Lib.hid (fun x w' hx hd => ⟨x, rfl, hx, H.out.next hB hd.cur hd.gr, hd.gr⟩)
  go_enter Tryz.func20, Tryz.ntmps20
  go_wp2_with fail
  refine (disc_dE (by repeat (first | with_reducible assumption | (with_reducible apply Hid.out; assumption) | with_reducible apply Drw.drewN | with_reducible apply Drw.drew | with_reducible apply Drw.alloc | (with_reducible refine Drw.setp ?_ ?_ ?_ ?_; (first | omega | (simp <;> omega)); (first | omega | (simp <;> omega)); (first | omega | (simp <;> omega))))) hB (by omega)).mono ?_
  rintro e v1 ⟨x1, rfl, hx1', hD1', hG1⟩
  have hD1 := Lib.hid hD1'
  have hx1 := Lib.hid hx1'
  clear hD1' hx1' hD0
  go_wp2_with fail
  refine (one_d (n := n + 4) (by repeat (first | with_reducible assumption | (with_reducible apply Hid.out; assumption) | with_reducible apply Drw.drewN | with_reducible apply Drw.drew | with_reducible apply Drw.alloc | (with_reducible refine Drw.setp ?_ ?_ ?_ ?_; (first | omega | (simp <;> omega)); (first | omega | (simp <;> omega)); (first | omega | (simp <;> omega))))) hB 12 (by omega) (by omega)).mono ?_
  rintro e v2 ⟨x2, rfl, _, hD2', hG2⟩
  have hD2 := Lib.hid hD2'
  clear hD2' hD1 hG2 hG1
  have hRD := Lib.hid (fun w => reDisc_any x1 w)
  cases x2 with
  | true =>
    go_wp2
    go_ret
    exact hfin.out _ _ hx1.out (by repeat (first | with_reducible assumption | (with_reducible apply Hid.out; assumption) | with_reducible apply Drw.drewN | with_reducible apply Drw.drew | with_reducible apply Drw.alloc | (with_reducible refine Drw.setp ?_ ?_ ?_ ?_; (first | omega | (simp <;> omega)); (first | omega | (simp <;> omega)); (first | omega | (simp <;> omega)))))
  | false =>
    cases hc : isDisc x1 with
    | false =>
      rw [hc] at hRD
      clear hc
      go_wp2_with (go_at_call 56; (with_reducible refine (hRD.out _).mono ?_); rintro e v ⟨rfl, rfl⟩)
      go_ret
      exact hfin.out _ _ hx1.out (by repeat (first | with_reducible assumption | (with_reducible apply Hid.out; assumption) | with_reducible apply Drw.drewN | with_reducible apply Drw.drew | with_reducible apply Drw.alloc | (with_reducible refine Drw.setp ?_ ?_ ?_ ?_; (first | omega | (simp <;> omega)); (first | omega | (simp <;> omega)); (first | omega | (simp <;> omega)))))
    | true =>
      rw [hc] at hRD
      have hbd : -2000 ≤ x1 ∧ x1 ≤ -3 := by unfold isDisc at hc; simp at hc; omega
      clear hc
      go_wp2_with (go_at_call 56; (with_reducible refine (hRD.out _).mono ?_); rintro e v ⟨rfl, rfl⟩)
      go_loop [3] (fun v3 => ∃ k : Int, v3 = .int .i64 k ∧ -2000 ≤ k ∧ k ≤ -3) (fun v3 => (-(intOf v3)).toNat)
      case atStart => exact ⟨x1, rfl, hbd.1, hbd.2⟩
      case round =>
        clear hbd hRD hx1
        obtain ⟨k, rfl, k1, k2⟩ := hrel
        have hE := Lib.hid (show DrawnE k from .inl ⟨by omega, by omega⟩)
        have hP := Lib.hid (fun w => piDisc_any k w hE.out)
        have hw1 : wrap64 (k + 1) = k + 1 := IntWalk.wrap64_in _ (by omega)
        cases hp : piB k with
        | true =>
          rw [hp] at hP
          clear hp
          go_wp2_with (go_at_call 37; (with_reducible refine (hP.out _).mono ?_); rintro e v ⟨rfl, rfl⟩)
          go_ret
          exact hfin.out _ _ hE.out (by repeat (first | with_reducible assumption | (with_reducible apply Hid.out; assumption) | with_reducible apply Drw.drewN | with_reducible apply Drw.drew | with_reducible apply Drw.alloc | (with_reducible refine Drw.setp ?_ ?_ ?_ ?_; (first | omega | (simp <;> omega)); (first | omega | (simp <;> omega)); (first | omega | (simp <;> omega)))))
        | false =>
          rw [hp] at hP
          clear hp
          by_cases hk : k < -3
          · go_wp2_with (go_at_call 37; (with_reducible refine (hP.out _).mono ?_); rintro e v ⟨rfl, rfl⟩)
            exact ⟨⟨k + 1, rfl, by omega, by omega⟩, by simp [intOf]; omega⟩
          · go_wp2_with (go_at_call 37; (with_reducible refine (hP.out _).mono ?_); rintro e v ⟨rfl, rfl⟩)
            go_ret
            exact hfin.out _ _ hE.out (by repeat (first | with_reducible assumption | (with_reducible apply Hid.out; assumption) | with_reducible apply Drw.drewN | with_reducible apply Drw.drew | with_reducible apply Drw.alloc | (with_reducible refine Drw.setp ?_ ?_ ?_ ?_; (first | omega | (simp <;> omega)); (first | omega | (simp <;> omega)); (first | omega | (simp <;> omega)))))
end
theorem infoIdK : (Tryz.prog.info? 25).map (fun i => (i.zero, i.size, i.bytes)) = some (some (.agg #[.int .i64 0, .int .i64 0, .int .i64 0]), 3, 24) := by kernel_rfl
theorem own_oneK {w : World} {B g : Nat} {e : TypeId} (x y z : Int) (hg : g = w.heap.size) (hB : B ≤ w.heap.size) : (w.alloc (.cells #[.int .i64 x, .int .i64 y, .int .i64 z] e)).ownsRow B e 3 (.slice (some ⟨g, 0, none⟩) 1 1) [(⟨x, y, z⟩ : Fm)].length (cellsF [(⟨x, y, z⟩ : Fm)]) := by
  subst hg
  exact ⟨rfl, .inr ⟨w.heap.size, 1, #[.int .i64 x, .int .i64 y, .int .i64 z], rfl, hB, heap_alloc_new w _, Nat.le_refl _, by unfold maxLen; omega, rfl, rfl⟩⟩
theorem idv_over {d p b : Int} (hd : isDisc d = true) (h2 : 2 ≤ p) (h3 : p ≤ 23) (b0 : 0 ≤ b) (b1 : b < 2 * p) (h : (b * b - d) % (4 * p) = 0) : IdV d 1 p b := ⟨hd, by omega, by omega, by omega, by omega, b0, b1, h⟩
theorem idv_inert {d p : Int} (hd : isDisc d = true) (h2 : 1 ≤ p) (h3 : p ≤ 23) : IdV d p 1 (d % 2) := by
  have h4 : d % 4 < 2 := by unfold isDisc at hd; simp at hd; omega
  refine ⟨hd, by omega, by omega, by omega, by omega, by omega, by omega, ?_⟩
  have h5 : d % 2 = 0 ∨ d % 2 = 1 := by omega
  rcases h5 with h5 | h5 <;> rw [h5] <;> omega
/-- Prime ideals over a prime, in new memory. -/
def RetPo (d : Int) (w : World) (e : Ending) (w' : World) : Prop := ∃ (L : List Fm) (v : Value), e = .returned v ∧ 1 ≤ L.length ∧ L.length ≤ 46 ∧ (∀ f ∈ L, IdV d f.a f.b f.c) ∧ w'.ownsRow w.heap.size 25 3 v L.length (cellsF L) ∧ Below w.heap.size w w'
set_option maxRecDepth 100000 in
set_option maxHeartbeats 3200000 in
theorem piOver_any (d p : Int) (w : World) (hd : isDisc d = true) (h2 : 2 ≤ p) (h3 : p ≤ 23) : Calls Tryz.prog 60 #[.int .i64 d, .int .i64 p] w (RetPo d w) := by
  obtain ⟨i0, hi, hz0, hz1, hz2⟩ := info_parts infoIdK
  have hov := Lib.hid (fun b => idv_over (b := b) hd h2 h3)
  have hin := Lib.hid (idv_inert (p := p) hd (by omega) h3)
  have hbd : -2000 ≤ d ∧ d ≤ -3 := by unfold isDisc at hd; simp at hd; omega
  have hM := Lib.hid (fun w => nuMod_any d 2 w (by omega) (by omega))
  have W2 : wrap64 (2 * p) = 2 * p := IntWalk.wrap64_in _ (by omega)
  have W4 : wrap64 (4 * p) = 4 * p := IntWalk.wrap64_in _ (by omega)
  clear hd
  generalize d % 2 = r at *
  go_enter Tryz.func60, Tryz.ntmps60
  go_wp2
  go_loopw [5, 6] (fun vl vi wr => ∃ (k : Int) (L : List Fm), vi = .int .i64 k ∧ 0 ≤ k ∧ k ≤ 2 * p ∧ (L.length : Int) ≤ k ∧ Hid (∀ f ∈ L, IdV d f.a f.b f.c) ∧ wr.ownsRow w.heap.size 25 3 vl L.length (cellsF L) ∧ Below w.heap.size w wr) (fun _ vi _ => (2 * p - intOf vi).toNat)
  case atStart => exact ⟨0, [], rfl, by omega, by omega, by simp, Lib.hid (by simp), World.ownsRow_nil _ _ _ _, Below.refl _ _⟩
  case round =>
    obtain ⟨k, L, rfl, k0, k1, kL, hL, hown, hbel⟩ := hrel
    have hz := hbel.size
    obtain ⟨bs, cs, rfl⟩ := own_shape hown
    by_cases hlt : k < 2 * p
    · have b1 := mul_bd (a := k) (x := k) (A := 46) (X := 46) (by omega) (by omega) (by omega) (by omega)
      have b2 : 0 ≤ k * k := Int.mul_nonneg k0 k0
      have e1 : wrap64 (k * k) = k * k := IntWalk.wrap64_in _ (by omega)
      have e2 : wrap64 (k * k - d) = k * k - d := IntWalk.wrap64_in _ (by omega)
      have e3 : (k * k - d).tmod (4 * p) = (k * k - d) % (4 * p) := Int.tmod_eq_emod_of_nonneg (by omega)
      have e4 : (4 * p == 0) = false := beq_eq_false_iff_ne.2 (by omega)
      have e5 : ¬ 4 * p = 0 := by omega
      have e6 : wrap64 (k + 1) = k + 1 := IntWalk.wrap64_in _ (by omega)
      have HO := Lib.hid (hov.out k k0 hlt)
      clear b1 b2
      by_cases ht : (k * k - d) % (4 * p) = 0
      · have ht2 : ((k * k - d) % (4 * p) == 0) = true := by rw [beq_iff_eq]; exact ht
        have HO2 := Lib.hid (HO.out ht)
        clear HO ht
        have hL2 : Hid (∀ f ∈ L ++ [(⟨1, p, k⟩ : Fm)], IdV d f.a f.b f.c) := Lib.hid (fun f hf => by
          rw [List.mem_append, List.mem_singleton] at hf
          rcases hf with hf | rfl
          · exact hL.out f hf
          · exact HO2.out)
        have m1 : L.length + 1 ≤ maxLen := by unfold maxLen; omega
        have m2 : (L.length + 1) * 24 ≤ 140737488355328 := by omega
        go_wp2_with (at_builtin; go_loud (refine wpList_append_own_at _ rfl (.tmp 22) (.tmp 26) 63 rfl w.heap.size 25 i0 _ 3 24 Tryz.underlying63 hi hz0 hz1 hz2 rfl (by decide) _ L.length (cellsF L) rfl ?_ ⟨wr.heap.size, 0, none⟩ 1 1 [.int .i64 1, .int .i64 p, .int .i64 k] rfl rfl ?_ (one3 _ _ _) ?_ ?_ ?_ ?_; exact own_alloc hown; exact cells3 (Blk.new_at (by simp)); exact m1; exact m2; (simp <;> omega); intro x9 w9 hown9 hg9 _ hloc9))
        have hb9 : Below w.heap.size w w9 := below_grown (own_ge hown) (by simp <;> omega) hg9 (by repeat (first | with_reducible exact Below.refl _ _ | with_reducible assumption | with_reducible apply Below.drew | with_reducible apply below_drewN | (with_reducible apply below_setp; (first | omega | (simp <;> omega))) | (with_reducible apply below_allocp; (first | omega | (simp <;> omega))) | (with_reducible refine below_viap (by assumption) ?_ ?_; (first | omega | (simp <;> omega)))))
        have ho9 := own_snoc (f := ⟨1, p, k⟩) rfl hown9
        clear hg9 hown9 hown hloc9 m1 m2
        go_wp2
        go_roundw
        case rel => exact ⟨k + 1, _, rfl, by omega, by omega, by simp; omega, hL2, ho9, hb9⟩
        case measure => (first | (simp [intOf]; done) | (simp [intOf]; omega))
      · have ht2 : ((k * k - d) % (4 * p) == 0) = false := beq_eq_false_iff_ne.2 ht
        clear HO ht
        go_wp2
        go_roundw
        case rel => exact ⟨k + 1, L, rfl, by omega, by omega, by omega, hL, hown, hbel⟩
        case measure => (first | (simp [intOf]; done) | (simp [intOf]; omega))
    · rcases L with _ | ⟨f0, L⟩
      · go_wp2_with (go_at_call 58; (with_reducible refine (hM.out _).mono ?_); rintro e v ⟨rfl, rfl⟩)
        go_ret
        exact ⟨[⟨p, 1, r⟩], _, rfl, by simp, by simp, by simp; exact hin.out, own_oneK _ _ _ (by first | rfl | simp) (by omega), (by repeat (first | with_reducible exact Below.refl _ _ | with_reducible assumption | with_reducible apply Below.drew | with_reducible apply below_drewN | (with_reducible apply below_setp; (first | omega | (simp <;> omega))) | (with_reducible apply below_allocp; (first | omega | (simp <;> omega))) | (with_reducible refine below_viap (by assumption) ?_ ?_; (first | omega | (simp <;> omega)))))⟩
      · have n0 : ((((f0 :: L).length : Nat) : Int) == 0) = false := beq_eq_false_iff_ne.2 (by simp; omega)
        go_wp2
        go_ret
        exact ⟨_, _, rfl, by simp, by omega, hL.out, hown, hbel⟩
end

section
open Go.RowKit

/-- An ideal, and what lies ahead stays. -/
def RetAI (w : World) (e : Ending) (w' : World) : Prop := ∃ q1 q2 q3 : Int, e = .returned (.agg #[.int .i64 q1, .int .i64 q2, .int .i64 q3]) ∧ Below w.heap.size w w'
theorem idProd_ex {d e1 a b e2 a' b' : Int} (w : World) (hx : IdV d e1 a b) (hy : IdV d e2 a' b') : Calls Tryz.prog 24 #[.int .i64 d, .agg #[.int .i64 e1, .int .i64 a, .int .i64 b], .agg #[.int .i64 e2, .int .i64 a', .int .i64 b']] w (RetAI w) := by
  obtain ⟨e, A, p, hp, -, -, -⟩ := pd_ex hx hy
  obtain ⟨X, Y, p1, p2, p3⟩ := hp.sp
  have h1 := hx.d2; have h2 := hx.e1; have h3 := hx.e2; have h4 := hy.e1; have h5 := hy.e2; have h6 := hx.a1; have h7 := hx.a2; have h8 := hy.a1; have h9 := hy.a2
  have g1 := hx.b0; have g2 := hx.b2; have g3 := hy.b0; have g4 := hy.b2
  refine (idProduct_any d e1 a b e2 a' b' X Y A e _ w (by omega) ⟨h2, h3⟩ ⟨h4, h5⟩ ⟨h6, h7⟩ ⟨h8, h9⟩ (by omega) (by omega) p1 p2 p3 hp.A0 hp.e0 hp.e1).mono ?_
  rintro x w' ⟨rfl, hb⟩
  exact ⟨_, _, _, rfl, hb⟩
section
variable {zs : List Int} {v : Value} {B G n m : Nat} {w0 w w1 w2 : World}
theorem gt_len {N : Nat} (h : 1 ≤ N) : (0 : Int) < (N : Int) := by omega
theorem w64_len {N : Nat} (h : N ≤ 46) : wrap64 (N : Int) = N := IntWalk.wrap64_in _ (by omega)
theorem le_len {N : Nat} (h : N ≤ 46) : (N : Int) ≤ 1000000000 := by omega
theorem sm_refl {W : World} {g : Nat} : ∀ o, W.cell? ⟨g, o, none⟩ = W.cell? ⟨g, o, none⟩ := fun _ => rfl
theorem sm_drew {W u : World} {g : Nat} (h : ∀ o, u.cell? ⟨g, o, none⟩ = W.cell? ⟨g, o, none⟩) : ∀ o, u.drew.cell? ⟨g, o, none⟩ = W.cell? ⟨g, o, none⟩ := h
theorem sm_drewN {W u : World} {g j : Nat} (h : ∀ o, u.cell? ⟨g, o, none⟩ = W.cell? ⟨g, o, none⟩) : ∀ o, (u.drewN j).cell? ⟨g, o, none⟩ = W.cell? ⟨g, o, none⟩ := h
theorem sm_alloc {W u : World} {g : Nat} {x : Obj} (h : ∀ o, u.cell? ⟨g, o, none⟩ = W.cell? ⟨g, o, none⟩) (hg : g < u.heap.size) : ∀ o, (u.alloc x).cell? ⟨g, o, none⟩ = W.cell? ⟨g, o, none⟩ := fun o => (World.cell?_alloc_lt u x _ hg).trans (h o)
theorem sm_set {W u : World} {g : Nat} {q : Addr} {x : Value} (h : ∀ o, u.cell? ⟨g, o, none⟩ = W.cell? ⟨g, o, none⟩) (hg : g ≠ q.block) : ∀ o, (u.setCell q x).cell? ⟨g, o, none⟩ = W.cell? ⟨g, o, none⟩ := fun o => by
  rw [← h o]
  unfold World.cell?
  rw [Below.heap_setCell u q x g hg]
theorem sm_grown {W u u2 : World} {g G : Nat} (hg : u.grownBy u2 (some G)) (hl : g < u.heap.size) (hne : g ≠ G) (h : ∀ o, u.cell? ⟨g, o, none⟩ = W.cell? ⟨g, o, none⟩) : ∀ o, u2.cell? ⟨g, o, none⟩ = W.cell? ⟨g, o, none⟩ := fun o => by
  rw [← h o]
  unfold World.cell?
  rw [hg.block g hl (by intro e; injection e with e; exact hne e)]
theorem sm_below {W u u2 : World} {g : Nat} (hb : Below u.heap.size u u2) (hl : g < u.heap.size) (h : ∀ o, u.cell? ⟨g, o, none⟩ = W.cell? ⟨g, o, none⟩) : ∀ o, u2.cell? ⟨g, o, none⟩ = W.cell? ⟨g, o, none⟩ := fun o => ((calm_cells hb).1 g o hl).trans (h o)
theorem piB_dsc {d : Int} (h : piB d = true) : isDisc d = true := by unfold piB at h; simp at h; exact h.1
set_option maxRecDepth 100000 in
set_option maxHeartbeats 6400000 in
theorem product_d (h : Drw zs v B G n w0 w) (hB : B ≤ G) (hn : n + 100 ≤ 100000000) (d : Int) (hd : DrawnE d) :
    Calls Tryz.prog 21 #[.pointer (some ⟨G, 0, none⟩), .int .i64 d] w fun e w' => ∃ x : Int × Int × Int, e = .returned (.agg #[.int .i64 x.1, .int .i64 x.2.1, .int .i64 x.2.2]) ∧ True ∧ Drw zs v B G (n + 100) w0 w' ∧ w.grownBy w' (some G) := by
  have H := Lib.hid h
  have lG0 := h.lt
  have hD0 := Lib.hid (Drw.start h.rd h.cur)
  clear h
  have hfin : Hid (∀ (x y z : Int) (w' : World), Drw zs v B G (n + 100) w w' → ∃ f : Int × Int × Int, Ending.returned (.agg #[.int .i64 x, .int .i64 y, .int .i64 z]) = .returned (.agg #[.int .i64 f.1, .int .i64 f.2.1, .int .i64 f.2.2]) ∧ True ∧ Drw zs v B G (n + 100) w0 w' ∧ w.grownBy w' (some G)) :=
    Lib.hid (fun x y z w' hd => ⟨(x, y, z), rfl, trivial, H.out.next hB hd.cur hd.gr, hd.gr⟩)
  have hP := Lib.hid (fun w => piDisc_any d w hd)
  clear hd H
  cases hp : piB d with
  | false =>
    rw [hp] at hP
    clear hp
    go_enter Tryz.func21, Tryz.ntmps21
    go_wp2_with (go_at_call 37; (with_reducible refine (hP.out _).mono ?_); rintro e v ⟨rfl, rfl⟩)
    refine (anyIdeal_d (by repeat (first | with_reducible assumption | (with_reducible apply Hid.out; assumption) | with_reducible apply Drw.drewN | with_reducible apply Drw.drew | with_reducible apply Drw.alloc | (with_reducible refine Drw.setp ?_ ?_ ?_ ?_; (first | omega | (simp <;> omega)); (first | omega | (simp <;> omega)); (first | omega | (simp <;> omega))))) hB (by omega) d).mono ?_
    rintro e v2 ⟨⟨x, y, z⟩, rfl, -, hD2', hG2⟩
    have hD2 := Lib.hid hD2'
    have lG2 := hD2'.lt
    have zG2 := hG2.size
    (try simp at zG2)
    have hA2 : Blk v2 w.heap.size 25 #[.int .i64 0, .int .i64 0, .int .i64 0] := Blk.grown (by (repeat (first | with_reducible assumption | (with_reducible apply Blk.new_at; (first | rfl | (simp; done))) | with_reducible apply Blk.store3 | with_reducible apply Blk.store4 | (with_reducible apply Blk.farp; (first | omega | (simp <;> omega))) | with_reducible apply Blk.allocp | with_reducible apply Blk.drew | with_reducible apply Blk.drewN))) hG2 (by simp <;> omega)
    have cA2 := hA2.cell; have fA2 := hA2.frozen; have lA2 := hA2.lt; have mA2 := Nat.ne_of_gt lA2; have nA2 := Nat.ne_of_lt lA2
    clear hD2' hG2 hD0
    go_wp2
    exact bodyPost_ret (v := .agg #[.int .i64 x, .int .i64 y, .int .i64 z]) (by simp [results, Tryz.results21, go_sem, *]) rfl (hfin.out _ _ _ _ (Drw.more (n := n + 70) (by repeat (first | with_reducible assumption | (with_reducible apply Hid.out; assumption) | with_reducible apply Drw.drewN | with_reducible apply Drw.drew | with_reducible apply Drw.alloc | (with_reducible refine Drw.setp ?_ ?_ ?_ ?_; (first | omega | (simp <;> omega)); (first | omega | (simp <;> omega)); (first | omega | (simp <;> omega))))) (by omega)))
  | true =>
    rw [hp] at hP
    have HD := Lib.hid (piB_dsc hp)
    clear hp
    go_enter Tryz.func21, Tryz.ntmps21
    go_wp2_with (go_at_call 37; (with_reducible refine (hP.out _).mono ?_); rintro e v ⟨rfl, rfl⟩)
    refine (one_d (n := n) (by repeat (first | with_reducible assumption | (with_reducible apply Hid.out; assumption) | with_reducible apply Drw.drewN | with_reducible apply Drw.drew | with_reducible apply Drw.alloc | (with_reducible refine Drw.setp ?_ ?_ ?_ ?_; (first | omega | (simp <;> omega)); (first | omega | (simp <;> omega)); (first | omega | (simp <;> omega))))) hB 8 (by omega) (by omega)).mono ?_
    rintro e v1 ⟨x1, rfl, _, hD1', hG1⟩
    have hD1 := Lib.hid hD1'
    have lG1 := hD1'.lt
    have zG1 := hG1.size
    (try simp at zG1)
    have hA1 : Blk v1 w.heap.size 25 #[.int .i64 0, .int .i64 0, .int .i64 0] := Blk.grown (by (repeat (first | with_reducible assumption | (with_reducible apply Blk.new_at; (first | rfl | (simp; done))) | with_reducible apply Blk.store3 | with_reducible apply Blk.store4 | (with_reducible apply Blk.farp; (first | omega | (simp <;> omega))) | with_reducible apply Blk.allocp | with_reducible apply Blk.drew | with_reducible apply Blk.drewN))) hG1 (by simp <;> omega)
    have cA1 := hA1.cell; have fA1 := hA1.frozen; have lA1 := hA1.lt; have mA1 := Nat.ne_of_gt lA1; have nA1 := Nat.ne_of_lt lA1
    clear hD1' hG1 hD0 hP
    cases x1 with
    | true =>
      go_wp2_with fail
      refine (anyIdeal_d (by repeat (first | with_reducible assumption | (with_reducible apply Hid.out; assumption) | with_reducible apply Drw.drewN | with_reducible apply Drw.drew | with_reducible apply Drw.alloc | (with_reducible refine Drw.setp ?_ ?_ ?_ ?_; (first | omega | (simp <;> omega)); (first | omega | (simp <;> omega)); (first | omega | (simp <;> omega))))) hB (by omega) d).mono ?_
      rintro e v2 ⟨⟨x, y, z⟩, rfl, -, hD2', hG2⟩
      have hD2 := Lib.hid hD2'
      have lG2 := hD2'.lt
      have zG2 := hG2.size
      (try simp at zG2)
      have hA2 : Blk v2 w.heap.size 25 #[.int .i64 0, .int .i64 0, .int .i64 0] := Blk.grown (by (repeat (first | with_reducible assumption | (with_reducible apply Blk.new_at; (first | rfl | (simp; done))) | with_reducible apply Blk.store3 | with_reducible apply Blk.store4 | (with_reducible apply Blk.farp; (first | omega | (simp <;> omega))) | with_reducible apply Blk.allocp | with_reducible apply Blk.drew | with_reducible apply Blk.drewN))) hG2 (by simp <;> omega)
      have cA2 := hA2.cell; have fA2 := hA2.frozen; have lA2 := hA2.lt; have mA2 := Nat.ne_of_gt lA2; have nA2 := Nat.ne_of_lt lA2
      clear hD2' hG2 hD1 cA1 fA1 lA1 mA1 nA1 hA1
      go_wp2
      exact bodyPost_ret (v := .agg #[.int .i64 x, .int .i64 y, .int .i64 z]) (by simp [results, Tryz.results21, go_sem, *]) rfl (hfin.out _ _ _ _ (Drw.more (n := n + 2 + 70) (by repeat (first | with_reducible assumption | (with_reducible apply Hid.out; assumption) | with_reducible apply Drw.drewN | with_reducible apply Drw.drew | with_reducible apply Drw.alloc | (with_reducible refine Drw.setp ?_ ?_ ?_ ?_; (first | omega | (simp <;> omega)); (first | omega | (simp <;> omega)); (first | omega | (simp <;> omega))))) (by omega)))
    | false =>
      have hM := Lib.hid (fun w => nuMod_any d 2 w (by omega) (by omega))
      have HV0 := Lib.hid (idv_inert (p := 1) HD.out (by omega) (by omega))
      generalize d % 2 = r at *
      obtain ⟨bX, hbX⟩ : ∃ b : Nat, b = v1.heap.size := ⟨_, rfl⟩
      go_wp2_with (go_at_call 58; (with_reducible refine (hM.out _).mono ?_); rintro e v ⟨rfl, rfl⟩)
      refine (pick_d (n := n + 2) (by repeat (first | with_reducible assumption | (with_reducible apply Hid.out; assumption) | with_reducible apply Drw.drewN | with_reducible apply Drw.drew | with_reducible apply Drw.alloc | (with_reducible refine Drw.setp ?_ ?_ ?_ ?_; (first | omega | (simp <;> omega)); (first | omega | (simp <;> omega)); (first | omega | (simp <;> omega))))) hB 5 (by omega) (by omega)).mono ?_
      rintro e v2 ⟨x2, rfl, hx2, hD2', hG2⟩
      have hD2 := Lib.hid hD2'
      have lG2 := hD2'.lt
      have zG2 := hG2.size
      (try simp at zG2)
      have hA2 : Blk v2 w.heap.size 25 #[.int .i64 0, .int .i64 0, .int .i64 0] := Blk.grown (by (repeat (first | with_reducible assumption | (with_reducible apply Blk.new_at; (first | rfl | (simp; done))) | with_reducible apply Blk.store3 | with_reducible apply Blk.store4 | (with_reducible apply Blk.farp; (first | omega | (simp <;> omega))) | with_reducible apply Blk.allocp | with_reducible apply Blk.drew | with_reducible apply Blk.drewN))) hG2 (by simp <;> omega)
      have hX2 : Blk v2 v1.heap.size 25 #[.int .i64 1, .int .i64 1, .int .i64 r] := Blk.grown (by (repeat (first | with_reducible assumption | (with_reducible apply Blk.new_at; (first | rfl | (simp; done))) | with_reducible apply Blk.store3 | with_reducible apply Blk.store4 | (with_reducible apply Blk.farp; (first | omega | (simp <;> omega))) | with_reducible apply Blk.allocp | with_reducible apply Blk.drew | with_reducible apply Blk.drewN))) hG2 (by simp <;> omega)
      obtain ⟨k2, rfl⟩ : ∃ k : Nat, x2 = k := ⟨x2.toNat, by omega⟩
      clear hD2' hG2 hD1 cA1 fA1 lA1 mA1 nA1 hA1 hM
      have lX2 := hX2.lt
      rw [← hbX] at hX2 lX2
      go_wp2
      rw [← hbX]
      have q1 : w.heap.size ≠ bX := by omega
      have q2 : bX ≠ w.heap.size := by omega
      have q3 : G < bX := by omega
      have q4 : w.heap.size < bX := by omega
      clear hbX
      go_loopw [6] (fun vk wr => ∃ (k : Nat) (e a b : Int), vk = .int .i64 k ∧ k ≤ 4 ∧ Hid (IdV d e a b) ∧ Hid (Drw zs v B G (n + 80 - 4 * k) w wr) ∧ Hid (Blk wr w.heap.size 25 #[.int .i64 0, .int .i64 0, .int .i64 0]) ∧ Hid (Blk wr bX 25 #[.int .i64 e, .int .i64 a, .int .i64 b]) ∧ bX < wr.heap.size) (fun vk _ => (intOf vk).toNat)
      case atStart => exact ⟨k2, 1, 1, r, rfl, by omega, HV0, Lib.hid (hD2.out.more (by omega)), Lib.hid hA2, Lib.hid hX2, lX2⟩
      case round =>
        obtain ⟨k, e, a, b, rfl, hk, HV, hD, hA', hX', hlt⟩ := hrel
        have hA := hA'.out; have hX := hX'.out
        have cA := hA.cell; have fA := hA.frozen; have lA := hA.lt; have mA := Nat.ne_of_gt lA; have nA := Nat.ne_of_lt lA
        have cX := hX.cell; have fX := hX.frozen; have lX := hX.lt; have mX := Nat.ne_of_gt lX; have nX := Nat.ne_of_lt lX
        clear hA' hX' hA2 hX2 lX2 hD2 hx2 HV0
        have lG := hD.out.lt
        have hm1 := Nat.ne_of_gt hlt
        by_cases hk0 : k = 0
        · subst hk0
          go_wp2
          exact bodyPost_ret (v := .agg #[.int .i64 e, .int .i64 a, .int .i64 b]) (by simp [results, Tryz.results21, go_sem, *]) rfl (hfin.out _ _ _ _ (by have hd := hD.out.more (show n + 80 - 4 * 0 ≤ n + 100 by omega); clear hD; exact (by repeat (first | with_reducible assumption | (with_reducible apply Hid.out; assumption) | with_reducible apply Drw.drewN | with_reducible apply Drw.drew | with_reducible apply Drw.alloc | (with_reducible refine Drw.setp ?_ ?_ ?_ ?_; (first | omega | (simp <;> omega)); (first | omega | (simp <;> omega)); (first | omega | (simp <;> omega)))))))
        · obtain ⟨j, rfl⟩ : ∃ j, k = j + 1 := ⟨k - 1, by omega⟩
          have hk1 : 0 < ((j + 1 : Nat) : Int) := by omega
          have hk2 : wrap64 (((j + 1 : Nat) : Int) - 1) = (j : Int) := by rw [IntWalk.wrap64_in _ (by omega)]; omega
          go_wp2_with fail
          refine (among_eqR (w0 := w) (n := n + 80 - 4 * (j + 1)) hD.out hB [2, 2, 3, 3, 5, 7, 11, 23] (fun x => 2 ≤ x ∧ x ≤ 23) (by decide) (by decide) (by decide) (by omega) (by simp) rfl rfl).mono ?_
          rintro e' v3 ⟨p, rfl, ⟨p1, p2⟩, hD3', hG3⟩
          have hD3 := Lib.hid hD3'
          have lG3 := hD3'.lt
          have zG3 := hG3.size
          (try simp at zG3)
          have hA3 : Blk v3 w.heap.size 25 #[.int .i64 0, .int .i64 0, .int .i64 0] := Blk.grown (by (repeat (first | with_reducible assumption | (with_reducible apply Blk.new_at; (first | rfl | (simp; done))) | with_reducible apply Blk.store3 | with_reducible apply Blk.store4 | (with_reducible apply Blk.farp; (first | omega | (simp <;> omega))) | with_reducible apply Blk.allocp | with_reducible apply Blk.drew | with_reducible apply Blk.drewN))) hG3 (by simp <;> omega); have cA3 := hA3.cell; have fA3 := hA3.frozen; have lA3 := hA3.lt; have mA3 := Nat.ne_of_gt lA3; have nA3 := Nat.ne_of_lt lA3; have hX3 : Blk v3 bX 25 #[.int .i64 e, .int .i64 a, .int .i64 b] := Blk.grown (by (repeat (first | with_reducible assumption | (with_reducible apply Blk.new_at; (first | rfl | (simp; done))) | with_reducible apply Blk.store3 | with_reducible apply Blk.store4 | (with_reducible apply Blk.farp; (first | omega | (simp <;> omega))) | with_reducible apply Blk.allocp | with_reducible apply Blk.drew | with_reducible apply Blk.drewN))) hG3 (by simp <;> omega); have cX3 := hX3.cell; have fX3 := hX3.frozen; have lX3 := hX3.lt; have mX3 := Nat.ne_of_gt lX3; have nX3 := Nat.ne_of_lt lX3
          clear hD3' hG3 hD cA fA lA mA nA hA cX fX lX mX nX hX
          go_wp2_with fail
          refine (piOver_any d p _ HD.out p1 p2).mono ?_
          rintro e' v4 ⟨L, vl, rfl, L1, L2, hL', ho4, hB4⟩
          have zG4 := hB4.size
          (try simp at zG4)
          obtain ⟨base, cap, rfl⟩ := own_shape ho4
          have HO4 := Lib.hid ho4
          have hL := Lib.hid hL'
          obtain ⟨g, rfl, lg4, -⟩ := own_elem ho4 (k := 0) L1
          have gB := own_ge ho4 g rfl
          have hA4 : Blk v4 w.heap.size 25 #[.int .i64 0, .int .i64 0, .int .i64 0] := Blk.call (by (repeat (first | with_reducible assumption | (with_reducible apply Blk.new_at; (first | rfl | (simp; done))) | with_reducible apply Blk.store3 | with_reducible apply Blk.store4 | (with_reducible apply Blk.farp; (first | omega | (simp <;> omega))) | with_reducible apply Blk.allocp | with_reducible apply Blk.drew | with_reducible apply Blk.drewN))) hB4; have cA4 := hA4.cell; have fA4 := hA4.frozen; have lA4 := hA4.lt; have mA4 := Nat.ne_of_gt lA4; have nA4 := Nat.ne_of_lt lA4; have hX4 : Blk v4 bX 25 #[.int .i64 e, .int .i64 a, .int .i64 b] := Blk.call (by (repeat (first | with_reducible assumption | (with_reducible apply Blk.new_at; (first | rfl | (simp; done))) | with_reducible apply Blk.store3 | with_reducible apply Blk.store4 | (with_reducible apply Blk.farp; (first | omega | (simp <;> omega))) | with_reducible apply Blk.allocp | with_reducible apply Blk.drew | with_reducible apply Blk.drewN))) hB4; have cX4 := hX4.cell; have fX4 := hX4.frozen; have lX4 := hX4.lt; have mX4 := Nat.ne_of_gt lX4; have nX4 := Nat.ne_of_lt lX4
          have hD4 := Lib.hid (hD3.out.call hB hB4); have lG4 := hD4.out.lt
          have h64 : wrap64 (L.length : Int) = L.length := w64_len L2
          have H9 := Lib.hid (show (L.length : Int) ≤ 1000000000 ∧ n + 80 - 4 * (j + 1) + 2 + 2 ≤ 100000000 from ⟨le_len L2, by omega⟩)
          have G3 : G < v3.heap.size := lG3
          have gG : g ≠ G := by omega
          have gn4 : ¬ g = v4.heap.size := by omega
          have hgt : (0 : Int) < (L.length : Int) := gt_len L1
          clear hB4 ho4 hL' hD3 cA3 fA3 lA3 mA3 nA3 hA3 cX3 fX3 lX3 mX3 nX3 hX3 p1 p2
          go_upto_region 8 with (fail)
          go_cut [8] from 33 to 43 (fun s8 wx => ∃ (U : Nat) (x y z : Int), s8 = .pointer (some ⟨U, 0, none⟩) ∧ Blk wx U 25 #[.int .i64 x, .int .i64 y, .int .i64 z] ∧ G < U ∧ bX < U ∧ Blk wx w.heap.size 25 #[.int .i64 0, .int .i64 0, .int .i64 0] ∧ Blk wx bX 25 #[.int .i64 e, .int .i64 a, .int .i64 b] ∧ Drw zs v B G (n + 80 - 4 * j) w wx)
          case first =>
            as_aux_lemma =>
            clear hfin HD
            go_wp2_with fail
            go_region_held3 (fun w' => w'.cell? ⟨bX, 0, none⟩ = some (.int .i64 e) ∧ w'.cell? ⟨bX, 1, none⟩ = some (.int .i64 a) ∧ w'.cell? ⟨bX, 2, none⟩ = some (.int .i64 b) ∧ ∀ o, w'.cell? ⟨g, o, none⟩ = v4.cell? ⟨g, o, none⟩) ((refine ⟨?_, ?_, ?_, ?_⟩ <;> (first | ((repeat (first | exact hgc6 | exact hgc5 | with_reducible exact sm_refl | with_reducible apply sm_drew | with_reducible apply sm_drewN | (with_reducible apply sm_alloc; rotate_left 1; (first | omega | (simp <;> omega))) | (with_reducible apply sm_set; rotate_left 1; (first | omega | (simp <;> omega))))); done) | exact cX6 _ | exact cX5 _ | exact cX4 _ | (go_keep; done) | (go_simp; done)))) (first | (go_at_call 59; go_loud (refine (pick_d (n := n + 80 - 4 * (j + 1) + 2) (by repeat (first | with_reducible assumption | (with_reducible apply Hid.out; assumption) | with_reducible apply Drw.drewN | with_reducible apply Drw.drew | with_reducible apply Drw.alloc | (with_reducible refine Drw.setp ?_ ?_ ?_ ?_; (first | omega | (simp <;> omega)); (first | omega | (simp <;> omega)); (first | omega | (simp <;> omega))))) hB L.length H9.out.2 H9.out.1).mono ?_; rintro e v5 ⟨x5, rfl, hx5, hD5', hG5⟩; have hD5 := Lib.hid hD5'; have lG5 := hD5'.lt; have zG5 := hG5.size; (try simp at zG5); have hA5 : Blk v5 w.heap.size 25 #[.int .i64 0, .int .i64 0, .int .i64 0] := Blk.grown (by (repeat (first | with_reducible assumption | (with_reducible apply Blk.new_at; (first | rfl | (simp; done))) | with_reducible apply Blk.store3 | with_reducible apply Blk.store4 | (with_reducible apply Blk.farp; (first | omega | (simp <;> omega))) | with_reducible apply Blk.allocp | with_reducible apply Blk.drew | with_reducible apply Blk.drewN))) hG5 (by simp <;> omega); have cA5 := hA5.cell; have fA5 := hA5.frozen; have lA5 := hA5.lt; have mA5 := Nat.ne_of_gt lA5; have nA5 := Nat.ne_of_lt lA5; have hX5 : Blk v5 bX 25 #[.int .i64 e, .int .i64 a, .int .i64 b] := Blk.grown (by (repeat (first | with_reducible assumption | (with_reducible apply Blk.new_at; (first | rfl | (simp; done))) | with_reducible apply Blk.store3 | with_reducible apply Blk.store4 | (with_reducible apply Blk.farp; (first | omega | (simp <;> omega))) | with_reducible apply Blk.allocp | with_reducible apply Blk.drew | with_reducible apply Blk.drewN))) hG5 (by simp <;> omega); have cX5 := hX5.cell; have fX5 := hX5.frozen; have lX5 := hX5.lt; have mX5 := Nat.ne_of_gt lX5; have nX5 := Nat.ne_of_lt lX5; obtain ⟨k, rfl, hk⟩ := pk_nat hx5 L1; obtain ⟨g2, hg2, _, y1, y2, y3⟩ := own_elem HO4.out hk; (obtain rfl : g = g2 := by injection hg2 with hq; injection hq); have hgc5 : ∀ o, v5.cell? ⟨g, o, none⟩ = v4.cell? ⟨g, o, none⟩ := sm_grown hG5 (by first | omega | (simp <;> omega)) gG (by (repeat (first | exact hgc6 | exact hgc5 | with_reducible exact sm_refl | with_reducible apply sm_drew | with_reducible apply sm_drewN | (with_reducible apply sm_alloc; rotate_left 1; (first | omega | (simp <;> omega))) | (with_reducible apply sm_set; rotate_left 1; (first | omega | (simp <;> omega)))))); have kI : (k : Int) < (L.length : Int) := Int.ofNat_lt.2 hk; have HY := Lib.hid (hL.out _ (List.getElem_mem hk)); generalize L[k].a = ya at *; generalize L[k].b = yb at *; generalize L[k].c = yc at *; (try (have hS5 : Blk v5 v4.heap.size 25 #[.int .i64 0, .int .i64 0, .int .i64 0] := Blk.grown (by exact Blk.new_at rfl) hG5 (by simp <;> omega); have cS5 := hS5.cell; have fS5 := hS5.frozen; have lS5 := hS5.lt; have mS5 := Nat.ne_of_gt lS5; have nS5 := Nat.ne_of_lt lS5)); clear hD5' hG5 hx5)) | (go_at_call 24; refine (idProd_ex _ HV.out HY.out).mono ?_; rintro e v6 ⟨q1, q2, q3, rfl, hB6⟩; have zG6 := hB6.size; (try simp at zG6); have hgc6 : ∀ o, v6.cell? ⟨g, o, none⟩ = v4.cell? ⟨g, o, none⟩ := sm_below hB6 (by first | omega | (simp <;> omega)) (by (repeat (first | exact hgc6 | exact hgc5 | with_reducible exact sm_refl | with_reducible apply sm_drew | with_reducible apply sm_drewN | (with_reducible apply sm_alloc; rotate_left 1; (first | omega | (simp <;> omega))) | (with_reducible apply sm_set; rotate_left 1; (first | omega | (simp <;> omega)))))); have hA6 : Blk v6 w.heap.size 25 #[.int .i64 0, .int .i64 0, .int .i64 0] := Blk.call (by (repeat (first | with_reducible assumption | (with_reducible apply Blk.new_at; (first | rfl | (simp; done))) | with_reducible apply Blk.store3 | with_reducible apply Blk.store4 | (with_reducible apply Blk.farp; (first | omega | (simp <;> omega))) | with_reducible apply Blk.allocp | with_reducible apply Blk.drew | with_reducible apply Blk.drewN))) hB6; have cA6 := hA6.cell; have fA6 := hA6.frozen; have lA6 := hA6.lt; have mA6 := Nat.ne_of_gt lA6; have nA6 := Nat.ne_of_lt lA6; have hX6 : Blk v6 bX 25 #[.int .i64 e, .int .i64 a, .int .i64 b] := Blk.call (by (repeat (first | with_reducible assumption | (with_reducible apply Blk.new_at; (first | rfl | (simp; done))) | with_reducible apply Blk.store3 | with_reducible apply Blk.store4 | (with_reducible apply Blk.farp; (first | omega | (simp <;> omega))) | with_reducible apply Blk.allocp | with_reducible apply Blk.drew | with_reducible apply Blk.drewN))) hB6; have cX6 := hX6.cell; have fX6 := hX6.frozen; have lX6 := hX6.lt; have mX6 := Nat.ne_of_gt lX6; have nX6 := Nat.ne_of_lt lX6; (try (have hS6 : Blk v6 v4.heap.size 25 #[.int .i64 0, .int .i64 0, .int .i64 0] := Blk.call (by exact hS5) hB6; have cS6 := hS6.cell; have fS6 := hS6.frozen; have lS6 := hS6.lt; have mS6 := Nat.ne_of_gt lS6; have nS6 := Nat.ne_of_lt lS6)); (try (have hS6 : Blk v6 v5.heap.size 25 #[.int .i64 0, .int .i64 0, .int .i64 0] := Blk.call (by exact Blk.new_at rfl) hB6; have cS6 := hS6.cell; have fS6 := hS6.frozen; have lS6 := hS6.lt; have mS6 := Nat.ne_of_gt lS6; have nS6 := Nat.ne_of_lt lS6)); have hD6 := Lib.hid (Drw.call (w := _) (n := n + 80 - 4 * (j + 1) + 2 + 2) (zs := zs) (v := v) (B := B) (G := G) (w0 := w) (by repeat (first | with_reducible assumption | (with_reducible apply Hid.out; assumption) | with_reducible apply Drw.drewN | with_reducible apply Drw.drew | with_reducible apply Drw.alloc | (with_reducible refine Drw.setp ?_ ?_ ?_ ?_; (first | omega | (simp <;> omega)); (first | omega | (simp <;> omega)); (first | omega | (simp <;> omega))))) hB hB6); have lG6 := hD6.out.lt; clear hB6))
            all_goals
              go_wp2_with fail
              go_meet
              exact ⟨_, _, _, _, rfl, by (repeat (first | with_reducible assumption | (with_reducible apply Blk.new_at; (first | rfl | (simp; done))) | with_reducible apply Blk.store2 | with_reducible apply Blk.store3 | with_reducible apply Blk.store4 | (with_reducible apply Blk.farp; (first | omega | (simp <;> omega))) | with_reducible apply Blk.allocp | with_reducible apply Blk.drew | with_reducible apply Blk.drewN)), by omega, by omega, by (repeat (first | with_reducible assumption | (with_reducible apply Blk.new_at; (first | rfl | (simp; done))) | with_reducible apply Blk.store2 | with_reducible apply Blk.store3 | with_reducible apply Blk.store4 | (with_reducible apply Blk.farp; (first | omega | (simp <;> omega))) | with_reducible apply Blk.allocp | with_reducible apply Blk.drew | with_reducible apply Blk.drewN)), by (repeat (first | with_reducible assumption | (with_reducible apply Blk.new_at; (first | rfl | (simp; done))) | with_reducible apply Blk.store2 | with_reducible apply Blk.store3 | with_reducible apply Blk.store4 | (with_reducible apply Blk.farp; (first | omega | (simp <;> omega))) | with_reducible apply Blk.allocp | with_reducible apply Blk.drew | with_reducible apply Blk.drewN)), Drw.more (n := n + 80 - 4 * (j + 1) + 2 + 2) (by repeat (first | with_reducible assumption | (with_reducible apply Hid.out; assumption) | with_reducible apply Drw.drewN | with_reducible apply Drw.drew | with_reducible apply Drw.alloc | (with_reducible refine Drw.setp ?_ ?_ ?_ ?_; (first | omega | (simp <;> omega)); (first | omega | (simp <;> omega)); (first | omega | (simp <;> omega))))) (by omega)⟩
          case rest =>
            clear hgt h64 L1 L2 hL HO4 cA4 fA4 lA4 mA4 nA4 hA4 cX4 fX4 lX4 mX4 nX4 hX4 hD4 lG4 hm1
            obtain ⟨v5, rfl⟩ : ∃ v5 : World, v5 = wc := ⟨_, rfl⟩
            obtain ⟨U, x, y, z, rfl, hU5, gU, pU, hA5, hX5, hD5'⟩ := hcut
            have hD5 := Lib.hid hD5'; have lG5 := hD5'.lt
            have cA5 := hA5.cell; have fA5 := hA5.frozen; have lA5 := hA5.lt; have mA5 := Nat.ne_of_gt lA5; have nA5 := Nat.ne_of_lt lA5; have cX5 := hX5.cell; have fX5 := hX5.frozen; have lX5 := hX5.lt; have mX5 := Nat.ne_of_gt lX5; have nX5 := Nat.ne_of_lt lX5; have cU5 := hU5.cell; have fU5 := hU5.frozen; have lU5 := hU5.lt; have mU5 := Nat.ne_of_gt lU5; have nU5 := Nat.ne_of_lt lU5
            clear hD5'
            have hI := Lib.hid (fun w => idGood_any d x y z w)
            cases hi : idB d x y z with
            | false =>
              rw [hi] at hI
              clear hi
              go_wp2_with (go_at_call 25; (with_reducible refine (hI.out _).mono ?_); rintro e' v6 ⟨rfl, hB6⟩; have zG6 := hB6.size; (try simp at zG6); have hA6 : Blk v6 w.heap.size 25 #[.int .i64 0, .int .i64 0, .int .i64 0] := Blk.call (by (repeat (first | with_reducible assumption | (with_reducible apply Blk.new_at; (first | rfl | (simp; done))) | with_reducible apply Blk.store3 | with_reducible apply Blk.store4 | (with_reducible apply Blk.farp; (first | omega | (simp <;> omega))) | with_reducible apply Blk.allocp | with_reducible apply Blk.drew | with_reducible apply Blk.drewN))) hB6; have cA6 := hA6.cell; have fA6 := hA6.frozen; have lA6 := hA6.lt; have mA6 := Nat.ne_of_gt lA6; have nA6 := Nat.ne_of_lt lA6; have hX6 : Blk v6 bX 25 #[.int .i64 e, .int .i64 a, .int .i64 b] := Blk.call (by (repeat (first | with_reducible assumption | (with_reducible apply Blk.new_at; (first | rfl | (simp; done))) | with_reducible apply Blk.store3 | with_reducible apply Blk.store4 | (with_reducible apply Blk.farp; (first | omega | (simp <;> omega))) | with_reducible apply Blk.allocp | with_reducible apply Blk.drew | with_reducible apply Blk.drewN))) hB6; have cX6 := hX6.cell; have fX6 := hX6.frozen; have lX6 := hX6.lt; have mX6 := Nat.ne_of_gt lX6; have nX6 := Nat.ne_of_lt lX6; have hD6 := Lib.hid (Drw.call (w := _) (n := n + 80 - 4 * j) (zs := zs) (v := v) (B := B) (G := G) (w0 := w) (by repeat (first | with_reducible assumption | (with_reducible apply Hid.out; assumption) | with_reducible apply Drw.drewN | with_reducible apply Drw.drew | with_reducible apply Drw.alloc | (with_reducible refine Drw.setp ?_ ?_ ?_ ?_; (first | omega | (simp <;> omega)); (first | omega | (simp <;> omega)); (first | omega | (simp <;> omega))))) hB hB6); have lG6 := hD6.out.lt)
              go_roundw
              case rel => exact ⟨j, e, a, b, rfl, by omega, HV, hD6, Lib.hid hA6, Lib.hid hX6, hX6.lt⟩
              case measure => (first | (simp [intOf]; done) | (simp [intOf]; omega))
            | true =>
              rw [hi] at hI
              have HV2 := Lib.hid (idB_iff.1 hi)
              clear hi
              go_wp2_with (go_at_call 25; (with_reducible refine (hI.out _).mono ?_); rintro e' v6 ⟨rfl, hB6⟩; have zG6 := hB6.size; (try simp at zG6); have hA6 : Blk v6 w.heap.size 25 #[.int .i64 0, .int .i64 0, .int .i64 0] := Blk.call (by (repeat (first | with_reducible assumption | (with_reducible apply Blk.new_at; (first | rfl | (simp; done))) | with_reducible apply Blk.store3 | with_reducible apply Blk.store4 | (with_reducible apply Blk.farp; (first | omega | (simp <;> omega))) | with_reducible apply Blk.allocp | with_reducible apply Blk.drew | with_reducible apply Blk.drewN))) hB6; have cA6 := hA6.cell; have fA6 := hA6.frozen; have lA6 := hA6.lt; have mA6 := Nat.ne_of_gt lA6; have nA6 := Nat.ne_of_lt lA6; have hX6 : Blk v6 bX 25 #[.int .i64 e, .int .i64 a, .int .i64 b] := Blk.call (by (repeat (first | with_reducible assumption | (with_reducible apply Blk.new_at; (first | rfl | (simp; done))) | with_reducible apply Blk.store3 | with_reducible apply Blk.store4 | (with_reducible apply Blk.farp; (first | omega | (simp <;> omega))) | with_reducible apply Blk.allocp | with_reducible apply Blk.drew | with_reducible apply Blk.drewN))) hB6; have cX6 := hX6.cell; have fX6 := hX6.frozen; have lX6 := hX6.lt; have mX6 := Nat.ne_of_gt lX6; have nX6 := Nat.ne_of_lt lX6; have hU6 : Blk v6 U 25 #[.int .i64 x, .int .i64 y, .int .i64 z] := Blk.call (by (repeat (first | with_reducible assumption | (with_reducible apply Blk.new_at; (first | rfl | (simp; done))) | with_reducible apply Blk.store3 | with_reducible apply Blk.store4 | (with_reducible apply Blk.farp; (first | omega | (simp <;> omega))) | with_reducible apply Blk.allocp | with_reducible apply Blk.drew | with_reducible apply Blk.drewN))) hB6; have cU6 := hU6.cell; have fU6 := hU6.frozen; have lU6 := hU6.lt; have mU6 := Nat.ne_of_gt lU6; have nU6 := Nat.ne_of_lt lU6; have hD6 := Lib.hid (Drw.call (w := _) (n := n + 80 - 4 * j) (zs := zs) (v := v) (B := B) (G := G) (w0 := w) (by repeat (first | with_reducible assumption | (with_reducible apply Hid.out; assumption) | with_reducible apply Drw.drewN | with_reducible apply Drw.drew | with_reducible apply Drw.alloc | (with_reducible refine Drw.setp ?_ ?_ ?_ ?_; (first | omega | (simp <;> omega)); (first | omega | (simp <;> omega)); (first | omega | (simp <;> omega))))) hB hB6); have lG6 := hD6.out.lt)
              go_roundw
              case rel => exact ⟨j, x, y, z, rfl, by omega, HV2, Lib.hid (by repeat (first | with_reducible assumption | (with_reducible apply Hid.out; assumption) | with_reducible apply Drw.drewN | with_reducible apply Drw.drew | with_reducible apply Drw.alloc | (with_reducible refine Drw.setp ?_ ?_ ?_ ?_; (first | omega | (simp <;> omega)); (first | omega | (simp <;> omega)); (first | omega | (simp <;> omega))))), Lib.hid (by (repeat (first | with_reducible assumption | (with_reducible apply Blk.new_at; (first | rfl | (simp; done))) | with_reducible apply Blk.store3 | with_reducible apply Blk.store4 | (with_reducible apply Blk.farp; (first | omega | (simp <;> omega))) | with_reducible apply Blk.allocp | with_reducible apply Blk.drew | with_reducible apply Blk.drewN))), Lib.hid (by (repeat (first | with_reducible assumption | (with_reducible apply Blk.new_at; (first | rfl | (simp; done))) | with_reducible apply Blk.store2 | with_reducible apply Blk.store3 | with_reducible apply Blk.store4 | (with_reducible apply Blk.farp; (first | omega | (simp <;> omega))) | with_reducible apply Blk.allocp | with_reducible apply Blk.drew | with_reducible apply Blk.drewN))), by simp <;> omega⟩
              case measure => (first | (simp [intOf]; done) | (simp [intOf]; omega))
end
end

section
open Go.RowKit

/-- A drawn discriminant and a number. -/
def RetDn (w : World) (e : Ending) (w' : World) : Prop := ∃ d p : Int, e = .returned (.tuple #[.int .i64 d, .int .i64 p]) ∧ DrawnE d ∧ Below w.heap.size w w'
/-- A drawn discriminant and two ideals. -/
def RetDI2E (w : World) (e : Ending) (w' : World) : Prop := ∃ (d x y z a b c : Int), e = .returned (.tuple #[.int .i64 d, .agg #[.int .i64 x, .int .i64 y, .int .i64 z], .agg #[.int .i64 a, .int .i64 b, .int .i64 c]]) ∧ DrawnE d ∧ Below w.heap.size w w'
set_option maxRecDepth 100000 in
set_option maxHeartbeats 3200000 in
theorem drawIN_any (zs : List Int) (v : Value) (B : Nat) (w : World) (hr : RdB zs v B w) (hB : B ≤ w.heap.size) :
    Calls Tryz.prog 35 #[v] w (RetDn w) := by
  obtain ⟨A, m, c, rfl⟩ := hr.shape
  have hD0 := Lib.hid (drw_start hr)
  clear hr
  have hfin : Hid (∀ (d x : Int) (w' : World) (k : Nat), DrawnE d → Drw zs (.slice A m c) B w.heap.size k (w.alloc (.cells #[.slice A m c, .int .i64 0, .int .u64 0] 51)) w' → RetDn w (.returned (.tuple #[.int .i64 d, .int .i64 x])) w') :=
    Lib.hid (fun d x w' k hx hd => ⟨d, x, rfl, hx, below_cur hd.gr⟩)
  go_enter Tryz.func35, Tryz.ntmps35
  go_wp2_with fail
  refine (fund_d (by repeat (first | with_reducible assumption | (with_reducible apply Hid.out; assumption) | with_reducible apply Drw.drewN | with_reducible apply Drw.drew | with_reducible apply Drw.alloc | (with_reducible refine Drw.setp ?_ ?_ ?_ ?_; (first | omega | (simp <;> omega)); (first | omega | (simp <;> omega)); (first | omega | (simp <;> omega))))) hB (by omega)).mono ?_
  rintro e v1 ⟨d, rfl, hx1, hD1', hG1⟩
  have hD1 := Lib.hid hD1'
  have HX := Lib.hid hx1
  have lG1 := hD1'.lt
  clear hD1' hG1 hx1 hD0
  go_wp2_with fail
  refine (pick_d (by repeat (first | with_reducible assumption | (with_reducible apply Hid.out; assumption) | with_reducible apply Drw.drewN | with_reducible apply Drw.drew | with_reducible apply Drw.alloc | (with_reducible refine Drw.setp ?_ ?_ ?_ ?_; (first | omega | (simp <;> omega)); (first | omega | (simp <;> omega)); (first | omega | (simp <;> omega))))) hB 100 (by omega) (by omega)).mono ?_
  rintro e v2 ⟨x1, rfl, hx1, hD2', hG2⟩
  have hD2 := Lib.hid hD2'
  have lG2 := hD2'.lt
  have W1 : wrap64 (1 + x1) = 1 + x1 := IntWalk.wrap64_in _ (by omega)
  clear hD2' hG2 hx1 hD1
  go_wp2_with fail
  refine (pick_d (by repeat (first | with_reducible assumption | (with_reducible apply Hid.out; assumption) | with_reducible apply Drw.drewN | with_reducible apply Drw.drew | with_reducible apply Drw.alloc | (with_reducible refine Drw.setp ?_ ?_ ?_ ?_; (first | omega | (simp <;> omega)); (first | omega | (simp <;> omega)); (first | omega | (simp <;> omega))))) hB 2000 (by omega) (by omega)).mono ?_
  rintro e v3 ⟨x2, rfl, hx2, hD3', hG3⟩
  have hD3 := Lib.hid hD3'
  have lG3 := hD3'.lt
  have W2 : wrap64 (1 + x2) = 1 + x2 := IntWalk.wrap64_in _ (by omega)
  clear hD3' hG3 hx2 hD2
  go_wp2_with fail
  refine (among_eqR (w := v3) (Hid.out hD3) hB [1, 2, 4, 6, 12, 36, 1 + x1, 1 + x2, 2000, 2001, 0, -1, 900, 1764] (fun _ => True) (by simp) (by simp) (by simp) (by omega) rfl rfl rfl).mono ?_
  rintro e v4 ⟨x3, rfl, -, hD4', hG4⟩
  have hD4 := Lib.hid hD4'
  clear hD4' hG4 hD3
  go_wp2
  go_ret2
  exact hfin.out _ _ _ _ HX.out hD4.out
set_option maxHeartbeats 800000 in
theorem drawCI_any (zs : List Int) (v : Value) (B : Nat) (w : World) (hr : RdB zs v B w) (hB : B ≤ w.heap.size) :
    Calls Tryz.prog 10 #[v] w (RetDn w) := by
  have hD := Lib.hid (drawIN_any zs v B w hr hB)
  obtain ⟨A, m, c, rfl⟩ := hr.shape
  clear hr
  go_enter Tryz.func10, Tryz.ntmps10
  go_wp2_with (go_at_call 35; (with_reducible refine hD.out.mono ?_); rintro e v1 ⟨d, p, rfl, hd, hb⟩)
  go_ret2
  exact ⟨_, _, rfl, hd, hb⟩
set_option maxRecDepth 100000 in
set_option maxHeartbeats 6400000 in
theorem drawIQ_any (zs : List Int) (v : Value) (B : Nat) (w : World) (hr : RdB zs v B w) (hB0 : B ≤ w.heap.size) :
    Calls Tryz.prog 5 #[v] w (RetDI2E w) := by
  obtain ⟨A, m, c, rfl⟩ := hr.shape
  have hD0 := Lib.hid (drw_start3I (.cells #[.int .i64 0, .int .i64 0, .int .i64 0] 25) (.cells #[.int .i64 0, .int .i64 0, .int .i64 0] 25) hr)
  have hB : B ≤ w.heap.size + 1 + 1 := by omega
  clear hr
  have hfin := Lib.hid (fun d x y z a b e w' (hx : DrawnE d) (h : Drw zs (.slice A m c) B (w.heap.size + 1 + 1) 300 w w') => (⟨d, x, y, z, a, b, e, rfl, hx, below_cur3I h.gr⟩ : RetDI2E w (.returned (.tuple #[.int .i64 d, .agg #[.int .i64 x, .int .i64 y, .int .i64 z], .agg #[.int .i64 a, .int .i64 b, .int .i64 e]])) w'))
  go_enter Tryz.func5, Tryz.ntmps5
  go_wp2_with fail
  refine (fund_d (by repeat (first | with_reducible assumption | (with_reducible apply Hid.out; assumption) | with_reducible apply Drw.drewN | with_reducible apply Drw.drew | with_reducible apply Drw.alloc | (with_reducible refine Drw.setp ?_ ?_ ?_ ?_; (first | omega | (simp <;> omega)); (first | omega | (simp <;> omega)); (first | omega | (simp <;> omega))))) hB (by omega)).mono ?_
  rintro e v1 ⟨d, rfl, hx1, hD1', hG1⟩
  have hD1 := Lib.hid hD1'; have lG1 := hD1'.lt; have zG1 := hG1.size; (try simp at zG1)
  have hA1 : Blk v1 (w.heap.size) 25 #[.int .i64 0, .int .i64 0, .int .i64 0] := Blk.grown (by (repeat (first | with_reducible assumption | (with_reducible apply Blk.new_at; (first | rfl | (simp; done))) | with_reducible apply Blk.store3 | with_reducible apply Blk.store4 | (with_reducible apply Blk.farp; (first | omega | (simp <;> omega))) | with_reducible apply Blk.allocp | with_reducible apply Blk.drew | with_reducible apply Blk.drewN))) hG1 (by simp <;> omega); have cA1 := hA1.cell; have fA1 := hA1.frozen; have lA1 := hA1.lt; have mA1 := Nat.ne_of_gt lA1; have nA1 := Nat.ne_of_lt lA1; have hR1 : Blk v1 (w.heap.size + 1) 25 #[.int .i64 0, .int .i64 0, .int .i64 0] := Blk.grown (by (repeat (first | with_reducible assumption | (with_reducible apply Blk.new_at; (first | rfl | (simp; done))) | with_reducible apply Blk.store3 | with_reducible apply Blk.store4 | (with_reducible apply Blk.farp; (first | omega | (simp <;> omega))) | with_reducible apply Blk.allocp | with_reducible apply Blk.drew | with_reducible apply Blk.drewN))) hG1 (by simp <;> omega); have cR1 := hR1.cell; have fR1 := hR1.frozen; have lR1 := hR1.lt; have mR1 := Nat.ne_of_gt lR1; have nR1 := Nat.ne_of_lt lR1
  clear hD1' hG1 hD0
  have HX := Lib.hid hx1
  clear hx1
  go_wp2_with fail
  refine (product_d (by repeat (first | with_reducible assumption | (with_reducible apply Hid.out; assumption) | with_reducible apply Drw.drewN | with_reducible apply Drw.drew | with_reducible apply Drw.alloc | (with_reducible refine Drw.setp ?_ ?_ ?_ ?_; (first | omega | (simp <;> omega)); (first | omega | (simp <;> omega)); (first | omega | (simp <;> omega))))) hB (by omega) d HX.out).mono ?_
  rintro e v2 ⟨⟨x, y, z⟩, rfl, hx2, hD2', hG2⟩
  have hD2 := Lib.hid hD2'; have lG2 := hD2'.lt; have zG2 := hG2.size; (try simp at zG2)
  have hA2 : Blk v2 (w.heap.size) 25 #[.int .i64 0, .int .i64 0, .int .i64 0] := Blk.grown (by (repeat (first | with_reducible assumption | (with_reducible apply Blk.new_at; (first | rfl | (simp; done))) | with_reducible apply Blk.store3 | with_reducible apply Blk.store4 | (with_reducible apply Blk.farp; (first | omega | (simp <;> omega))) | with_reducible apply Blk.allocp | with_reducible apply Blk.drew | with_reducible apply Blk.drewN))) hG2 (by simp <;> omega); have cA2 := hA2.cell; have fA2 := hA2.frozen; have lA2 := hA2.lt; have mA2 := Nat.ne_of_gt lA2; have nA2 := Nat.ne_of_lt lA2; have hR2 : Blk v2 (w.heap.size + 1) 25 #[.int .i64 0, .int .i64 0, .int .i64 0] := Blk.grown (by (repeat (first | with_reducible assumption | (with_reducible apply Blk.new_at; (first | rfl | (simp; done))) | with_reducible apply Blk.store3 | with_reducible apply Blk.store4 | (with_reducible apply Blk.farp; (first | omega | (simp <;> omega))) | with_reducible apply Blk.allocp | with_reducible apply Blk.drew | with_reducible apply Blk.drewN))) hG2 (by simp <;> omega); have cR2 := hR2.cell; have fR2 := hR2.frozen; have lR2 := hR2.lt; have mR2 := Nat.ne_of_gt lR2; have nR2 := Nat.ne_of_lt lR2
  clear hD2' hG2 hx2 hA1 cA1 fA1 lA1 mA1 nA1 hR1 cR1 fR1 lR1 mR1 nR1 hD1
  go_wp2_with fail
  refine (product_d (by repeat (first | with_reducible assumption | (with_reducible apply Hid.out; assumption) | with_reducible apply Drw.drewN | with_reducible apply Drw.drew | with_reducible apply Drw.alloc | (with_reducible refine Drw.setp ?_ ?_ ?_ ?_; (first | omega | (simp <;> omega)); (first | omega | (simp <;> omega)); (first | omega | (simp <;> omega))))) hB (by omega) d HX.out).mono ?_
  rintro e v3 ⟨⟨a, b, c'⟩, rfl, hx3, hD3', hG3⟩
  have hD3 := Lib.hid hD3'; have lG3 := hD3'.lt; have zG3 := hG3.size; (try simp at zG3)
  have hA3 : Blk v3 (w.heap.size) 25 #[.int .i64 0, .int .i64 0, .int .i64 0] := Blk.grown (by (repeat (first | with_reducible assumption | (with_reducible apply Blk.new_at; (first | rfl | (simp; done))) | with_reducible apply Blk.store3 | with_reducible apply Blk.store4 | (with_reducible apply Blk.farp; (first | omega | (simp <;> omega))) | with_reducible apply Blk.allocp | with_reducible apply Blk.drew | with_reducible apply Blk.drewN))) hG3 (by simp <;> omega); have cA3 := hA3.cell; have fA3 := hA3.frozen; have lA3 := hA3.lt; have mA3 := Nat.ne_of_gt lA3; have nA3 := Nat.ne_of_lt lA3; have hR3 : Blk v3 (w.heap.size + 1) 25 #[.int .i64 0, .int .i64 0, .int .i64 0] := Blk.grown (by (repeat (first | with_reducible assumption | (with_reducible apply Blk.new_at; (first | rfl | (simp; done))) | with_reducible apply Blk.store3 | with_reducible apply Blk.store4 | (with_reducible apply Blk.farp; (first | omega | (simp <;> omega))) | with_reducible apply Blk.allocp | with_reducible apply Blk.drew | with_reducible apply Blk.drewN))) hG3 (by simp <;> omega); have cR3 := hR3.cell; have fR3 := hR3.frozen; have lR3 := hR3.lt; have mR3 := Nat.ne_of_gt lR3; have nR3 := Nat.ne_of_lt lR3
  clear hD3' hG3 hx3 hA2 cA2 fA2 lA2 mA2 nA2 hR2 cR2 fR2 lR2 mR2 nR2 hD2
  have hI := Lib.hid (fun w => piGood_any d x y z w HX.out)
  have hJ := Lib.hid (fun w => piGood_any d a b c' w HX.out)
  cases hi : (piB d && idB d x y z) with
  | false =>
    rw [hi] at hI
    clear hi hJ
    go_upto_region 8 with ((go_at_call 22; (with_reducible refine (hI.out _).mono ?_); rintro e v4 ⟨rfl, hB4⟩; have zG4 := hB4.size; (try simp at zG4); have hA4 : Blk v4 (w.heap.size) 25 #[.int .i64 0, .int .i64 0, .int .i64 0] := Blk.call (by (repeat (first | with_reducible assumption | (with_reducible apply Blk.new_at; (first | rfl | (simp; done))) | with_reducible apply Blk.store3 | with_reducible apply Blk.store4 | (with_reducible apply Blk.farp; (first | omega | (simp <;> omega))) | with_reducible apply Blk.allocp | with_reducible apply Blk.drew | with_reducible apply Blk.drewN))) hB4; have cA4 := hA4.cell; have fA4 := hA4.frozen; have lA4 := hA4.lt; have mA4 := Nat.ne_of_gt lA4; have nA4 := Nat.ne_of_lt lA4; have hR4 : Blk v4 (w.heap.size + 1) 25 #[.int .i64 0, .int .i64 0, .int .i64 0] := Blk.call (by (repeat (first | with_reducible assumption | (with_reducible apply Blk.new_at; (first | rfl | (simp; done))) | with_reducible apply Blk.store3 | with_reducible apply Blk.store4 | (with_reducible apply Blk.farp; (first | omega | (simp <;> omega))) | with_reducible apply Blk.allocp | with_reducible apply Blk.drew | with_reducible apply Blk.drewN))) hB4; have cR4 := hR4.cell; have fR4 := hR4.frozen; have lR4 := hR4.lt; have mR4 := Nat.ne_of_gt lR4; have nR4 := Nat.ne_of_lt lR4; have hX4 : Blk v4 (v3.heap.size) 25 #[.int .i64 x, .int .i64 y, .int .i64 z] := Blk.call (by (repeat (first | with_reducible assumption | (with_reducible apply Blk.new_at; (first | rfl | (simp; done))) | with_reducible apply Blk.store3 | with_reducible apply Blk.store4 | (with_reducible apply Blk.farp; (first | omega | (simp <;> omega))) | with_reducible apply Blk.allocp | with_reducible apply Blk.drew | with_reducible apply Blk.drewN))) hB4; have cX4 := hX4.cell; have fX4 := hX4.frozen; have lX4 := hX4.lt; have mX4 := Nat.ne_of_gt lX4; have nX4 := Nat.ne_of_lt lX4; have hY4 : Blk v4 (v3.heap.size + 1) 25 #[.int .i64 a, .int .i64 b, .int .i64 c'] := Blk.call (by (repeat (first | with_reducible assumption | (with_reducible apply Blk.new_at; (first | rfl | (simp; done))) | with_reducible apply Blk.store3 | with_reducible apply Blk.store4 | (with_reducible apply Blk.farp; (first | omega | (simp <;> omega))) | with_reducible apply Blk.allocp | with_reducible apply Blk.drew | with_reducible apply Blk.drewN))) hB4; have cY4 := hY4.cell; have fY4 := hY4.frozen; have lY4 := hY4.lt; have mY4 := Nat.ne_of_gt lY4; have nY4 := Nat.ne_of_lt lY4; have hD4 := Lib.hid (Drw.call (w := _) (n := 0 + 6 + 100 + 100) (zs := zs) (v := .slice A m c) (B := B) (G := w.heap.size + 1 + 1) (w0 := w) (by repeat (first | with_reducible assumption | (with_reducible apply Hid.out; assumption) | with_reducible apply Drw.drewN | with_reducible apply Drw.drew | with_reducible apply Drw.alloc | (with_reducible refine Drw.setp ?_ ?_ ?_ ?_; (first | omega | (simp <;> omega)); (first | omega | (simp <;> omega)); (first | omega | (simp <;> omega))))) hB hB4); have lG4 := hD4.out.lt))
    go_region
    all_goals
      go_wp2
      exact bodyPost_ret (v := .tuple #[.int .i64 d, .agg #[.int .i64 x, .int .i64 y, .int .i64 z], .agg #[.int .i64 a, .int .i64 b, .int .i64 c']]) (by simp [results, Tryz.results5, go_sem, *]) rfl (hfin.out _ _ _ _ _ _ _ _ HX.out (Drw.more (n := 0 + 6 + 100 + 100) (by repeat (first | with_reducible assumption | (with_reducible apply Hid.out; assumption) | with_reducible apply Drw.drewN | with_reducible apply Drw.drew | with_reducible apply Drw.alloc | (with_reducible refine Drw.setp ?_ ?_ ?_ ?_; (first | omega | (simp <;> omega)); (first | omega | (simp <;> omega)); (first | omega | (simp <;> omega))))) (by omega)))
  | true =>
    rw [hi] at hI
    have HV := Lib.hid (idB_iff.1 (by rw [Bool.and_eq_true] at hi; exact hi.2))
    clear hi
    cases hj : (piB d && idB d a b c') with
    | false =>
      rw [hj] at hJ
      clear hj
      go_upto_region 8 with (first | (go_at_call 22; (with_reducible refine (hI.out _).mono ?_); rintro e v4 ⟨rfl, hB4⟩; have zG4 := hB4.size; (try simp at zG4); have hA4 : Blk v4 (w.heap.size) 25 #[.int .i64 0, .int .i64 0, .int .i64 0] := Blk.call (by (repeat (first | with_reducible assumption | (with_reducible apply Blk.new_at; (first | rfl | (simp; done))) | with_reducible apply Blk.store3 | with_reducible apply Blk.store4 | (with_reducible apply Blk.farp; (first | omega | (simp <;> omega))) | with_reducible apply Blk.allocp | with_reducible apply Blk.drew | with_reducible apply Blk.drewN))) hB4; have cA4 := hA4.cell; have fA4 := hA4.frozen; have lA4 := hA4.lt; have mA4 := Nat.ne_of_gt lA4; have nA4 := Nat.ne_of_lt lA4; have hR4 : Blk v4 (w.heap.size + 1) 25 #[.int .i64 0, .int .i64 0, .int .i64 0] := Blk.call (by (repeat (first | with_reducible assumption | (with_reducible apply Blk.new_at; (first | rfl | (simp; done))) | with_reducible apply Blk.store3 | with_reducible apply Blk.store4 | (with_reducible apply Blk.farp; (first | omega | (simp <;> omega))) | with_reducible apply Blk.allocp | with_reducible apply Blk.drew | with_reducible apply Blk.drewN))) hB4; have cR4 := hR4.cell; have fR4 := hR4.frozen; have lR4 := hR4.lt; have mR4 := Nat.ne_of_gt lR4; have nR4 := Nat.ne_of_lt lR4; have hX4 : Blk v4 (v3.heap.size) 25 #[.int .i64 x, .int .i64 y, .int .i64 z] := Blk.call (by (repeat (first | with_reducible assumption | (with_reducible apply Blk.new_at; (first | rfl | (simp; done))) | with_reducible apply Blk.store3 | with_reducible apply Blk.store4 | (with_reducible apply Blk.farp; (first | omega | (simp <;> omega))) | with_reducible apply Blk.allocp | with_reducible apply Blk.drew | with_reducible apply Blk.drewN))) hB4; have cX4 := hX4.cell; have fX4 := hX4.frozen; have lX4 := hX4.lt; have mX4 := Nat.ne_of_gt lX4; have nX4 := Nat.ne_of_lt lX4; have hY4 : Blk v4 (v3.heap.size + 1) 25 #[.int .i64 a, .int .i64 b, .int .i64 c'] := Blk.call (by (repeat (first | with_reducible assumption | (with_reducible apply Blk.new_at; (first | rfl | (simp; done))) | with_reducible apply Blk.store3 | with_reducible apply Blk.store4 | (with_reducible apply Blk.farp; (first | omega | (simp <;> omega))) | with_reducible apply Blk.allocp | with_reducible apply Blk.drew | with_reducible apply Blk.drewN))) hB4; have cY4 := hY4.cell; have fY4 := hY4.frozen; have lY4 := hY4.lt; have mY4 := Nat.ne_of_gt lY4; have nY4 := Nat.ne_of_lt lY4; have hD4 := Lib.hid (Drw.call (w := _) (n := 0 + 6 + 100 + 100) (zs := zs) (v := .slice A m c) (B := B) (G := w.heap.size + 1 + 1) (w0 := w) (by repeat (first | with_reducible assumption | (with_reducible apply Hid.out; assumption) | with_reducible apply Drw.drewN | with_reducible apply Drw.drew | with_reducible apply Drw.alloc | (with_reducible refine Drw.setp ?_ ?_ ?_ ?_; (first | omega | (simp <;> omega)); (first | omega | (simp <;> omega)); (first | omega | (simp <;> omega))))) hB hB4); have lG4 := hD4.out.lt) | (go_at_call 22; (with_reducible refine (hJ.out _).mono ?_); rintro e v5 ⟨rfl, hB5⟩; have zG5 := hB5.size; (try simp at zG5); have hA5 : Blk v5 (w.heap.size) 25 #[.int .i64 0, .int .i64 0, .int .i64 0] := Blk.call (by (repeat (first | with_reducible assumption | (with_reducible apply Blk.new_at; (first | rfl | (simp; done))) | with_reducible apply Blk.store3 | with_reducible apply Blk.store4 | (with_reducible apply Blk.farp; (first | omega | (simp <;> omega))) | with_reducible apply Blk.allocp | with_reducible apply Blk.drew | with_reducible apply Blk.drewN))) hB5; have cA5 := hA5.cell; have fA5 := hA5.frozen; have lA5 := hA5.lt; have mA5 := Nat.ne_of_gt lA5; have nA5 := Nat.ne_of_lt lA5; have hR5 : Blk v5 (w.heap.size + 1) 25 #[.int .i64 0, .int .i64 0, .int .i64 0] := Blk.call (by (repeat (first | with_reducible assumption | (with_reducible apply Blk.new_at; (first | rfl | (simp; done))) | with_reducible apply Blk.store3 | with_reducible apply Blk.store4 | (with_reducible apply Blk.farp; (first | omega | (simp <;> omega))) | with_reducible apply Blk.allocp | with_reducible apply Blk.drew | with_reducible apply Blk.drewN))) hB5; have cR5 := hR5.cell; have fR5 := hR5.frozen; have lR5 := hR5.lt; have mR5 := Nat.ne_of_gt lR5; have nR5 := Nat.ne_of_lt lR5; have hX5 : Blk v5 (v3.heap.size) 25 #[.int .i64 x, .int .i64 y, .int .i64 z] := Blk.call (by (repeat (first | with_reducible assumption | (with_reducible apply Blk.new_at; (first | rfl | (simp; done))) | with_reducible apply Blk.store3 | with_reducible apply Blk.store4 | (with_reducible apply Blk.farp; (first | omega | (simp <;> omega))) | with_reducible apply Blk.allocp | with_reducible apply Blk.drew | with_reducible apply Blk.drewN))) hB5; have cX5 := hX5.cell; have fX5 := hX5.frozen; have lX5 := hX5.lt; have mX5 := Nat.ne_of_gt lX5; have nX5 := Nat.ne_of_lt lX5; have hY5 : Blk v5 (v3.heap.size + 1) 25 #[.int .i64 a, .int .i64 b, .int .i64 c'] := Blk.call (by (repeat (first | with_reducible assumption | (with_reducible apply Blk.new_at; (first | rfl | (simp; done))) | with_reducible apply Blk.store3 | with_reducible apply Blk.store4 | (with_reducible apply Blk.farp; (first | omega | (simp <;> omega))) | with_reducible apply Blk.allocp | with_reducible apply Blk.drew | with_reducible apply Blk.drewN))) hB5; have cY5 := hY5.cell; have fY5 := hY5.frozen; have lY5 := hY5.lt; have mY5 := Nat.ne_of_gt lY5; have nY5 := Nat.ne_of_lt lY5; have hD5 := Lib.hid (Drw.call (w := _) (n := 0 + 6 + 100 + 100) (zs := zs) (v := .slice A m c) (B := B) (G := w.heap.size + 1 + 1) (w0 := w) (by repeat (first | with_reducible assumption | (with_reducible apply Hid.out; assumption) | with_reducible apply Drw.drewN | with_reducible apply Drw.drew | with_reducible apply Drw.alloc | (with_reducible refine Drw.setp ?_ ?_ ?_ ?_; (first | omega | (simp <;> omega)); (first | omega | (simp <;> omega)); (first | omega | (simp <;> omega))))) hB hB5); have lG5 := hD5.out.lt))
      go_region
      all_goals
        go_wp2
        exact bodyPost_ret (v := .tuple #[.int .i64 d, .agg #[.int .i64 x, .int .i64 y, .int .i64 z], .agg #[.int .i64 a, .int .i64 b, .int .i64 c']]) (by simp [results, Tryz.results5, go_sem, *]) rfl (hfin.out _ _ _ _ _ _ _ _ HX.out (Drw.more (n := 0 + 6 + 100 + 100) (by repeat (first | with_reducible assumption | (with_reducible apply Hid.out; assumption) | with_reducible apply Drw.drewN | with_reducible apply Drw.drew | with_reducible apply Drw.alloc | (with_reducible refine Drw.setp ?_ ?_ ?_ ?_; (first | omega | (simp <;> omega)); (first | omega | (simp <;> omega)); (first | omega | (simp <;> omega))))) (by omega)))
    | true =>
      rw [hj] at hJ
      have HW := Lib.hid (idB_iff.1 (by rw [Bool.and_eq_true] at hj; exact hj.2))
      clear hj
      go_wp2_with (first | (go_at_call 22; (with_reducible refine (hI.out _).mono ?_); rintro e v4 ⟨rfl, hB4⟩; have zG4 := hB4.size; (try simp at zG4); have hA4 : Blk v4 (w.heap.size) 25 #[.int .i64 0, .int .i64 0, .int .i64 0] := Blk.call (by (repeat (first | with_reducible assumption | (with_reducible apply Blk.new_at; (first | rfl | (simp; done))) | with_reducible apply Blk.store3 | with_reducible apply Blk.store4 | (with_reducible apply Blk.farp; (first | omega | (simp <;> omega))) | with_reducible apply Blk.allocp | with_reducible apply Blk.drew | with_reducible apply Blk.drewN))) hB4; have cA4 := hA4.cell; have fA4 := hA4.frozen; have lA4 := hA4.lt; have mA4 := Nat.ne_of_gt lA4; have nA4 := Nat.ne_of_lt lA4; have hR4 : Blk v4 (w.heap.size + 1) 25 #[.int .i64 0, .int .i64 0, .int .i64 0] := Blk.call (by (repeat (first | with_reducible assumption | (with_reducible apply Blk.new_at; (first | rfl | (simp; done))) | with_reducible apply Blk.store3 | with_reducible apply Blk.store4 | (with_reducible apply Blk.farp; (first | omega | (simp <;> omega))) | with_reducible apply Blk.allocp | with_reducible apply Blk.drew | with_reducible apply Blk.drewN))) hB4; have cR4 := hR4.cell; have fR4 := hR4.frozen; have lR4 := hR4.lt; have mR4 := Nat.ne_of_gt lR4; have nR4 := Nat.ne_of_lt lR4; have hX4 : Blk v4 (v3.heap.size) 25 #[.int .i64 x, .int .i64 y, .int .i64 z] := Blk.call (by (repeat (first | with_reducible assumption | (with_reducible apply Blk.new_at; (first | rfl | (simp; done))) | with_reducible apply Blk.store3 | with_reducible apply Blk.store4 | (with_reducible apply Blk.farp; (first | omega | (simp <;> omega))) | with_reducible apply Blk.allocp | with_reducible apply Blk.drew | with_reducible apply Blk.drewN))) hB4; have cX4 := hX4.cell; have fX4 := hX4.frozen; have lX4 := hX4.lt; have mX4 := Nat.ne_of_gt lX4; have nX4 := Nat.ne_of_lt lX4; have hY4 : Blk v4 (v3.heap.size + 1) 25 #[.int .i64 a, .int .i64 b, .int .i64 c'] := Blk.call (by (repeat (first | with_reducible assumption | (with_reducible apply Blk.new_at; (first | rfl | (simp; done))) | with_reducible apply Blk.store3 | with_reducible apply Blk.store4 | (with_reducible apply Blk.farp; (first | omega | (simp <;> omega))) | with_reducible apply Blk.allocp | with_reducible apply Blk.drew | with_reducible apply Blk.drewN))) hB4; have cY4 := hY4.cell; have fY4 := hY4.frozen; have lY4 := hY4.lt; have mY4 := Nat.ne_of_gt lY4; have nY4 := Nat.ne_of_lt lY4; have hD4 := Lib.hid (Drw.call (w := _) (n := 0 + 6 + 100 + 100) (zs := zs) (v := .slice A m c) (B := B) (G := w.heap.size + 1 + 1) (w0 := w) (by repeat (first | with_reducible assumption | (with_reducible apply Hid.out; assumption) | with_reducible apply Drw.drewN | with_reducible apply Drw.drew | with_reducible apply Drw.alloc | (with_reducible refine Drw.setp ?_ ?_ ?_ ?_; (first | omega | (simp <;> omega)); (first | omega | (simp <;> omega)); (first | omega | (simp <;> omega))))) hB hB4); have lG4 := hD4.out.lt) | (go_at_call 22; (with_reducible refine (hJ.out _).mono ?_); rintro e v5 ⟨rfl, hB5⟩; have zG5 := hB5.size; (try simp at zG5); have hA5 : Blk v5 (w.heap.size) 25 #[.int .i64 0, .int .i64 0, .int .i64 0] := Blk.call (by (repeat (first | with_reducible assumption | (with_reducible apply Blk.new_at; (first | rfl | (simp; done))) | with_reducible apply Blk.store3 | with_reducible apply Blk.store4 | (with_reducible apply Blk.farp; (first | omega | (simp <;> omega))) | with_reducible apply Blk.allocp | with_reducible apply Blk.drew | with_reducible apply Blk.drewN))) hB5; have cA5 := hA5.cell; have fA5 := hA5.frozen; have lA5 := hA5.lt; have mA5 := Nat.ne_of_gt lA5; have nA5 := Nat.ne_of_lt lA5; have hR5 : Blk v5 (w.heap.size + 1) 25 #[.int .i64 0, .int .i64 0, .int .i64 0] := Blk.call (by (repeat (first | with_reducible assumption | (with_reducible apply Blk.new_at; (first | rfl | (simp; done))) | with_reducible apply Blk.store3 | with_reducible apply Blk.store4 | (with_reducible apply Blk.farp; (first | omega | (simp <;> omega))) | with_reducible apply Blk.allocp | with_reducible apply Blk.drew | with_reducible apply Blk.drewN))) hB5; have cR5 := hR5.cell; have fR5 := hR5.frozen; have lR5 := hR5.lt; have mR5 := Nat.ne_of_gt lR5; have nR5 := Nat.ne_of_lt lR5; have hX5 : Blk v5 (v3.heap.size) 25 #[.int .i64 x, .int .i64 y, .int .i64 z] := Blk.call (by (repeat (first | with_reducible assumption | (with_reducible apply Blk.new_at; (first | rfl | (simp; done))) | with_reducible apply Blk.store3 | with_reducible apply Blk.store4 | (with_reducible apply Blk.farp; (first | omega | (simp <;> omega))) | with_reducible apply Blk.allocp | with_reducible apply Blk.drew | with_reducible apply Blk.drewN))) hB5; have cX5 := hX5.cell; have fX5 := hX5.frozen; have lX5 := hX5.lt; have mX5 := Nat.ne_of_gt lX5; have nX5 := Nat.ne_of_lt lX5; have hY5 : Blk v5 (v3.heap.size + 1) 25 #[.int .i64 a, .int .i64 b, .int .i64 c'] := Blk.call (by (repeat (first | with_reducible assumption | (with_reducible apply Blk.new_at; (first | rfl | (simp; done))) | with_reducible apply Blk.store3 | with_reducible apply Blk.store4 | (with_reducible apply Blk.farp; (first | omega | (simp <;> omega))) | with_reducible apply Blk.allocp | with_reducible apply Blk.drew | with_reducible apply Blk.drewN))) hB5; have cY5 := hY5.cell; have fY5 := hY5.frozen; have lY5 := hY5.lt; have mY5 := Nat.ne_of_gt lY5; have nY5 := Nat.ne_of_lt lY5; have hD5 := Lib.hid (Drw.call (w := _) (n := 0 + 6 + 100 + 100) (zs := zs) (v := .slice A m c) (B := B) (G := w.heap.size + 1 + 1) (w0 := w) (by repeat (first | with_reducible assumption | (with_reducible apply Hid.out; assumption) | with_reducible apply Drw.drewN | with_reducible apply Drw.drew | with_reducible apply Drw.alloc | (with_reducible refine Drw.setp ?_ ?_ ?_ ?_; (first | omega | (simp <;> omega)); (first | omega | (simp <;> omega)); (first | omega | (simp <;> omega))))) hB hB5); have lG5 := hD5.out.lt))
      skip
      refine (one_d (n := 0 + 6 + 100 + 100) (by repeat (first | with_reducible assumption | (with_reducible apply Hid.out; assumption) | with_reducible apply Drw.drewN | with_reducible apply Drw.drew | with_reducible apply Drw.alloc | (with_reducible refine Drw.setp ?_ ?_ ?_ ?_; (first | omega | (simp <;> omega)); (first | omega | (simp <;> omega)); (first | omega | (simp <;> omega))))) hB 3 (by omega) (by omega)).mono ?_
      rintro e v6 ⟨x6, rfl, hx6, hD6', hG6⟩
      have hD6 := Lib.hid hD6'; have lG6 := hD6'.lt; have zG6 := hG6.size; (try simp at zG6)
      have hA6 : Blk v6 (w.heap.size) 25 #[.int .i64 0, .int .i64 0, .int .i64 0] := Blk.grown (by (repeat (first | with_reducible assumption | (with_reducible apply Blk.new_at; (first | rfl | (simp; done))) | with_reducible apply Blk.store3 | with_reducible apply Blk.store4 | (with_reducible apply Blk.farp; (first | omega | (simp <;> omega))) | with_reducible apply Blk.allocp | with_reducible apply Blk.drew | with_reducible apply Blk.drewN))) hG6 (by simp <;> omega); have cA6 := hA6.cell; have fA6 := hA6.frozen; have lA6 := hA6.lt; have mA6 := Nat.ne_of_gt lA6; have nA6 := Nat.ne_of_lt lA6; have hR6 : Blk v6 (w.heap.size + 1) 25 #[.int .i64 0, .int .i64 0, .int .i64 0] := Blk.grown (by (repeat (first | with_reducible assumption | (with_reducible apply Blk.new_at; (first | rfl | (simp; done))) | with_reducible apply Blk.store3 | with_reducible apply Blk.store4 | (with_reducible apply Blk.farp; (first | omega | (simp <;> omega))) | with_reducible apply Blk.allocp | with_reducible apply Blk.drew | with_reducible apply Blk.drewN))) hG6 (by simp <;> omega); have cR6 := hR6.cell; have fR6 := hR6.frozen; have lR6 := hR6.lt; have mR6 := Nat.ne_of_gt lR6; have nR6 := Nat.ne_of_lt lR6; have hX6 : Blk v6 (v3.heap.size) 25 #[.int .i64 x, .int .i64 y, .int .i64 z] := Blk.grown (by (repeat (first | with_reducible assumption | (with_reducible apply Blk.new_at; (first | rfl | (simp; done))) | with_reducible apply Blk.store3 | with_reducible apply Blk.store4 | (with_reducible apply Blk.farp; (first | omega | (simp <;> omega))) | with_reducible apply Blk.allocp | with_reducible apply Blk.drew | with_reducible apply Blk.drewN))) hG6 (by simp <;> omega); have cX6 := hX6.cell; have fX6 := hX6.frozen; have lX6 := hX6.lt; have mX6 := Nat.ne_of_gt lX6; have nX6 := Nat.ne_of_lt lX6; have hY6 : Blk v6 (v3.heap.size + 1) 25 #[.int .i64 a, .int .i64 b, .int .i64 c'] := Blk.grown (by (repeat (first | with_reducible assumption | (with_reducible apply Blk.new_at; (first | rfl | (simp; done))) | with_reducible apply Blk.store3 | with_reducible apply Blk.store4 | (with_reducible apply Blk.farp; (first | omega | (simp <;> omega))) | with_reducible apply Blk.allocp | with_reducible apply Blk.drew | with_reducible apply Blk.drewN))) hG6 (by simp <;> omega); have cY6 := hY6.cell; have fY6 := hY6.frozen; have lY6 := hY6.lt; have mY6 := Nat.ne_of_gt lY6; have nY6 := Nat.ne_of_lt lY6
      clear hD6' hG6 hx6 hA3 cA3 fA3 lA3 mA3 nA3 hR3 cR3 fR3 lR3 mR3 nR3 hD3 hA4 cA4 fA4 lA4 mA4 nA4 hR4 cR4 fR4 lR4 mR4 nR4 hX4 cX4 fX4 lX4 mX4 nX4 hY4 cY4 fY4 lY4 mY4 nY4 hD4 hA5 cA5 fA5 lA5 mA5 nA5 hR5 cR5 fR5 lR5 mR5 nR5 hX5 cX5 fX5 lX5 mX5 nX5 hY5 cY5 fY5 lY5 mY5 nY5 hD5
      cases x6 with
      | true =>
        go_upto_region 8 with (fail)
        go_region
        all_goals
          go_wp2
          exact bodyPost_ret (v := .tuple #[.int .i64 d, .agg #[.int .i64 x, .int .i64 y, .int .i64 z], .agg #[.int .i64 a, .int .i64 b, .int .i64 c']]) (by simp [results, Tryz.results5, go_sem, *]) rfl (hfin.out _ _ _ _ _ _ _ _ HX.out (Drw.more (n := 0 + 6 + 100 + 100 + 2) (by repeat (first | with_reducible assumption | (with_reducible apply Hid.out; assumption) | with_reducible apply Drw.drewN | with_reducible apply Drw.drew | with_reducible apply Drw.alloc | (with_reducible refine Drw.setp ?_ ?_ ?_ ?_; (first | omega | (simp <;> omega)); (first | omega | (simp <;> omega)); (first | omega | (simp <;> omega))))) (by omega)))
      | false =>
        go_upto_region 6 with ((go_at_call 24; (with_reducible refine (idProd_ex _ HV.out HW.out).mono ?_); rintro e v7 ⟨x', y', z', rfl, hB7⟩; have zG7 := hB7.size; (try simp at zG7); have hA7 : Blk v7 (w.heap.size) 25 #[.int .i64 0, .int .i64 0, .int .i64 0] := Blk.call (by (repeat (first | with_reducible assumption | (with_reducible apply Blk.new_at; (first | rfl | (simp; done))) | with_reducible apply Blk.store3 | with_reducible apply Blk.store4 | (with_reducible apply Blk.farp; (first | omega | (simp <;> omega))) | with_reducible apply Blk.allocp | with_reducible apply Blk.drew | with_reducible apply Blk.drewN))) hB7; have cA7 := hA7.cell; have fA7 := hA7.frozen; have lA7 := hA7.lt; have mA7 := Nat.ne_of_gt lA7; have nA7 := Nat.ne_of_lt lA7; have hR7 : Blk v7 (w.heap.size + 1) 25 #[.int .i64 0, .int .i64 0, .int .i64 0] := Blk.call (by (repeat (first | with_reducible assumption | (with_reducible apply Blk.new_at; (first | rfl | (simp; done))) | with_reducible apply Blk.store3 | with_reducible apply Blk.store4 | (with_reducible apply Blk.farp; (first | omega | (simp <;> omega))) | with_reducible apply Blk.allocp | with_reducible apply Blk.drew | with_reducible apply Blk.drewN))) hB7; have cR7 := hR7.cell; have fR7 := hR7.frozen; have lR7 := hR7.lt; have mR7 := Nat.ne_of_gt lR7; have nR7 := Nat.ne_of_lt lR7; have hX7 : Blk v7 (v3.heap.size) 25 #[.int .i64 x, .int .i64 y, .int .i64 z] := Blk.call (by (repeat (first | with_reducible assumption | (with_reducible apply Blk.new_at; (first | rfl | (simp; done))) | with_reducible apply Blk.store3 | with_reducible apply Blk.store4 | (with_reducible apply Blk.farp; (first | omega | (simp <;> omega))) | with_reducible apply Blk.allocp | with_reducible apply Blk.drew | with_reducible apply Blk.drewN))) hB7; have cX7 := hX7.cell; have fX7 := hX7.frozen; have lX7 := hX7.lt; have mX7 := Nat.ne_of_gt lX7; have nX7 := Nat.ne_of_lt lX7; have hY7 : Blk v7 (v3.heap.size + 1) 25 #[.int .i64 a, .int .i64 b, .int .i64 c'] := Blk.call (by (repeat (first | with_reducible assumption | (with_reducible apply Blk.new_at; (first | rfl | (simp; done))) | with_reducible apply Blk.store3 | with_reducible apply Blk.store4 | (with_reducible apply Blk.farp; (first | omega | (simp <;> omega))) | with_reducible apply Blk.allocp | with_reducible apply Blk.drew | with_reducible apply Blk.drewN))) hB7; have cY7 := hY7.cell; have fY7 := hY7.frozen; have lY7 := hY7.lt; have mY7 := Nat.ne_of_gt lY7; have nY7 := Nat.ne_of_lt lY7; have hD7 := Lib.hid (Drw.call (w := _) (n := 0 + 6 + 100 + 100 + 2) (zs := zs) (v := .slice A m c) (B := B) (G := w.heap.size + 1 + 1) (w0 := w) (by repeat (first | with_reducible assumption | (with_reducible apply Hid.out; assumption) | with_reducible apply Drw.drewN | with_reducible apply Drw.drew | with_reducible apply Drw.alloc | (with_reducible refine Drw.setp ?_ ?_ ?_ ?_; (first | omega | (simp <;> omega)); (first | omega | (simp <;> omega)); (first | omega | (simp <;> omega))))) hB hB7); have lG7 := hD7.out.lt))
        have hK := Lib.hid (fun w => idGood_any d x' y' z' w)
        cases hk : idB d x' y' z' with
        | false =>
          rw [hk] at hK
          go_upto_region 8 with ((go_at_call 25; (with_reducible refine (hK.out _).mono ?_); rintro e v8 ⟨rfl, hB8⟩; have zG8 := hB8.size; (try simp at zG8); have hA8 : Blk v8 (w.heap.size) 25 #[.int .i64 0, .int .i64 0, .int .i64 0] := Blk.call (by (repeat (first | with_reducible assumption | (with_reducible apply Blk.new_at; (first | rfl | (simp; done))) | with_reducible apply Blk.store3 | with_reducible apply Blk.store4 | (with_reducible apply Blk.farp; (first | omega | (simp <;> omega))) | with_reducible apply Blk.allocp | with_reducible apply Blk.drew | with_reducible apply Blk.drewN))) hB8; have cA8 := hA8.cell; have fA8 := hA8.frozen; have lA8 := hA8.lt; have mA8 := Nat.ne_of_gt lA8; have nA8 := Nat.ne_of_lt lA8; have hR8 : Blk v8 (w.heap.size + 1) 25 #[.int .i64 0, .int .i64 0, .int .i64 0] := Blk.call (by (repeat (first | with_reducible assumption | (with_reducible apply Blk.new_at; (first | rfl | (simp; done))) | with_reducible apply Blk.store3 | with_reducible apply Blk.store4 | (with_reducible apply Blk.farp; (first | omega | (simp <;> omega))) | with_reducible apply Blk.allocp | with_reducible apply Blk.drew | with_reducible apply Blk.drewN))) hB8; have cR8 := hR8.cell; have fR8 := hR8.frozen; have lR8 := hR8.lt; have mR8 := Nat.ne_of_gt lR8; have nR8 := Nat.ne_of_lt lR8; have hX8 : Blk v8 (v3.heap.size) 25 #[.int .i64 x, .int .i64 y, .int .i64 z] := Blk.call (by (repeat (first | with_reducible assumption | (with_reducible apply Blk.new_at; (first | rfl | (simp; done))) | with_reducible apply Blk.store3 | with_reducible apply Blk.store4 | (with_reducible apply Blk.farp; (first | omega | (simp <;> omega))) | with_reducible apply Blk.allocp | with_reducible apply Blk.drew | with_reducible apply Blk.drewN))) hB8; have cX8 := hX8.cell; have fX8 := hX8.frozen; have lX8 := hX8.lt; have mX8 := Nat.ne_of_gt lX8; have nX8 := Nat.ne_of_lt lX8; have hY8 : Blk v8 (v3.heap.size + 1) 25 #[.int .i64 a, .int .i64 b, .int .i64 c'] := Blk.call (by (repeat (first | with_reducible assumption | (with_reducible apply Blk.new_at; (first | rfl | (simp; done))) | with_reducible apply Blk.store3 | with_reducible apply Blk.store4 | (with_reducible apply Blk.farp; (first | omega | (simp <;> omega))) | with_reducible apply Blk.allocp | with_reducible apply Blk.drew | with_reducible apply Blk.drewN))) hB8; have cY8 := hY8.cell; have fY8 := hY8.frozen; have lY8 := hY8.lt; have mY8 := Nat.ne_of_gt lY8; have nY8 := Nat.ne_of_lt lY8; have hW8 : Blk v8 (v7.heap.size) 25 #[.int .i64 x', .int .i64 y', .int .i64 z'] := Blk.call (by (repeat (first | with_reducible assumption | (with_reducible apply Blk.new_at; (first | rfl | (simp; done))) | with_reducible apply Blk.store3 | with_reducible apply Blk.store4 | (with_reducible apply Blk.farp; (first | omega | (simp <;> omega))) | with_reducible apply Blk.allocp | with_reducible apply Blk.drew | with_reducible apply Blk.drewN))) hB8; have cW8 := hW8.cell; have fW8 := hW8.frozen; have lW8 := hW8.lt; have mW8 := Nat.ne_of_gt lW8; have nW8 := Nat.ne_of_lt lW8; have hD8 := Lib.hid (Drw.call (w := _) (n := 0 + 6 + 100 + 100 + 2) (zs := zs) (v := .slice A m c) (B := B) (G := w.heap.size + 1 + 1) (w0 := w) (by repeat (first | with_reducible assumption | (with_reducible apply Hid.out; assumption) | with_reducible apply Drw.drewN | with_reducible apply Drw.drew | with_reducible apply Drw.alloc | (with_reducible refine Drw.setp ?_ ?_ ?_ ?_; (first | omega | (simp <;> omega)); (first | omega | (simp <;> omega)); (first | omega | (simp <;> omega))))) hB hB8); have lG8 := hD8.out.lt))
          go_region
          all_goals
            go_wp2
            exact bodyPost_ret (v := .tuple #[.int .i64 d, .agg #[.int .i64 x, .int .i64 y, .int .i64 z], .agg #[.int .i64 a, .int .i64 b, .int .i64 c']]) (by simp [results, Tryz.results5, go_sem, *]) rfl (hfin.out _ _ _ _ _ _ _ _ HX.out (Drw.more (n := 0 + 6 + 100 + 100 + 2) (by repeat (first | with_reducible assumption | (with_reducible apply Hid.out; assumption) | with_reducible apply Drw.drewN | with_reducible apply Drw.drew | with_reducible apply Drw.alloc | (with_reducible refine Drw.setp ?_ ?_ ?_ ?_; (first | omega | (simp <;> omega)); (first | omega | (simp <;> omega)); (first | omega | (simp <;> omega))))) (by omega)))
        | true =>
          rw [hk] at hK
          go_upto_region 7 with ((go_at_call 25; (with_reducible refine (hK.out _).mono ?_); rintro e v8 ⟨rfl, hB8⟩; have zG8 := hB8.size; (try simp at zG8); have hA8 : Blk v8 (w.heap.size) 25 #[.int .i64 0, .int .i64 0, .int .i64 0] := Blk.call (by (repeat (first | with_reducible assumption | (with_reducible apply Blk.new_at; (first | rfl | (simp; done))) | with_reducible apply Blk.store3 | with_reducible apply Blk.store4 | (with_reducible apply Blk.farp; (first | omega | (simp <;> omega))) | with_reducible apply Blk.allocp | with_reducible apply Blk.drew | with_reducible apply Blk.drewN))) hB8; have cA8 := hA8.cell; have fA8 := hA8.frozen; have lA8 := hA8.lt; have mA8 := Nat.ne_of_gt lA8; have nA8 := Nat.ne_of_lt lA8; have hR8 : Blk v8 (w.heap.size + 1) 25 #[.int .i64 0, .int .i64 0, .int .i64 0] := Blk.call (by (repeat (first | with_reducible assumption | (with_reducible apply Blk.new_at; (first | rfl | (simp; done))) | with_reducible apply Blk.store3 | with_reducible apply Blk.store4 | (with_reducible apply Blk.farp; (first | omega | (simp <;> omega))) | with_reducible apply Blk.allocp | with_reducible apply Blk.drew | with_reducible apply Blk.drewN))) hB8; have cR8 := hR8.cell; have fR8 := hR8.frozen; have lR8 := hR8.lt; have mR8 := Nat.ne_of_gt lR8; have nR8 := Nat.ne_of_lt lR8; have hX8 : Blk v8 (v3.heap.size) 25 #[.int .i64 x, .int .i64 y, .int .i64 z] := Blk.call (by (repeat (first | with_reducible assumption | (with_reducible apply Blk.new_at; (first | rfl | (simp; done))) | with_reducible apply Blk.store3 | with_reducible apply Blk.store4 | (with_reducible apply Blk.farp; (first | omega | (simp <;> omega))) | with_reducible apply Blk.allocp | with_reducible apply Blk.drew | with_reducible apply Blk.drewN))) hB8; have cX8 := hX8.cell; have fX8 := hX8.frozen; have lX8 := hX8.lt; have mX8 := Nat.ne_of_gt lX8; have nX8 := Nat.ne_of_lt lX8; have hY8 : Blk v8 (v3.heap.size + 1) 25 #[.int .i64 a, .int .i64 b, .int .i64 c'] := Blk.call (by (repeat (first | with_reducible assumption | (with_reducible apply Blk.new_at; (first | rfl | (simp; done))) | with_reducible apply Blk.store3 | with_reducible apply Blk.store4 | (with_reducible apply Blk.farp; (first | omega | (simp <;> omega))) | with_reducible apply Blk.allocp | with_reducible apply Blk.drew | with_reducible apply Blk.drewN))) hB8; have cY8 := hY8.cell; have fY8 := hY8.frozen; have lY8 := hY8.lt; have mY8 := Nat.ne_of_gt lY8; have nY8 := Nat.ne_of_lt lY8; have hW8 : Blk v8 (v7.heap.size) 25 #[.int .i64 x', .int .i64 y', .int .i64 z'] := Blk.call (by (repeat (first | with_reducible assumption | (with_reducible apply Blk.new_at; (first | rfl | (simp; done))) | with_reducible apply Blk.store3 | with_reducible apply Blk.store4 | (with_reducible apply Blk.farp; (first | omega | (simp <;> omega))) | with_reducible apply Blk.allocp | with_reducible apply Blk.drew | with_reducible apply Blk.drewN))) hB8; have cW8 := hW8.cell; have fW8 := hW8.frozen; have lW8 := hW8.lt; have mW8 := Nat.ne_of_gt lW8; have nW8 := Nat.ne_of_lt lW8; have hD8 := Lib.hid (Drw.call (w := _) (n := 0 + 6 + 100 + 100 + 2) (zs := zs) (v := .slice A m c) (B := B) (G := w.heap.size + 1 + 1) (w0 := w) (by repeat (first | with_reducible assumption | (with_reducible apply Hid.out; assumption) | with_reducible apply Drw.drewN | with_reducible apply Drw.drew | with_reducible apply Drw.alloc | (with_reducible refine Drw.setp ?_ ?_ ?_ ?_; (first | omega | (simp <;> omega)); (first | omega | (simp <;> omega)); (first | omega | (simp <;> omega))))) hB hB8); have lG8 := hD8.out.lt))
          go_region
          all_goals
            go_wp2
            exact bodyPost_ret (v := .tuple #[.int .i64 d, .agg #[.int .i64 x', .int .i64 y', .int .i64 z'], .agg #[.int .i64 a, .int .i64 b, .int .i64 c']]) (by simp [results, Tryz.results5, go_sem, *]) rfl (hfin.out _ _ _ _ _ _ _ _ HX.out (Drw.more (n := 0 + 6 + 100 + 100 + 2) (by repeat (first | with_reducible assumption | (with_reducible apply Hid.out; assumption) | with_reducible apply Drw.drewN | with_reducible apply Drw.drew | with_reducible apply Drw.alloc | (with_reducible refine Drw.setp ?_ ?_ ?_ ?_; (first | omega | (simp <;> omega)); (first | omega | (simp <;> omega)); (first | omega | (simp <;> omega))))) (by omega)))
end

section
open Go.RowKit

theorem fund_prim {d a b c : Int} (F : FunD2 d) (ha : 0 < a) (h : b * b - d = 4 * a * c) : Int.gcd a (Int.gcd b c) = 1 := by
  obtain ⟨g, hg⟩ : ∃ g : Nat, Int.gcd a (Int.gcd b c) = g := ⟨_, rfl⟩
  have g1 : (g : Int) ∣ a := hg ▸ Int.gcd_dvd_left ..
  have g2 : (g : Int) ∣ ((Int.gcd b c : Nat) : Int) := hg ▸ Int.gcd_dvd_right ..
  have g3 : (g : Int) ∣ b := Int.dvd_trans g2 (Int.gcd_dvd_left ..)
  have g4 : (g : Int) ∣ c := Int.dvd_trans g2 (Int.gcd_dvd_right ..)
  rw [hg]
  have g0 : g ≠ 0 := by
    intro h0
    rw [h0] at g1
    have := Int.zero_dvd.1 g1
    omega
  refine Classical.byContradiction fun hne => ?_
  have h2 : (2 : Int) ≤ g := by omega
  obtain ⟨a1, rfl⟩ := g1
  obtain ⟨b1, rfl⟩ := g3
  obtain ⟨c1, rfl⟩ := g4
  have e1 : d = (g : Int) * g * (b1 * b1 - 4 * (a1 * c1)) := by
    have e2 : d = (g : Int) * b1 * (g * b1) - 4 * (g * a1) * (g * c1) := by omega
    rw [e2, Int.mul_sub]
    congr 1
    · ac_rfl
    · ac_rfl
  refine F g h2 ⟨_, e1⟩ ?_
  have hz : (g : Int) * g ≠ 0 := Int.ne_of_gt (Int.mul_pos (by omega) (by omega))
  rw [e1, Int.mul_ediv_cancel_left _ hz]
  have hm : b1 % 2 = 0 ∨ b1 % 2 = 1 := by omega
  have e3 : (b1 * b1 - 4 * (a1 * c1)) % 4 = (b1 * b1) % 4 := by omega
  rw [e3]
  rcases hm with hm | hm
  · obtain ⟨q, rfl⟩ : ∃ q, b1 = 2 * q := ⟨b1 / 2, by omega⟩
    have : 2 * q * (2 * q) = 4 * (q * q) := by rw [show (4 : Int) = 2 * 2 from rfl]; ac_rfl
    omega
  · obtain ⟨q, rfl⟩ : ∃ q, b1 = 2 * q + 1 := ⟨b1 / 2, by omega⟩
    have : (2 * q + 1) * (2 * q + 1) = 4 * (q * q + q) + 1 := by
      have h8 : 2 * q * (2 * q) = 4 * (q * q) := by rw [show (4 : Int) = 2 * 2 from rfl]; ac_rfl
      rw [Int.add_mul, Int.mul_add, Int.mul_one, Int.one_mul, h8]
      omega
    omega
theorem piB_fun {d : Int} (h : piB d = true) : FunD2 d := by
  unfold piB at h
  rw [Bool.and_eq_true, decide_eq_true_eq] at h
  exact funD_of h.1 h.2
theorem piB_prim {d e a b c : Int} (h : piB d = true) (V : IdV d e a b) (hc : b * b - d = 4 * a * c) : Int.gcd a (Int.gcd b c) = 1 :=
  fund_prim (piB_fun h) (by have := V.a1; omega) hc
theorem coOrd_ideal {d e a b c : Int} (hp : piB d = true) (V : IdV d e a b) (hc : b * b - d = 4 * a * c) : ∃ N : Int, Hid (∀ w, Calls Tryz.prog 80 #[.agg #[.int .i64 a, .int .i64 b, .int .i64 c]] w fun e w' => e = .returned (.int .i64 N) ∧ Below w.heap.size w w') := by
  have cf := CF.of_cls (V.cls hc (piB_prim hp V hc))
  obtain ⟨hN, hN2⟩ := cf.D.ordm cf.mem
  obtain ⟨N, hN1⟩ : ∃ N, ordF (disc ⟨a, b, c⟩) (red ⟨a, b, c⟩) = N := ⟨_, rfl⟩
  rw [hN1] at hN hN2
  exact ⟨(N : Int), Lib.hid (fun w => coOrder_any _ ⟨a, b, c⟩ _ N w cf hN hN2)⟩
/-- An ideal and a flag. -/
def RetIdB (w : World) (e : Ending) (w' : World) : Prop := ∃ (q1 q2 q3 : Int) (ok : Bool), e = .returned (.tuple #[.agg #[.int .i64 q1, .int .i64 q2, .int .i64 q3], .bool ok]) ∧ Below w.heap.size w w'
set_option maxRecDepth 100000 in
set_option maxHeartbeats 3200000 in
theorem idPower_any (d e a b k : Int) (w : World) (hd : DrawnE d) (hp : piB d = true) (V : IdV d e a b) : Calls Tryz.prog 79 #[.int .i64 d, .agg #[.int .i64 e, .int .i64 a, .int .i64 b], .int .i64 k] w (RetIdB w) := by
  have hG := Lib.hid (fun w => piGood_any d e a b w hd)
  rw [hp, idB_iff.2 V] at hG
  have hL := Lib.hid (fun w => l1In_any k 0 20 w)
  have hM := Lib.hid (fun w => nuMod_any d 2 w (by omega) (by omega))
  have HV0 := Lib.hid (idv_inert (p := 1) V.dc (by omega) (by omega))
  have HV := Lib.hid V
  clear hp hd V
  generalize d % 2 = r at *
  go_enter Tryz.func79, Tryz.ntmps79
  cases hk : (decide (0 ≤ k) && decide (k ≤ 20)) with
  | false =>
    rw [hk] at hL
    clear hk
    go_wp2_with (first | (go_at_call 22; (with_reducible refine (hG.out _).mono ?_); rintro e' v1 ⟨rfl, hB1⟩; have zG1 := hB1.size; (try simp at zG1); have hX1 : Blk v1 (w.heap.size) 25 #[.int .i64 e, .int .i64 a, .int .i64 b] := Blk.call (by (repeat (first | with_reducible assumption | (with_reducible apply Blk.new_at; (first | rfl | (simp; done))) | with_reducible apply Blk.store3 | with_reducible apply Blk.store4 | (with_reducible apply Blk.farp; (first | omega | (simp <;> omega))) | with_reducible apply Blk.allocp | with_reducible apply Blk.drew | with_reducible apply Blk.drewN))) hB1; have cX1 := hX1.cell; have fX1 := hX1.frozen; have lX1 := hX1.lt; have mX1 := Nat.ne_of_gt lX1; have nX1 := Nat.ne_of_lt lX1; have hR1 : Blk v1 (w.heap.size + 1) 25 #[.int .i64 0, .int .i64 0, .int .i64 0] := Blk.call (by (repeat (first | with_reducible assumption | (with_reducible apply Blk.new_at; (first | rfl | (simp; done))) | with_reducible apply Blk.store3 | with_reducible apply Blk.store4 | (with_reducible apply Blk.farp; (first | omega | (simp <;> omega))) | with_reducible apply Blk.allocp | with_reducible apply Blk.drew | with_reducible apply Blk.drewN))) hB1; have cR1 := hR1.cell; have fR1 := hR1.frozen; have lR1 := hR1.lt; have mR1 := Nat.ne_of_gt lR1; have nR1 := Nat.ne_of_lt lR1) | (go_at_call 38; (with_reducible refine (hL.out _).mono ?_); rintro e v ⟨rfl, rfl⟩))
    exact bodyPost_ret (v := .tuple #[.agg #[.int .i64 0, .int .i64 0, .int .i64 0], .bool false]) (by simp [results, Tryz.results79, go_sem, *]) rfl ⟨_, _, _, _, rfl, (by repeat (first | with_reducible exact Below.refl _ _ | with_reducible assumption | with_reducible apply Below.drew | with_reducible apply below_drewN | (with_reducible apply below_setp; (first | omega | (simp <;> omega))) | (with_reducible apply below_allocp; (first | omega | (simp <;> omega))) | (with_reducible refine below_viap (by assumption) ?_ ?_; (first | omega | (simp <;> omega)))))⟩
  | true =>
    rw [hk] at hL
    have hkk : 0 ≤ k ∧ k ≤ 20 := by simp at hk; exact hk
    obtain ⟨n, rfl⟩ : ∃ n : Nat, k = n := ⟨k.toNat, by omega⟩
    clear hk
    go_wp2_with (first | (go_at_call 22; (with_reducible refine (hG.out _).mono ?_); rintro e' v1 ⟨rfl, hB1⟩; have zG1 := hB1.size; (try simp at zG1); have hX1 : Blk v1 (w.heap.size) 25 #[.int .i64 e, .int .i64 a, .int .i64 b] := Blk.call (by (repeat (first | with_reducible assumption | (with_reducible apply Blk.new_at; (first | rfl | (simp; done))) | with_reducible apply Blk.store3 | with_reducible apply Blk.store4 | (with_reducible apply Blk.farp; (first | omega | (simp <;> omega))) | with_reducible apply Blk.allocp | with_reducible apply Blk.drew | with_reducible apply Blk.drewN))) hB1; have cX1 := hX1.cell; have fX1 := hX1.frozen; have lX1 := hX1.lt; have mX1 := Nat.ne_of_gt lX1; have nX1 := Nat.ne_of_lt lX1; have hR1 : Blk v1 (w.heap.size + 1) 25 #[.int .i64 0, .int .i64 0, .int .i64 0] := Blk.call (by (repeat (first | with_reducible assumption | (with_reducible apply Blk.new_at; (first | rfl | (simp; done))) | with_reducible apply Blk.store3 | with_reducible apply Blk.store4 | (with_reducible apply Blk.farp; (first | omega | (simp <;> omega))) | with_reducible apply Blk.allocp | with_reducible apply Blk.drew | with_reducible apply Blk.drewN))) hB1; have cR1 := hR1.cell; have fR1 := hR1.frozen; have lR1 := hR1.lt; have mR1 := Nat.ne_of_gt lR1; have nR1 := Nat.ne_of_lt lR1) | (go_at_call 38; (with_reducible refine (hL.out _).mono ?_); rintro e v ⟨rfl, rfl⟩) | (go_at_call 58; (with_reducible refine (hM.out _).mono ?_); rintro e v ⟨rfl, rfl⟩))
    have hO1 : Blk ((v1.alloc (.cells #[.int .i64 0, .int .i64 0, .int .i64 0] 25))) v1.heap.size 25 #[.int .i64 0, .int .i64 0, .int .i64 0] := Blk.new_at rfl
    go_loopw [2] (fun vk wr => ∃ (j : Nat) (e1 a1 b1 : Int), vk = .int .i64 j ∧ j ≤ 20 ∧ Hid (IdV d e1 a1 b1) ∧ Hid (Blk wr w.heap.size 25 #[.int .i64 e, .int .i64 a, .int .i64 b]) ∧ Hid (Blk wr (w.heap.size + 1) 25 #[.int .i64 0, .int .i64 0, .int .i64 0]) ∧ Hid (Blk wr v1.heap.size 25 #[.int .i64 e1, .int .i64 a1, .int .i64 b1]) ∧ v1.heap.size < wr.heap.size ∧ Below w.heap.size w wr) (fun vk _ => (intOf vk).toNat)
    case atStart => exact ⟨n, 1, 1, r, rfl, by omega, HV0, Lib.hid (by (repeat (first | with_reducible assumption | (with_reducible apply Blk.new_at; (first | rfl | (simp; done))) | with_reducible apply Blk.store2 | with_reducible apply Blk.store3 | with_reducible apply Blk.store4 | (with_reducible apply Blk.farp; (first | omega | (simp <;> omega))) | with_reducible apply Blk.allocp | with_reducible apply Blk.drew | with_reducible apply Blk.drewN))), Lib.hid (by (repeat (first | with_reducible assumption | (with_reducible apply Blk.new_at; (first | rfl | (simp; done))) | with_reducible apply Blk.store2 | with_reducible apply Blk.store3 | with_reducible apply Blk.store4 | (with_reducible apply Blk.farp; (first | omega | (simp <;> omega))) | with_reducible apply Blk.allocp | with_reducible apply Blk.drew | with_reducible apply Blk.drewN))), Lib.hid (by (repeat (first | with_reducible assumption | (with_reducible apply Blk.new_at; (first | rfl | (simp; done))) | with_reducible apply Blk.store2 | with_reducible apply Blk.store3 | with_reducible apply Blk.store4 | (with_reducible apply Blk.farp; (first | omega | (simp <;> omega))) | with_reducible apply Blk.allocp | with_reducible apply Blk.drew | with_reducible apply Blk.drewN))), by simp <;> omega, (by repeat (first | with_reducible exact Below.refl _ _ | with_reducible assumption | with_reducible apply Below.drew | with_reducible apply below_drewN | (with_reducible apply below_setp; (first | omega | (simp <;> omega))) | (with_reducible apply below_allocp; (first | omega | (simp <;> omega))) | (with_reducible refine below_viap (by assumption) ?_ ?_; (first | omega | (simp <;> omega)))))⟩
    case round =>
      clear hO1 hkk hL hM HV0 hX1 cX1 fX1 lX1 mX1 nX1 hR1 cR1 fR1 lR1 mR1 nR1
      obtain ⟨j, e1, a1, b1, rfl, hj, HW, hX', hR', hO', hlt, hbel⟩ := hrel
      have hX := hX'.out; have hR := hR'.out; have hO := hO'.out
      clear hX' hR' hO'
      have cX := hX.cell; have fX := hX.frozen; have lX := hX.lt; have mX := Nat.ne_of_gt lX; have nX := Nat.ne_of_lt lX; have cR := hR.cell; have fR := hR.frozen; have lR := hR.lt; have mR := Nat.ne_of_gt lR; have nR := Nat.ne_of_lt lR; have cO := hO.cell; have fO := hO.frozen; have lO := hO.lt; have mO := Nat.ne_of_gt lO; have nO := Nat.ne_of_lt lO
      have hm1 := Nat.ne_of_gt hlt
      have y1 : ¬ v1.heap.size = w.heap.size := by omega
      have y2 : ¬ w.heap.size = v1.heap.size := by omega
      have y3 : ¬ v1.heap.size = w.heap.size + 1 := by omega
      have y4 : ¬ w.heap.size + 1 = v1.heap.size := by omega
      by_cases hk0 : j = 0
      · subst hk0
        go_wp2
        exact bodyPost_ret (v := .tuple #[.agg #[.int .i64 e1, .int .i64 a1, .int .i64 b1], .bool true]) (by simp [results, Tryz.results79, go_sem, *]) rfl ⟨_, _, _, _, rfl, (by repeat (first | with_reducible exact Below.refl _ _ | with_reducible assumption | with_reducible apply Below.drew | with_reducible apply below_drewN | (with_reducible apply below_setp; (first | omega | (simp <;> omega))) | (with_reducible apply below_allocp; (first | omega | (simp <;> omega))) | (with_reducible refine below_viap (by assumption) ?_ ?_; (first | omega | (simp <;> omega)))))⟩
      · obtain ⟨i, rfl⟩ : ∃ i, j = i + 1 := ⟨j - 1, by omega⟩
        have hk1 : 0 < ((i + 1 : Nat) : Int) := by omega
        have hk2 : wrap64 (((i + 1 : Nat) : Int) - 1) = (i : Int) := by rw [IntWalk.wrap64_in _ (by omega)]; omega
        go_wp2_with fail
        refine (idProd_ex _ HW.out HV.out).mono ?_
        rintro e' v2 ⟨q1, q2, q3, rfl, hB2⟩
        have zG2 := hB2.size
        (try simp at zG2)
        have hX2 : Blk v2 (w.heap.size) 25 #[.int .i64 e, .int .i64 a, .int .i64 b] := Blk.call (by (repeat (first | with_reducible assumption | (with_reducible apply Blk.new_at; (first | rfl | (simp; done))) | with_reducible apply Blk.store3 | with_reducible apply Blk.store4 | (with_reducible apply Blk.farp; (first | omega | (simp <;> omega))) | with_reducible apply Blk.allocp | with_reducible apply Blk.drew | with_reducible apply Blk.drewN))) hB2; have cX2 := hX2.cell; have fX2 := hX2.frozen; have lX2 := hX2.lt; have mX2 := Nat.ne_of_gt lX2; have nX2 := Nat.ne_of_lt lX2; have hR2 : Blk v2 (w.heap.size + 1) 25 #[.int .i64 0, .int .i64 0, .int .i64 0] := Blk.call (by (repeat (first | with_reducible assumption | (with_reducible apply Blk.new_at; (first | rfl | (simp; done))) | with_reducible apply Blk.store3 | with_reducible apply Blk.store4 | (with_reducible apply Blk.farp; (first | omega | (simp <;> omega))) | with_reducible apply Blk.allocp | with_reducible apply Blk.drew | with_reducible apply Blk.drewN))) hB2; have cR2 := hR2.cell; have fR2 := hR2.frozen; have lR2 := hR2.lt; have mR2 := Nat.ne_of_gt lR2; have nR2 := Nat.ne_of_lt lR2; have hO2 : Blk v2 (v1.heap.size) 25 #[.int .i64 e1, .int .i64 a1, .int .i64 b1] := Blk.call (by (repeat (first | with_reducible assumption | (with_reducible apply Blk.new_at; (first | rfl | (simp; done))) | with_reducible apply Blk.store3 | with_reducible apply Blk.store4 | (with_reducible apply Blk.farp; (first | omega | (simp <;> omega))) | with_reducible apply Blk.allocp | with_reducible apply Blk.drew | with_reducible apply Blk.drewN))) hB2; have cO2 := hO2.cell; have fO2 := hO2.frozen; have lO2 := hO2.lt; have mO2 := Nat.ne_of_gt lO2; have nO2 := Nat.ne_of_lt lO2
        have hb2 : Below w.heap.size w v2 := (by repeat (first | with_reducible exact Below.refl _ _ | with_reducible assumption | with_reducible apply Below.drew | with_reducible apply below_drewN | (with_reducible apply below_setp; (first | omega | (simp <;> omega))) | (with_reducible apply below_allocp; (first | omega | (simp <;> omega))) | (with_reducible refine below_viap (by assumption) ?_ ?_; (first | omega | (simp <;> omega)))))
        clear hB2 hX cX fX lX mX nX hR cR fR lR mR nR hO cO fO lO mO nO hbel
        have hI := Lib.hid (fun w => idGood_any d q1 q2 q3 w)
        cases hi : idB d q1 q2 q3 with
        | false =>
          rw [hi] at hI
          clear hi
          go_wp2_with (go_at_call 25; (with_reducible refine (hI.out _).mono ?_); rintro e' v3 ⟨rfl, hB3⟩; have zG3 := hB3.size; (try simp at zG3); have hX3 : Blk v3 (w.heap.size) 25 #[.int .i64 e, .int .i64 a, .int .i64 b] := Blk.call (by (repeat (first | with_reducible assumption | (with_reducible apply Blk.new_at; (first | rfl | (simp; done))) | with_reducible apply Blk.store3 | with_reducible apply Blk.store4 | (with_reducible apply Blk.farp; (first | omega | (simp <;> omega))) | with_reducible apply Blk.allocp | with_reducible apply Blk.drew | with_reducible apply Blk.drewN))) hB3; have cX3 := hX3.cell; have fX3 := hX3.frozen; have lX3 := hX3.lt; have mX3 := Nat.ne_of_gt lX3; have nX3 := Nat.ne_of_lt lX3; have hR3 : Blk v3 (w.heap.size + 1) 25 #[.int .i64 0, .int .i64 0, .int .i64 0] := Blk.call (by (repeat (first | with_reducible assumption | (with_reducible apply Blk.new_at; (first | rfl | (simp; done))) | with_reducible apply Blk.store3 | with_reducible apply Blk.store4 | (with_reducible apply Blk.farp; (first | omega | (simp <;> omega))) | with_reducible apply Blk.allocp | with_reducible apply Blk.drew | with_reducible apply Blk.drewN))) hB3; have cR3 := hR3.cell; have fR3 := hR3.frozen; have lR3 := hR3.lt; have mR3 := Nat.ne_of_gt lR3; have nR3 := Nat.ne_of_lt lR3; have hO3 : Blk v3 (v1.heap.size) 25 #[.int .i64 q1, .int .i64 q2, .int .i64 q3] := Blk.call (by (repeat (first | with_reducible assumption | (with_reducible apply Blk.new_at; (first | rfl | (simp; done))) | with_reducible apply Blk.store3 | with_reducible apply Blk.store4 | (with_reducible apply Blk.farp; (first | omega | (simp <;> omega))) | with_reducible apply Blk.allocp | with_reducible apply Blk.drew | with_reducible apply Blk.drewN))) hB3; have cO3 := hO3.cell; have fO3 := hO3.frozen; have lO3 := hO3.lt; have mO3 := Nat.ne_of_gt lO3; have nO3 := Nat.ne_of_lt lO3)
          exact bodyPost_ret (v := .tuple #[.agg #[.int .i64 0, .int .i64 0, .int .i64 0], .bool false]) (by simp [results, Tryz.results79, go_sem, *]) rfl ⟨_, _, _, _, rfl, (by repeat (first | with_reducible exact Below.refl _ _ | with_reducible assumption | with_reducible apply Below.drew | with_reducible apply below_drewN | (with_reducible apply below_setp; (first | omega | (simp <;> omega))) | (with_reducible apply below_allocp; (first | omega | (simp <;> omega))) | (with_reducible refine below_viap (by assumption) ?_ ?_; (first | omega | (simp <;> omega)))))⟩
        | true =>
          rw [hi] at hI
          have HV2 := Lib.hid (idB_iff.1 hi)
          clear hi
          go_wp2_with (go_at_call 25; (with_reducible refine (hI.out _).mono ?_); rintro e' v3 ⟨rfl, hB3⟩; have zG3 := hB3.size; (try simp at zG3); have hX3 : Blk v3 (w.heap.size) 25 #[.int .i64 e, .int .i64 a, .int .i64 b] := Blk.call (by (repeat (first | with_reducible assumption | (with_reducible apply Blk.new_at; (first | rfl | (simp; done))) | with_reducible apply Blk.store3 | with_reducible apply Blk.store4 | (with_reducible apply Blk.farp; (first | omega | (simp <;> omega))) | with_reducible apply Blk.allocp | with_reducible apply Blk.drew | with_reducible apply Blk.drewN))) hB3; have cX3 := hX3.cell; have fX3 := hX3.frozen; have lX3 := hX3.lt; have mX3 := Nat.ne_of_gt lX3; have nX3 := Nat.ne_of_lt lX3; have hR3 : Blk v3 (w.heap.size + 1) 25 #[.int .i64 0, .int .i64 0, .int .i64 0] := Blk.call (by (repeat (first | with_reducible assumption | (with_reducible apply Blk.new_at; (first | rfl | (simp; done))) | with_reducible apply Blk.store3 | with_reducible apply Blk.store4 | (with_reducible apply Blk.farp; (first | omega | (simp <;> omega))) | with_reducible apply Blk.allocp | with_reducible apply Blk.drew | with_reducible apply Blk.drewN))) hB3; have cR3 := hR3.cell; have fR3 := hR3.frozen; have lR3 := hR3.lt; have mR3 := Nat.ne_of_gt lR3; have nR3 := Nat.ne_of_lt lR3; have hO3 : Blk v3 (v1.heap.size) 25 #[.int .i64 q1, .int .i64 q2, .int .i64 q3] := Blk.call (by (repeat (first | with_reducible assumption | (with_reducible apply Blk.new_at; (first | rfl | (simp; done))) | with_reducible apply Blk.store3 | with_reducible apply Blk.store4 | (with_reducible apply Blk.farp; (first | omega | (simp <;> omega))) | with_reducible apply Blk.allocp | with_reducible apply Blk.drew | with_reducible apply Blk.drewN))) hB3; have cO3 := hO3.cell; have fO3 := hO3.frozen; have lO3 := hO3.lt; have mO3 := Nat.ne_of_gt lO3; have nO3 := Nat.ne_of_lt lO3)
          go_roundw
          case rel => exact ⟨i, q1, q2, q3, rfl, by omega, HV2, Lib.hid (by (repeat (first | with_reducible assumption | (with_reducible apply Blk.new_at; (first | rfl | (simp; done))) | with_reducible apply Blk.store2 | with_reducible apply Blk.store3 | with_reducible apply Blk.store4 | (with_reducible apply Blk.farp; (first | omega | (simp <;> omega))) | with_reducible apply Blk.allocp | with_reducible apply Blk.drew | with_reducible apply Blk.drewN))), Lib.hid (by (repeat (first | with_reducible assumption | (with_reducible apply Blk.new_at; (first | rfl | (simp; done))) | with_reducible apply Blk.store2 | with_reducible apply Blk.store3 | with_reducible apply Blk.store4 | (with_reducible apply Blk.farp; (first | omega | (simp <;> omega))) | with_reducible apply Blk.allocp | with_reducible apply Blk.drew | with_reducible apply Blk.drewN))), Lib.hid (by (repeat (first | with_reducible assumption | (with_reducible apply Blk.new_at; (first | rfl | (simp; done))) | with_reducible apply Blk.store2 | with_reducible apply Blk.store3 | with_reducible apply Blk.store4 | (with_reducible apply Blk.farp; (first | omega | (simp <;> omega))) | with_reducible apply Blk.allocp | with_reducible apply Blk.drew | with_reducible apply Blk.drewN))), by first | omega | (simp <;> omega), (by repeat (first | with_reducible exact Below.refl _ _ | with_reducible assumption | with_reducible apply Below.drew | with_reducible apply below_drewN | (with_reducible apply below_setp; (first | omega | (simp <;> omega))) | (with_reducible apply below_allocp; (first | omega | (simp <;> omega))) | (with_reducible refine below_viap (by assumption) ?_ ?_; (first | omega | (simp <;> omega)))))⟩
          case measure => (first | (simp [intOf]; done) | (simp [intOf]; omega))
end

section
open Go.RowKit

/-- A drawn discriminant and an ideal. -/
def RetDIE (w : World) (e : Ending) (w' : World) : Prop := ∃ (d x y z : Int), e = .returned (.tuple #[.int .i64 d, .agg #[.int .i64 x, .int .i64 y, .int .i64 z]]) ∧ DrawnE d ∧ Below w.heap.size w w'
set_option maxRecDepth 100000 in
set_option maxHeartbeats 6400000 in
theorem drawPI_any (zs : List Int) (v : Value) (B : Nat) (w : World) (hr : RdB zs v B w) (hB0 : B ≤ w.heap.size) :
    Calls Tryz.prog 45 #[v] w (RetDIE w) := by
  obtain ⟨A, m, c, rfl⟩ := hr.shape
  have hD0 := Lib.hid (drw_start2 (.cells #[.int .i64 0, .int .i64 0, .int .i64 0] 25) hr)
  have hB : B ≤ w.heap.size + 1 := by omega
  clear hr
  have hfin := Lib.hid (fun d x y z w' (hx : DrawnE d) (h : Drw zs (.slice A m c) B (w.heap.size + 1) 300 w w') => (⟨d, x, y, z, rfl, hx, below_cur2 h.gr⟩ : RetDIE w (.returned (.tuple #[.int .i64 d, .agg #[.int .i64 x, .int .i64 y, .int .i64 z]])) w'))
  go_enter Tryz.func45, Tryz.ntmps45
  go_wp2_with fail
  refine (fund_d (by repeat (first | with_reducible assumption | (with_reducible apply Hid.out; assumption) | with_reducible apply Drw.drewN | with_reducible apply Drw.drew | with_reducible apply Drw.alloc | (with_reducible refine Drw.setp ?_ ?_ ?_ ?_; (first | omega | (simp <;> omega)); (first | omega | (simp <;> omega)); (first | omega | (simp <;> omega))))) hB (by omega)).mono ?_
  rintro e v1 ⟨d, rfl, hx1, hD1', hG1⟩
  have hD1 := Lib.hid hD1'; have lG1 := hD1'.lt; have zG1 := hG1.size; (try simp at zG1)
  have hA1 : Blk v1 (w.heap.size) 25 #[.int .i64 0, .int .i64 0, .int .i64 0] := Blk.grown (by (repeat (first | with_reducible assumption | (with_reducible apply Blk.new_at; (first | rfl | (simp; done))) | with_reducible apply Blk.store3 | with_reducible apply Blk.store4 | (with_reducible apply Blk.farp; (first | omega | (simp <;> omega))) | with_reducible apply Blk.allocp | with_reducible apply Blk.drew | with_reducible apply Blk.drewN))) hG1 (by simp <;> omega); have cA1 := hA1.cell; have fA1 := hA1.frozen; have lA1 := hA1.lt; have mA1 := Nat.ne_of_gt lA1; have nA1 := Nat.ne_of_lt lA1
  clear hD1' hG1 hD0
  have HX := Lib.hid hx1
  clear hx1
  go_wp2_with fail
  refine (product_d (by repeat (first | with_reducible assumption | (with_reducible apply Hid.out; assumption) | with_reducible apply Drw.drewN | with_reducible apply Drw.drew | with_reducible apply Drw.alloc | (with_reducible refine Drw.setp ?_ ?_ ?_ ?_; (first | omega | (simp <;> omega)); (first | omega | (simp <;> omega)); (first | omega | (simp <;> omega))))) hB (by omega) d HX.out).mono ?_
  rintro e v2 ⟨⟨x, y, z⟩, rfl, hx2, hD2', hG2⟩
  have hD2 := Lib.hid hD2'; have lG2 := hD2'.lt; have zG2 := hG2.size; (try simp at zG2)
  have hA2 : Blk v2 (w.heap.size) 25 #[.int .i64 0, .int .i64 0, .int .i64 0] := Blk.grown (by (repeat (first | with_reducible assumption | (with_reducible apply Blk.new_at; (first | rfl | (simp; done))) | with_reducible apply Blk.store3 | with_reducible apply Blk.store4 | (with_reducible apply Blk.farp; (first | omega | (simp <;> omega))) | with_reducible apply Blk.allocp | with_reducible apply Blk.drew | with_reducible apply Blk.drewN))) hG2 (by simp <;> omega); have cA2 := hA2.cell; have fA2 := hA2.frozen; have lA2 := hA2.lt; have mA2 := Nat.ne_of_gt lA2; have nA2 := Nat.ne_of_lt lA2
  clear hD2' hG2 hx2 hA1 cA1 fA1 lA1 mA1 nA1 hD1
  have hI := Lib.hid (fun w => piGood_any d x y z w HX.out)
  cases hi : (piB d && idB d x y z) with
  | false =>
    rw [hi] at hI
    clear hi
    go_upto_region 8 with ((go_at_call 22; (with_reducible refine (hI.out _).mono ?_); rintro e v3 ⟨rfl, hB3⟩; have zG3 := hB3.size; (try simp at zG3); have hA3 : Blk v3 (w.heap.size) 25 #[.int .i64 0, .int .i64 0, .int .i64 0] := Blk.call (by (repeat (first | with_reducible assumption | (with_reducible apply Blk.new_at; (first | rfl | (simp; done))) | with_reducible apply Blk.store3 | with_reducible apply Blk.store4 | (with_reducible apply Blk.farp; (first | omega | (simp <;> omega))) | with_reducible apply Blk.allocp | with_reducible apply Blk.drew | with_reducible apply Blk.drewN))) hB3; have cA3 := hA3.cell; have fA3 := hA3.frozen; have lA3 := hA3.lt; have mA3 := Nat.ne_of_gt lA3; have nA3 := Nat.ne_of_lt lA3; have hX3 : Blk v3 (v2.heap.size) 25 #[.int .i64 x, .int .i64 y, .int .i64 z] := Blk.call (by (repeat (first | with_reducible assumption | (with_reducible apply Blk.new_at; (first | rfl | (simp; done))) | with_reducible apply Blk.store3 | with_reducible apply Blk.store4 | (with_reducible apply Blk.farp; (first | omega | (simp <;> omega))) | with_reducible apply Blk.allocp | with_reducible apply Blk.drew | with_reducible apply Blk.drewN))) hB3; have cX3 := hX3.cell; have fX3 := hX3.frozen; have lX3 := hX3.lt; have mX3 := Nat.ne_of_gt lX3; have nX3 := Nat.ne_of_lt lX3; have hD3 := Lib.hid (Drw.call (w := _) (n := 0 + 6 + 100) (zs := zs) (v := .slice A m c) (B := B) (G := w.heap.size + 1) (w0 := w) (by repeat (first | with_reducible assumption | (with_reducible apply Hid.out; assumption) | with_reducible apply Drw.drewN | with_reducible apply Drw.drew | with_reducible apply Drw.alloc | (with_reducible refine Drw.setp ?_ ?_ ?_ ?_; (first | omega | (simp <;> omega)); (first | omega | (simp <;> omega)); (first | omega | (simp <;> omega))))) hB hB3); have lG3 := hD3.out.lt))
    go_region
    all_goals
      go_wp2
      exact bodyPost_ret (v := .tuple #[.int .i64 d, .agg #[.int .i64 x, .int .i64 y, .int .i64 z]]) (by simp [results, Tryz.results45, go_sem, *]) rfl (hfin.out _ _ _ _ _ HX.out (Drw.more (n := 0 + 6 + 100) (by repeat (first | with_reducible assumption | (with_reducible apply Hid.out; assumption) | with_reducible apply Drw.drewN | with_reducible apply Drw.drew | with_reducible apply Drw.alloc | (with_reducible refine Drw.setp ?_ ?_ ?_ ?_; (first | omega | (simp <;> omega)); (first | omega | (simp <;> omega)); (first | omega | (simp <;> omega))))) (by omega)))
  | true =>
    rw [hi] at hI
    rw [Bool.and_eq_true] at hi
    have HP := Lib.hid hi.1
    have HV := Lib.hid (idB_iff.1 hi.2)
    clear hi
    go_wp2_with ((go_at_call 22; (with_reducible refine (hI.out _).mono ?_); rintro e v3 ⟨rfl, hB3⟩; have zG3 := hB3.size; (try simp at zG3); have hA3 : Blk v3 (w.heap.size) 25 #[.int .i64 0, .int .i64 0, .int .i64 0] := Blk.call (by (repeat (first | with_reducible assumption | (with_reducible apply Blk.new_at; (first | rfl | (simp; done))) | with_reducible apply Blk.store3 | with_reducible apply Blk.store4 | (with_reducible apply Blk.farp; (first | omega | (simp <;> omega))) | with_reducible apply Blk.allocp | with_reducible apply Blk.drew | with_reducible apply Blk.drewN))) hB3; have cA3 := hA3.cell; have fA3 := hA3.frozen; have lA3 := hA3.lt; have mA3 := Nat.ne_of_gt lA3; have nA3 := Nat.ne_of_lt lA3; have hX3 : Blk v3 (v2.heap.size) 25 #[.int .i64 x, .int .i64 y, .int .i64 z] := Blk.call (by (repeat (first | with_reducible assumption | (with_reducible apply Blk.new_at; (first | rfl | (simp; done))) | with_reducible apply Blk.store3 | with_reducible apply Blk.store4 | (with_reducible apply Blk.farp; (first | omega | (simp <;> omega))) | with_reducible apply Blk.allocp | with_reducible apply Blk.drew | with_reducible apply Blk.drewN))) hB3; have cX3 := hX3.cell; have fX3 := hX3.frozen; have lX3 := hX3.lt; have mX3 := Nat.ne_of_gt lX3; have nX3 := Nat.ne_of_lt lX3; have hD3 := Lib.hid (Drw.call (w := _) (n := 0 + 6 + 100) (zs := zs) (v := .slice A m c) (B := B) (G := w.heap.size + 1) (w0 := w) (by repeat (first | with_reducible assumption | (with_reducible apply Hid.out; assumption) | with_reducible apply Drw.drewN | with_reducible apply Drw.drew | with_reducible apply Drw.alloc | (with_reducible refine Drw.setp ?_ ?_ ?_ ?_; (first | omega | (simp <;> omega)); (first | omega | (simp <;> omega)); (first | omega | (simp <;> omega))))) hB hB3); have lG3 := hD3.out.lt))
    skip
    refine (one_d (n := 0 + 6 + 100) (by repeat (first | with_reducible assumption | (with_reducible apply Hid.out; assumption) | with_reducible apply Drw.drewN | with_reducible apply Drw.drew | with_reducible apply Drw.alloc | (with_reducible refine Drw.setp ?_ ?_ ?_ ?_; (first | omega | (simp <;> omega)); (first | omega | (simp <;> omega)); (first | omega | (simp <;> omega))))) hB 2 (by omega) (by omega)).mono ?_
    rintro e v4 ⟨x4, rfl, hx4, hD4', hG4⟩
    have hD4 := Lib.hid hD4'; have lG4 := hD4'.lt; have zG4 := hG4.size; (try simp at zG4)
    have hA4 : Blk v4 (w.heap.size) 25 #[.int .i64 0, .int .i64 0, .int .i64 0] := Blk.grown (by (repeat (first | with_reducible assumption | (with_reducible apply Blk.new_at; (first | rfl | (simp; done))) | with_reducible apply Blk.store3 | with_reducible apply Blk.store4 | (with_reducible apply Blk.farp; (first | omega | (simp <;> omega))) | with_reducible apply Blk.allocp | with_reducible apply Blk.drew | with_reducible apply Blk.drewN))) hG4 (by simp <;> omega); have cA4 := hA4.cell; have fA4 := hA4.frozen; have lA4 := hA4.lt; have mA4 := Nat.ne_of_gt lA4; have nA4 := Nat.ne_of_lt lA4; have hX4 : Blk v4 (v2.heap.size) 25 #[.int .i64 x, .int .i64 y, .int .i64 z] := Blk.grown (by (repeat (first | with_reducible assumption | (with_reducible apply Blk.new_at; (first | rfl | (simp; done))) | with_reducible apply Blk.store3 | with_reducible apply Blk.store4 | (with_reducible apply Blk.farp; (first | omega | (simp <;> omega))) | with_reducible apply Blk.allocp | with_reducible apply Blk.drew | with_reducible apply Blk.drewN))) hG4 (by simp <;> omega); have cX4 := hX4.cell; have fX4 := hX4.frozen; have lX4 := hX4.lt; have mX4 := Nat.ne_of_gt lX4; have nX4 := Nat.ne_of_lt lX4
    clear hD4' hG4 hx4 hA2 cA2 fA2 lA2 mA2 nA2 hD2 hA3 cA3 fA3 lA3 mA3 nA3 hX3 cX3 fX3 lX3 mX3 nX3 hD3
    cases x4 with
    | false =>
      go_upto_region 8 with (fail)
      go_region
      all_goals
        go_wp2
        exact bodyPost_ret (v := .tuple #[.int .i64 d, .agg #[.int .i64 x, .int .i64 y, .int .i64 z]]) (by simp [results, Tryz.results45, go_sem, *]) rfl (hfin.out _ _ _ _ _ HX.out (Drw.more (n := 0 + 6 + 100 + 2) (by repeat (first | with_reducible assumption | (with_reducible apply Hid.out; assumption) | with_reducible apply Drw.drewN | with_reducible apply Drw.drew | with_reducible apply Drw.alloc | (with_reducible refine Drw.setp ?_ ?_ ?_ ?_; (first | omega | (simp <;> omega)); (first | omega | (simp <;> omega)); (first | omega | (simp <;> omega))))) (by omega)))
    | true =>
      obtain ⟨c0, hc0, -⟩ := HV.out.form
      obtain ⟨N, hO⟩ := coOrd_ideal HP.out HV.out hc0
      have hF := Lib.hid (fun w => idForm_any d x y z c0 w ⟨HV.out.a1, HV.out.a2⟩ ⟨HV.out.b0, by have := HV.out.b2; have := HV.out.a2; omega⟩ ⟨HV.out.d2.1, by have := HV.out.d2.2; omega⟩ hc0)
      have hW := Lib.hid (fun w => idPower_any d x y z N w HX.out HP.out HV.out)
      have PA : v2.heap.size ≠ w.heap.size := by omega
      have PG : w.heap.size + 1 < v2.heap.size := by omega
      clear hc0
      go_upto_region 5 with (fail)
      go_cut [7, 8] from 24 to 34 (fun s7 s8 wx => ∃ (U : Nat) (a b e : Int) (ok : Bool), s7 = .pointer (some ⟨U, 0, none⟩) ∧ s8 = .bool ok ∧ Blk wx U 25 #[.int .i64 a, .int .i64 b, .int .i64 e] ∧ v2.heap.size < U ∧ Blk wx w.heap.size 25 #[.int .i64 0, .int .i64 0, .int .i64 0] ∧ Blk wx v2.heap.size 25 #[.int .i64 x, .int .i64 y, .int .i64 z] ∧ Drw zs (.slice A m c) B (w.heap.size + 1) (0 + 6 + 100 + 2) w wx)
      case first =>
        as_aux_lemma =>
        clear hfin HX HP HV
        go_wp2_with fail
        go_region_held3 (fun w' => w'.cell? ⟨v2.heap.size, 0, none⟩ = some (.int .i64 x) ∧ w'.cell? ⟨v2.heap.size, 1, none⟩ = some (.int .i64 y) ∧ w'.cell? ⟨v2.heap.size, 2, none⟩ = some (.int .i64 z)) (first | (go_keep; done) | (go_simp; done)) (first | (go_at_call 52; (with_reducible refine (hF.out _).mono ?_); rintro e' v5 ⟨rfl, hB5⟩; have zG5 := hB5.size; (try simp at zG5); have hA5 : Blk v5 (w.heap.size) 25 #[.int .i64 0, .int .i64 0, .int .i64 0] := Blk.call (by (repeat (first | with_reducible assumption | (with_reducible apply Blk.new_at; (first | rfl | (simp; done))) | with_reducible apply Blk.store3 | with_reducible apply Blk.store4 | (with_reducible apply Blk.farp; (first | omega | (simp <;> omega))) | with_reducible apply Blk.allocp | with_reducible apply Blk.drew | with_reducible apply Blk.drewN))) hB5; have cA5 := hA5.cell; have fA5 := hA5.frozen; have lA5 := hA5.lt; have mA5 := Nat.ne_of_gt lA5; have nA5 := Nat.ne_of_lt lA5; have hX5 : Blk v5 (v2.heap.size) 25 #[.int .i64 x, .int .i64 y, .int .i64 z] := Blk.call (by (repeat (first | with_reducible assumption | (with_reducible apply Blk.new_at; (first | rfl | (simp; done))) | with_reducible apply Blk.store3 | with_reducible apply Blk.store4 | (with_reducible apply Blk.farp; (first | omega | (simp <;> omega))) | with_reducible apply Blk.allocp | with_reducible apply Blk.drew | with_reducible apply Blk.drewN))) hB5; have cX5 := hX5.cell; have fX5 := hX5.frozen; have lX5 := hX5.lt; have mX5 := Nat.ne_of_gt lX5; have nX5 := Nat.ne_of_lt lX5; (try (have hS5 : Blk v5 v4.heap.size 25 #[.int .i64 0, .int .i64 0, .int .i64 0] := Blk.call (by exact Blk.new_at rfl) hB5; have cS5 := hS5.cell; have fS5 := hS5.frozen; have lS5 := hS5.lt; have mS5 := Nat.ne_of_gt lS5; have nS5 := Nat.ne_of_lt lS5)); have hD5 := Lib.hid (Drw.call (w := _) (n := 0 + 6 + 100 + 2) (zs := zs) (v := .slice A m c) (B := B) (G := w.heap.size + 1) (w0 := w) (by repeat (first | with_reducible assumption | (with_reducible apply Hid.out; assumption) | with_reducible apply Drw.drewN | with_reducible apply Drw.drew | with_reducible apply Drw.alloc | (with_reducible refine Drw.setp ?_ ?_ ?_ ?_; (first | omega | (simp <;> omega)); (first | omega | (simp <;> omega)); (first | omega | (simp <;> omega))))) hB hB5); have lG5 := hD5.out.lt; clear hB5) | (go_at_call 80; (with_reducible refine (hO.out _).mono ?_); rintro e' v6 ⟨rfl, hB6⟩; have zG6 := hB6.size; (try simp at zG6); have hA6 : Blk v6 (w.heap.size) 25 #[.int .i64 0, .int .i64 0, .int .i64 0] := Blk.call (by (repeat (first | with_reducible assumption | (with_reducible apply Blk.new_at; (first | rfl | (simp; done))) | with_reducible apply Blk.store3 | with_reducible apply Blk.store4 | (with_reducible apply Blk.farp; (first | omega | (simp <;> omega))) | with_reducible apply Blk.allocp | with_reducible apply Blk.drew | with_reducible apply Blk.drewN))) hB6; have cA6 := hA6.cell; have fA6 := hA6.frozen; have lA6 := hA6.lt; have mA6 := Nat.ne_of_gt lA6; have nA6 := Nat.ne_of_lt lA6; have hX6 : Blk v6 (v2.heap.size) 25 #[.int .i64 x, .int .i64 y, .int .i64 z] := Blk.call (by (repeat (first | with_reducible assumption | (with_reducible apply Blk.new_at; (first | rfl | (simp; done))) | with_reducible apply Blk.store3 | with_reducible apply Blk.store4 | (with_reducible apply Blk.farp; (first | omega | (simp <;> omega))) | with_reducible apply Blk.allocp | with_reducible apply Blk.drew | with_reducible apply Blk.drewN))) hB6; have cX6 := hX6.cell; have fX6 := hX6.frozen; have lX6 := hX6.lt; have mX6 := Nat.ne_of_gt lX6; have nX6 := Nat.ne_of_lt lX6; (try (have hS6 : Blk v6 v4.heap.size 25 #[.int .i64 0, .int .i64 0, .int .i64 0] := Blk.call (by exact hS5) hB6; have cS6 := hS6.cell; have fS6 := hS6.frozen; have lS6 := hS6.lt; have mS6 := Nat.ne_of_gt lS6; have nS6 := Nat.ne_of_lt lS6)); (try (have hS6 : Blk v6 v5.heap.size 25 #[.int .i64 0, .int .i64 0, .int .i64 0] := Blk.call (by exact Blk.new_at rfl) hB6; have cS6 := hS6.cell; have fS6 := hS6.frozen; have lS6 := hS6.lt; have mS6 := Nat.ne_of_gt lS6; have nS6 := Nat.ne_of_lt lS6)); have hD6 := Lib.hid (Drw.call (w := _) (n := 0 + 6 + 100 + 2) (zs := zs) (v := .slice A m c) (B := B) (G := w.heap.size + 1) (w0 := w) (by repeat (first | with_reducible assumption | (with_reducible apply Hid.out; assumption) | with_reducible apply Drw.drewN | with_reducible apply Drw.drew | with_reducible apply Drw.alloc | (with_reducible refine Drw.setp ?_ ?_ ?_ ?_; (first | omega | (simp <;> omega)); (first | omega | (simp <;> omega)); (first | omega | (simp <;> omega))))) hB hB6); have lG6 := hD6.out.lt; clear hB6) | (go_at_call 79; (with_reducible refine (hW.out _).mono ?_); rintro e' v7 ⟨a, b, e, ok, rfl, hB7⟩; have zG7 := hB7.size; (try simp at zG7); have hA7 : Blk v7 (w.heap.size) 25 #[.int .i64 0, .int .i64 0, .int .i64 0] := Blk.call (by (repeat (first | with_reducible assumption | (with_reducible apply Blk.new_at; (first | rfl | (simp; done))) | with_reducible apply Blk.store3 | with_reducible apply Blk.store4 | (with_reducible apply Blk.farp; (first | omega | (simp <;> omega))) | with_reducible apply Blk.allocp | with_reducible apply Blk.drew | with_reducible apply Blk.drewN))) hB7; have cA7 := hA7.cell; have fA7 := hA7.frozen; have lA7 := hA7.lt; have mA7 := Nat.ne_of_gt lA7; have nA7 := Nat.ne_of_lt lA7; have hX7 : Blk v7 (v2.heap.size) 25 #[.int .i64 x, .int .i64 y, .int .i64 z] := Blk.call (by (repeat (first | with_reducible assumption | (with_reducible apply Blk.new_at; (first | rfl | (simp; done))) | with_reducible apply Blk.store3 | with_reducible apply Blk.store4 | (with_reducible apply Blk.farp; (first | omega | (simp <;> omega))) | with_reducible apply Blk.allocp | with_reducible apply Blk.drew | with_reducible apply Blk.drewN))) hB7; have cX7 := hX7.cell; have fX7 := hX7.frozen; have lX7 := hX7.lt; have mX7 := Nat.ne_of_gt lX7; have nX7 := Nat.ne_of_lt lX7; (try (have hS7 : Blk v7 v4.heap.size 25 #[.int .i64 0, .int .i64 0, .int .i64 0] := Blk.call (by exact hS6) hB7; have cS7 := hS7.cell; have fS7 := hS7.frozen; have lS7 := hS7.lt; have mS7 := Nat.ne_of_gt lS7; have nS7 := Nat.ne_of_lt lS7)); (try (have hS7 : Blk v7 v5.heap.size 25 #[.int .i64 0, .int .i64 0, .int .i64 0] := Blk.call (by exact hS6) hB7; have cS7 := hS7.cell; have fS7 := hS7.frozen; have lS7 := hS7.lt; have mS7 := Nat.ne_of_gt lS7; have nS7 := Nat.ne_of_lt lS7)); (try (have hS7 : Blk v7 v6.heap.size 25 #[.int .i64 0, .int .i64 0, .int .i64 0] := Blk.call (by exact Blk.new_at rfl) hB7; have cS7 := hS7.cell; have fS7 := hS7.frozen; have lS7 := hS7.lt; have mS7 := Nat.ne_of_gt lS7; have nS7 := Nat.ne_of_lt lS7)); have hD7 := Lib.hid (Drw.call (w := _) (n := 0 + 6 + 100 + 2) (zs := zs) (v := .slice A m c) (B := B) (G := w.heap.size + 1) (w0 := w) (by repeat (first | with_reducible assumption | (with_reducible apply Hid.out; assumption) | with_reducible apply Drw.drewN | with_reducible apply Drw.drew | with_reducible apply Drw.alloc | (with_reducible refine Drw.setp ?_ ?_ ?_ ?_; (first | omega | (simp <;> omega)); (first | omega | (simp <;> omega)); (first | omega | (simp <;> omega))))) hB hB7); have lG7 := hD7.out.lt; clear hB7))
        all_goals
          go_wp2_with fail
          go_meet
          exact ⟨_, _, _, _, _, rfl, rfl, by (repeat (first | with_reducible assumption | (with_reducible apply Blk.new_at; (first | rfl | (simp; done))) | with_reducible apply Blk.store2 | with_reducible apply Blk.store3 | with_reducible apply Blk.store4 | (with_reducible apply Blk.farp; (first | omega | (simp <;> omega))) | with_reducible apply Blk.allocp | with_reducible apply Blk.drew | with_reducible apply Blk.drewN)), by omega, by (repeat (first | with_reducible assumption | (with_reducible apply Blk.new_at; (first | rfl | (simp; done))) | with_reducible apply Blk.store2 | with_reducible apply Blk.store3 | with_reducible apply Blk.store4 | (with_reducible apply Blk.farp; (first | omega | (simp <;> omega))) | with_reducible apply Blk.allocp | with_reducible apply Blk.drew | with_reducible apply Blk.drewN)), by (repeat (first | with_reducible assumption | (with_reducible apply Blk.new_at; (first | rfl | (simp; done))) | with_reducible apply Blk.store2 | with_reducible apply Blk.store3 | with_reducible apply Blk.store4 | (with_reducible apply Blk.farp; (first | omega | (simp <;> omega))) | with_reducible apply Blk.allocp | with_reducible apply Blk.drew | with_reducible apply Blk.drewN)), Drw.more (n := 0 + 6 + 100 + 2) (by repeat (first | with_reducible assumption | (with_reducible apply Hid.out; assumption) | with_reducible apply Drw.drewN | with_reducible apply Drw.drew | with_reducible apply Drw.alloc | (with_reducible refine Drw.setp ?_ ?_ ?_ ?_; (first | omega | (simp <;> omega)); (first | omega | (simp <;> omega)); (first | omega | (simp <;> omega))))) (by omega)⟩
      case rest =>
        obtain ⟨v8, rfl⟩ : ∃ v8 : World, v8 = wc := ⟨_, rfl⟩
        obtain ⟨U, a, b, e, ok, rfl, rfl, hU8, gU, hA8, hX8, hD8'⟩ := hcut
        have hD8 := Lib.hid hD8'; have lG8 := hD8'.lt
        have cA8 := hA8.cell; have fA8 := hA8.frozen; have lA8 := hA8.lt; have mA8 := Nat.ne_of_gt lA8; have nA8 := Nat.ne_of_lt lA8; have cX8 := hX8.cell; have fX8 := hX8.frozen; have lX8 := hX8.lt; have mX8 := Nat.ne_of_gt lX8; have nX8 := Nat.ne_of_lt lX8; have cU8 := hU8.cell; have fU8 := hU8.frozen; have lU8 := hU8.lt; have mU8 := Nat.ne_of_gt lU8; have nU8 := Nat.ne_of_lt lU8
        have hm1 : U ≠ w.heap.size := by omega
        have hm2 : w.heap.size ≠ U := by omega
        clear hD8' hO hF hW hA4 cA4 fA4 lA4 mA4 nA4 hX4 cX4 fX4 lX4 mX4 nX4 hD4
        cases ok with
        | true =>
          go_upto_region 7 with (fail)
          go_region
          all_goals
            go_wp2
            exact bodyPost_ret (v := .tuple #[.int .i64 d, .agg #[.int .i64 a, .int .i64 b, .int .i64 e]]) (by simp [results, Tryz.results45, go_sem, *]) rfl (hfin.out _ _ _ _ _ HX.out (Drw.more (n := 0 + 6 + 100 + 2) (by repeat (first | with_reducible assumption | (with_reducible apply Hid.out; assumption) | with_reducible apply Drw.drewN | with_reducible apply Drw.drew | with_reducible apply Drw.alloc | (with_reducible refine Drw.setp ?_ ?_ ?_ ?_; (first | omega | (simp <;> omega)); (first | omega | (simp <;> omega)); (first | omega | (simp <;> omega))))) (by omega)))
        | false =>
          go_upto_region 8 with (fail)
          go_region
          all_goals
            go_wp2
            exact bodyPost_ret (v := .tuple #[.int .i64 d, .agg #[.int .i64 x, .int .i64 y, .int .i64 z]]) (by simp [results, Tryz.results45, go_sem, *]) rfl (hfin.out _ _ _ _ _ HX.out (Drw.more (n := 0 + 6 + 100 + 2) (by repeat (first | with_reducible assumption | (with_reducible apply Hid.out; assumption) | with_reducible apply Drw.drewN | with_reducible apply Drw.drew | with_reducible apply Drw.alloc | (with_reducible refine Drw.setp ?_ ?_ ?_ ?_; (first | omega | (simp <;> omega)); (first | omega | (simp <;> omega)); (first | omega | (simp <;> omega))))) (by omega)))
set_option maxRecDepth 100000 in
set_option maxHeartbeats 800000 in
theorem drawGO_any (zs : List Int) (v : Value) (B : Nat) (w : World) (hr : RdB zs v B w) (hB : B ≤ w.heap.size) :
    Calls Tryz.prog 15 #[v] w (RetDIE w) := by
  have HR := Lib.hid hr
  have hC := Lib.hid (fun w (h : RdB zs v B w) (h2 : B ≤ w.heap.size) => drawPI_any zs v B w h h2)
  clear hr
  obtain ⟨A, m, c, rfl⟩ := HR.out.shape
  go_enter Tryz.func15, Tryz.ntmps15
  go_wp2_with fail
  refine (hC.out _ (HR.out.grown (grown_alloc _ _ none) (fun k hk => by cases hk)) (by simp; omega)).mono ?_
  rintro e v1 ⟨d, x, y, z, rfl, hx, hb1⟩
  have hz1 := hb1.size
  (try simp at hz1)
  have hA1 : Blk v1 w.heap.size 25 #[.int .i64 0, .int .i64 0, .int .i64 0] := Blk.call (by (repeat (first | with_reducible assumption | (with_reducible apply Blk.new_at; (first | rfl | (simp; done))) | with_reducible apply Blk.store3 | with_reducible apply Blk.store4 | (with_reducible apply Blk.farp; (first | omega | (simp <;> omega))) | with_reducible apply Blk.allocp | with_reducible apply Blk.drew | with_reducible apply Blk.drewN))) hb1
  have cA1 := hA1.cell; have fA1 := hA1.frozen; have lA1 := hA1.lt; have mA1 := Nat.ne_of_gt lA1; have nA1 := Nat.ne_of_lt lA1
  have hb2 : Below w.heap.size w v1 := (by repeat (first | with_reducible exact Below.refl _ _ | with_reducible assumption | with_reducible apply Below.drew | with_reducible apply below_drewN | (with_reducible apply below_setp; (first | omega | (simp <;> omega))) | (with_reducible apply below_allocp; (first | omega | (simp <;> omega))) | (with_reducible refine below_viap (by assumption) ?_ ?_; (first | omega | (simp <;> omega)))))
  clear hb1
  go_wp2
  exact bodyPost_ret (v := .tuple #[.int .i64 d, .agg #[.int .i64 x, .int .i64 y, .int .i64 z]]) (by simp [results, Tryz.results15, go_sem, *]) rfl ⟨d, x, y, z, rfl, hx, (by repeat (first | with_reducible exact Below.refl _ _ | with_reducible assumption | with_reducible apply Below.drew | with_reducible apply below_drewN | (with_reducible apply below_setp; (first | omega | (simp <;> omega))) | (with_reducible apply below_allocp; (first | omega | (simp <;> omega))) | (with_reducible refine below_viap (by assumption) ?_ ?_; (first | omega | (simp <;> omega)))))⟩
end

section
open Go.RowKit

/-- The class of a product of ideals is the composite of their classes. -/
theorem icl_law {d x1 x2 x3 y1 y2 y3 q1 q2 q3 : Int} {f g : Fm} (hf : IcR d x1 x2 x3 f true) (hg : IcR d y1 y2 y3 g true) (hP : IpR d x1 x2 x3 y1 y2 y3 q1 q2 q3 true) :
    ∃ h : Fm, IcR d q1 q2 q3 h true ∧ pairB f g = true ∧ cmp (disc f) (red f) (red g) = h := by
  rcases hf with ⟨h, _⟩ | ⟨_, hB, hx, c, hc, hr⟩
  · cases h
  rcases hg with ⟨h, _⟩ | ⟨_, _, hy, c', hc', hr'⟩
  · cases h
  have hp := piB_prim hB hx hc
  have hq := piB_prim hB hy hc'
  rcases hP with ⟨_, h, _⟩ | ⟨_, _, e, A, p, h1, h2, h3, h4, ⟨_, hi, rfl, rfl, rfl⟩ | ⟨h, _⟩⟩
  · cases h
  · have hz := idB_iff.1 hi
    obtain ⟨c3, hc3, _, _, hd⟩ := hz.form
    have hl := prod_law hx hy hc hc' hp hq h3 h1.e0 hz rfl hc3
    have cf := CF.of_cls (hx.cls hc hp)
    have cg := CF.of_cls (hy.cls hc' hq)
    rw [hx.disc hc, hr] at cf
    rw [hy.disc hc', hr'] at cg
    have ff := CF.of_mem cf.D cf.mem
    have fg := CF.of_mem cf.D cg.mem
    refine ⟨_, .inr ⟨rfl, hB, hz, c3, hc3, rfl⟩, ?_, ?_⟩
    · unfold pairB
      rw [cls_isCls cf.D cf.mem, cls_isCls cf.D cg.mem, ff.dc, fg.dc]
      simp
    · rw [ff.dc, ff.rd, fg.rd, hl, hr, hr']
  · cases h
end
end Go.Proofs.YtohgccgbbipjjaaGreat
