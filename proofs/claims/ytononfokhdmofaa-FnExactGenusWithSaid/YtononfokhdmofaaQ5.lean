/- Contracts of GenusWith, of the program and of the reference. -/
import Derived.Test.YtononfokhdmofaaQ4
import Derived.Test.YtononfokhdmofaaQ2
import Derived.Test.YtononfokhdmofaaK7
namespace Go.Proofs.Ytononfokhdmofaa
open Go.RowKit

/-- What GenusWith gives. -/
def GwL (d : Int) (V : List Int) (L : List Fm) (ok : Bool) : Prop :=
  (isDisc d = false ∧ L = [] ∧ ok = false) ∨
  (isDisc d = true ∧ ¬ V.length = (chars (-d)).length ∧ L = [] ∧ ok = false) ∨
  (isDisc d = true ∧ V.length = (chars (-d)).length ∧ L = (clsL d).filter (gnP d V) ∧ ok = decide (0 < L.length))
theorem gwL_ex (d : Int) (V : List Int) : ∃ L ok, GwL d V L ok ∧ L.length ≤ 100000 := by
  cases hc : isDisc d with
  | false => exact ⟨_, _, .inl ⟨hc, rfl, rfl⟩, by simp⟩
  | true =>
    by_cases h : V.length = (chars (-d)).length
    · exact ⟨_, _, .inr (.inr ⟨hc, h, rfl, rfl⟩), Nat.le_trans (List.length_filter_le _ _) (Nat.le_trans (clsL_len _) (by decide))⟩
    · exact ⟨_, _, .inr (.inl ⟨hc, h, rfl, rfl⟩), by simp⟩

theorem absw_yes (a : Int) (w : World) (h : a = 1 ∨ a = -1) : Calls Try.prog 98 #[.int .i64 a] w fun e w' => e = .returned (.int .i64 1) ∧ w = w' := by
  have k := abs_any a w (by omega) (by omega)
  have e : (a.natAbs : Int) = 1 := by omega
  rwa [e] at k
set_option maxHeartbeats 400000 in
theorem absw_no (a : Int) (w : World) (h : ¬ (a = 1 ∨ a = -1)) (h1 : -9223372036854775808 ≤ a) (h2 : a ≤ 9223372036854775807) :
    Calls Try.prog 98 #[.int .i64 a] w fun e w' => (∃ t : Int, e = .returned (.int .i64 t) ∧ (t == 1) = false) ∧ w = w' := by
  by_cases hs : -9223372036854775807 ≤ a
  · by_cases hp : 0 ≤ a
    · go_enter Try.func98, Try.ntmps98
      go_wp2
      go_ret
      refine ⟨⟨a, ret_int (by omega), by first | omega | (rw [beq_eq_false_iff_ne]; omega)⟩, rfl⟩
    · go_enter Try.func98, Try.ntmps98
      go_wp2
      go_ret
      refine ⟨⟨-a, ret_int (by omega), by first | omega | (rw [beq_eq_false_iff_ne]; omega)⟩, rfl⟩
  · obtain rfl : a = -9223372036854775808 := by omega
    clear h h1 h2 hs
    go_enter Try.func98, Try.ntmps98
    go_wp2
    go_ret
    exact ⟨⟨9223372036854775807, rfl, by decide⟩, rfl⟩

def GwSt (n : Nat) (w : World) (vi : Value) (wr : World) : Prop :=
  ∃ k : Nat, vi = .int .i64 k ∧ k ≤ n ∧ Below w.heap.size w wr

set_option maxRecDepth 100000 in
set_option maxHeartbeats 3200000 in
theorem implGW_any (d : Int) (v : Value) (B2 : Nat) (V : List Int) (L : List Fm) (ok : Bool) (w : World) (hV : V.length ≤ 10000000) (hVw : ∀ x ∈ V, -9223372036854775808 ≤ x ∧ x ≤ 9223372036854775807)
    (h : GwL d V L ok) (ho : w.ownsRow B2 3 1 v V.length (cellsI V)) :
    Calls Try.prog 41 #[.int .i64 d, v] w (RetFb L ok w) := by
  obtain ⟨base2, cap2, rfl⟩ := own_shape ho
  have hF : isDisc d = true → ∀ w, Calls Try.prog 97 #[.int .i64 d] w (RetC (chars (-d)) w) := by
    intro hc w
    have D := dsc_of hc
    have := D.lo; have := D.hi
    have k := assigned_any (-d) w (by omega) (by omega)
    rwa [Int.neg_neg] at k
  rcases h with ⟨hc, rfl, rfl⟩ | ⟨hc, hn, rfl, rfl⟩ | ⟨hc, hn, hL, rfl⟩
  · clear ho hF
    go_enter Try.func41, Try.ntmps41
    go_wp2_with (go_at_call 68; (with_reducible refine (negDisc_eq d false _ hc).mono ?_); rintro e v ⟨rfl, rfl⟩)
    go_ret2
    exact ⟨_, rfl, own_empty (by omega), (by repeat (first | with_reducible exact Below.refl _ _ | with_reducible assumption | with_reducible apply Below.drew | with_reducible apply below_drewN | (with_reducible apply below_setp; (first | omega | (simp <;> omega))) | (with_reducible apply below_allocp; (first | omega | (simp <;> omega))) | (with_reducible refine below_viap (by assumption) ?_ ?_; (first | omega | (simp <;> omega)))))⟩
  · have HF := Lib.hid (hF hc)
    generalize chars (-d) = C at *
    have hle : ((V.length : Int) == (C.length : Int)) = false := by rw [beq_eq_false_iff_ne]; omega
    clear ho hF hn
    go_enter Try.func41, Try.ntmps41
    go_wp2_with (first
      | (go_at_call 68; (with_reducible refine (negDisc_eq d true _ hc).mono ?_); rintro e v ⟨rfl, rfl⟩)
      | (go_at_call 97; refine (HF.out _).mono ?_; rintro e w1 ⟨vc, rfl, hoc, hb1⟩; have hz1 := hb1.size; obtain ⟨bc, cc, rfl⟩ := own_shape hoc))
    go_ret2
    exact ⟨_, rfl, own_empty (by omega), (by repeat (first | with_reducible exact Below.refl _ _ | with_reducible assumption | with_reducible apply Below.drew | with_reducible apply below_drewN | (with_reducible apply below_setp; (first | omega | (simp <;> omega))) | (with_reducible apply below_allocp; (first | omega | (simp <;> omega))) | (with_reducible refine below_viap (by assumption) ?_ ?_; (first | omega | (simp <;> omega)))))⟩
  · have D := dsc_of hc
    have HF := Lib.hid (hF hc)
    have hW := fun w h => genusWith_any d (.slice base2 V.length cap2) B2 V w D hV h
    have hno := Lib.hid (fun x (hx : x ∈ V) (h : ¬ (x = 1 ∨ x = -1)) => hL.trans (gn_none D hx (by omega) (gnP d V) (fun _ => rfl)))
    have hLl : L.length ≤ 100000 := by rw [hL]; exact Nat.le_trans (List.length_filter_le _ _) (Nat.le_trans (clsL_len _) (by decide))
    rw [← hL] at hW
    have HV := Lib.hid hVw
    generalize chars (-d) = C at *
    obtain ⟨n, hCn⟩ : ∃ n, C.length = n := ⟨_, rfl⟩
    rw [hCn] at hn
    rw [hn] at hW ho hV ⊢
    have HW := Lib.hid hW
    have HCn := Lib.hid hCn
    have HVn := Lib.hid hn
    have H := Lib.hid ho
    clear ho hF hL hVw D hW hCn hn
    go_enter Try.func41, Try.ntmps41
    go_wp2_with (first
      | (go_at_call 68; (with_reducible refine (negDisc_eq d true _ hc).mono ?_); rintro e v ⟨rfl, rfl⟩)
      | (go_at_call 97; refine (HF.out _).mono ?_; rintro e w1 ⟨vc, rfl, hoc, hb1⟩; have hz1 := hb1.size; rw [HCn.out] at hoc; obtain ⟨bc, cc, rfl⟩ := own_shape hoc))
    go_loopw [23] (fun i wr => GwSt n w i wr) (fun i _ => n - (intOf i).toNat)
    case atStart => exact ⟨0, rfl, Nat.zero_le _, (by repeat (first | with_reducible exact Below.refl _ _ | with_reducible assumption | with_reducible apply Below.drew | with_reducible apply below_drewN | (with_reducible apply below_setp; (first | omega | (simp <;> omega))) | (with_reducible apply below_allocp; (first | omega | (simp <;> omega))) | (with_reducible refine below_viap (by assumption) ?_ ?_; (first | omega | (simp <;> omega)))))⟩
    case round =>
      clear hoc hb1 hz1
      obtain ⟨k, rfl, hk, hbel⟩ := hrel
      have hz := hbel.size
      by_cases hlt : k < n
      · have hlt1 : k < V.length := by rw [HVn.out]; exact hlt
        obtain ⟨g, rfl, e1, d1⟩ := own_elemI (n := n) (L := V) (by rw [HVn.out]; exact own_call hbel H.out) hlt1
        have hm := List.getElem_mem hlt1
        generalize V[k] = x at d1 hm
        clear hlt1
        by_cases hx : x = 1 ∨ x = -1
        · have hA := Lib.hid (fun w => absw_yes x w hx)
          clear hx hm
          go_wp2_with (go_at_call 98; (with_reducible refine (hA.out _).mono ?_); rintro e v ⟨rfl, rfl⟩)
          go_roundw
          case rel => exact ⟨k + 1, rfl, hlt, hbel⟩
          case measure => simp [intOf]; omega
        · obtain ⟨x1, x2⟩ := HV.out x hm
          have hA := Lib.hid (fun w => absw_no x w hx x1 x2)
          obtain rfl := hno.out x hm hx
          clear hx hm
          go_wp2_with (go_at_call 98; refine (hA.out _).mono ?_; rintro e v ⟨⟨t, rfl, ht⟩, rfl⟩)
          go_ret2
          exact ⟨_, rfl, own_empty (by omega), (by repeat (first | with_reducible exact Below.refl _ _ | with_reducible assumption | with_reducible apply Below.drew | with_reducible apply below_drewN | (with_reducible apply below_setp; (first | omega | (simp <;> omega))) | (with_reducible apply below_allocp; (first | omega | (simp <;> omega))) | (with_reducible refine below_viap (by assumption) ?_ ?_; (first | omega | (simp <;> omega)))))⟩
      · have e : k = n := by omega
        subst e
        have howv := own_call hbel H.out
        by_cases h0 : L.length = 0
        · obtain rfl : L = [] := List.eq_nil_of_length_eq_zero h0
          clear h0
          go_wp2_with (go_at_call 84; refine (HW.out _ howv).mono ?_; rintro e w4 ⟨vl, rfl, howl, hb4⟩; have hz4 := hb4.size; obtain ⟨bl, cl, rfl⟩ := own_shape howl)
          go_ret2
          exact ⟨_, rfl, own_empty (by omega), (by repeat (first | with_reducible exact Below.refl _ _ | with_reducible assumption | with_reducible apply Below.drew | with_reducible apply below_drewN | (with_reducible apply below_setp; (first | omega | (simp <;> omega))) | (with_reducible apply below_allocp; (first | omega | (simp <;> omega))) | (with_reducible refine below_viap (by assumption) ?_ ?_; (first | omega | (simp <;> omega)))))⟩
        · have e0 : ((L.length : Int) == 0) = false := by rw [beq_eq_false_iff_ne]; omega
          have ed : decide (0 < L.length) = true := by rw [decide_eq_true_eq]; omega
          go_wp2_with (go_at_call 84; refine (HW.out _ howv).mono ?_; rintro e w4 ⟨vl, rfl, howl, hb4⟩; have hz4 := hb4.size; obtain ⟨bl, cl, rfl⟩ := own_shape howl)
          go_ret2
          exact ⟨.slice bl L.length cl, (by rw [ed]; rfl), own_base (by omega) howl, (by repeat (first | with_reducible exact Below.refl _ _ | with_reducible assumption | with_reducible apply Below.drew | with_reducible apply below_drewN | (with_reducible apply below_setp; (first | omega | (simp <;> omega))) | (with_reducible apply below_allocp; (first | omega | (simp <;> omega))) | (with_reducible refine below_viap (by assumption) ?_ ?_; (first | omega | (simp <;> omega)))))⟩

set_option maxHeartbeats 400000 in
theorem chIf_any (v : Value) (B : Nat) (L : List Fm) (w : World) (hl : L.length ≤ 100000) (h : w.ownsRow B 26 3 v L.length (cellsF L)) :
    Calls Try.prog 93 #[v] w fun e w' => e = .returned (.tuple #[v, .bool (decide (0 < L.length))]) ∧ w = w' := by
  obtain ⟨base, cap, rfl⟩ := own_shape h
  clear h
  by_cases h0 : L.length = 0
  · have ed : decide (0 < L.length) = false := by rw [decide_eq_false_iff_not]; omega
    rw [ed]
    obtain rfl : L = [] := List.eq_nil_of_length_eq_zero h0
    clear h0 ed hl
    go_enter Try.func93, Try.ntmps93
    go_wp2
    go_ret2
    exact ⟨rfl, rfl⟩
  · have ed : decide (0 < L.length) = true := by rw [decide_eq_true_eq]; omega
    have h1 : 0 < L.length := by omega
    rw [ed]
    go_enter Try.func93, Try.ntmps93
    go_wp2
    go_ret2
    exact ⟨rfl, rfl⟩

set_option maxRecDepth 100000 in
set_option maxHeartbeats 1600000 in
theorem specGW_any (d : Int) (v : Value) (B2 : Nat) (V : List Int) (L : List Fm) (ok : Bool) (w : World) (hV : V.length ≤ 10000000)
    (h : GwL d V L ok) (ho : w.ownsRow B2 3 1 v V.length (cellsI V)) :
    Calls Try.prog 39 #[.int .i64 d, v] w (RetFb L ok w) := by
  obtain ⟨base2, cap2, rfl⟩ := own_shape ho
  have hF : isDisc d = true → ∀ w, Calls Try.prog 96 #[.int .i64 d] w (RetC (chars (-d)) w) := by
    intro hc w
    have D := dsc_of hc
    have := D.lo; have := D.hi
    have k := chAll_any (-d) w (by omega) (by omega)
    rwa [Int.neg_neg] at k
  rcases h with ⟨hc, rfl, rfl⟩ | ⟨hc, hn, rfl, rfl⟩ | ⟨hc, hn, hL, rfl⟩
  · clear ho hF
    go_enter Try.func39, Try.ntmps39
    go_wp2_with (go_at_call 64; (with_reducible refine (rDisc_eq d false _ hc).mono ?_); rintro e v ⟨rfl, rfl⟩)
    go_ret2
    exact ⟨_, rfl, World.ownsRow_nil _ _ _ _, (by repeat (first | with_reducible exact Below.refl _ _ | with_reducible assumption | with_reducible apply Below.drew | with_reducible apply below_drewN | (with_reducible apply below_setp; (first | omega | (simp <;> omega))) | (with_reducible apply below_allocp; (first | omega | (simp <;> omega))) | (with_reducible refine below_viap (by assumption) ?_ ?_; (first | omega | (simp <;> omega)))))⟩
  · have HF := Lib.hid (hF hc)
    generalize chars (-d) = C at *
    have hle : ((V.length : Int) == (C.length : Int)) = false := by rw [beq_eq_false_iff_ne]; omega
    clear ho hF hn
    go_enter Try.func39, Try.ntmps39
    go_wp2_with (first
      | (go_at_call 64; (with_reducible refine (rDisc_eq d true _ hc).mono ?_); rintro e v ⟨rfl, rfl⟩)
      | (go_at_call 96; refine (HF.out _).mono ?_; rintro e w1 ⟨vc, rfl, hoc, hb1⟩; have hz1 := hb1.size; obtain ⟨bc, cc, rfl⟩ := own_shape hoc))
    go_ret2
    exact ⟨_, rfl, World.ownsRow_nil _ _ _ _, (by repeat (first | with_reducible exact Below.refl _ _ | with_reducible assumption | with_reducible apply Below.drew | with_reducible apply below_drewN | (with_reducible apply below_setp; (first | omega | (simp <;> omega))) | (with_reducible apply below_allocp; (first | omega | (simp <;> omega))) | (with_reducible refine below_viap (by assumption) ?_ ?_; (first | omega | (simp <;> omega)))))⟩
  · have D := dsc_of hc
    have HF := Lib.hid (hF hc)
    have hW := fun w h => chWith_any d (.slice base2 V.length cap2) B2 V w D hV h
    have hLl : L.length ≤ 100000 := by rw [hL]; exact Nat.le_trans (List.length_filter_le _ _) (Nat.le_trans (clsL_len _) (by decide))
    rw [← hL] at hW
    generalize chars (-d) = C at *
    obtain ⟨n, hCn⟩ : ∃ n, C.length = n := ⟨_, rfl⟩
    rw [hCn] at hn
    rw [hn] at hW ho hV ⊢
    have HW := Lib.hid hW
    have HCn := Lib.hid hCn
    have H := Lib.hid ho
    clear ho hF hL D hW hCn hn
    go_enter Try.func39, Try.ntmps39
    go_wp2_with (first
      | (go_at_call 64; (with_reducible refine (rDisc_eq d true _ hc).mono ?_); rintro e v ⟨rfl, rfl⟩)
      | (go_at_call 96; refine (HF.out _).mono ?_; rintro e w1 ⟨vc, rfl, hoc, hb1⟩; have hz1 := hb1.size; rw [HCn.out] at hoc; obtain ⟨bc, cc, rfl⟩ := own_shape hoc; have howv := own_call hb1 H.out)
      | (go_at_call 81; refine (HW.out _ howv).mono ?_; rintro e w4 ⟨vl, rfl, howl, hb4⟩; have hz4 := hb4.size)
      | (go_at_call 93; refine (chIf_any vl _ L _ hLl howl).mono ?_; rintro e w5 ⟨rfl, rfl⟩))
    go_ret2
    exact ⟨_, rfl, own_base (by omega) howl, (by repeat (first | with_reducible exact Below.refl _ _ | with_reducible assumption | with_reducible apply Below.drew | with_reducible apply below_drewN | (with_reducible apply below_setp; (first | omega | (simp <;> omega))) | (with_reducible apply below_allocp; (first | omega | (simp <;> omega))) | (with_reducible refine below_viap (by assumption) ?_ ?_; (first | omega | (simp <;> omega)))))⟩
end Go.Proofs.Ytononfokhdmofaa
