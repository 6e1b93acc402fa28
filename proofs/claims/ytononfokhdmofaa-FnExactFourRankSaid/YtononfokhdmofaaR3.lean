/- Contracts of FourRank, of the program and of the reference. (gen_R3.py wrote this.) -/
import Derived.Test.YtononfokhdmofaaR2
import Derived.Test.YtononfokhdmofaaK7
namespace Go.Proofs.Ytononfokhdmofaa
open Go.RowKit

/-- The ambiguous classes that are squares. -/
noncomputable def bothL (d : Int) : List Fm := ((clsL d).filter ambB).filter (hasF ((clsL d).filter (powP d 2 (clsL d))))
theorem one_amb (d : Int) : ambB (oneF d) = true := by
  unfold ambB isAmb oneF
  simp only [Bool.or_eq_true, decide_eq_true_eq]
  omega
theorem both_pos {d : Int} (D : Dsc d) : 1 ≤ (bothL d).length := by
  have h : oneF d ∈ bothL d := by
    unfold bothL
    refine List.mem_filter.2 ⟨List.mem_filter.2 ⟨D.one, one_amb d⟩, hasF_yes (List.mem_filter.2 ⟨D.one, ?_⟩)⟩
    unfold powP
    refine List.any_eq_true.2 ⟨oneF d, D.one, (fmEq_iff _ _).2 ?_⟩
    rw [show (2 : Nat) = 1 + 1 from rfl, D.pw_add D.one, D.pw_one D.one, D.mul_one D.one]
  exact List.length_pos_of_mem h
theorem both_len (d : Int) : (bothL d).length ≤ 100000 :=
  Nat.le_trans (List.length_filter_le _ _) (Nat.le_trans (List.length_filter_le _ _) (Nat.le_trans (clsL_len d) (by decide)))
/-- What FourRank gives. -/
def FourR (d n : Int) (ok : Bool) : Prop := (isDisc d = false ∧ n = 0 ∧ ok = false) ∨ (isDisc d = true ∧ n = expo 2 (bothL d).length ∧ ok = true)
theorem fourR_ex (d : Int) : ∃ n ok, FourR d n ok := by
  cases hc : isDisc d with
  | false => exact ⟨_, _, .inl ⟨hc, rfl, rfl⟩⟩
  | true => exact ⟨_, _, .inr ⟨hc, rfl, rfl⟩⟩
theorem filter_cnt {L : List Fm} {p : Fm → Bool} {k : Nat} (hk : k < L.length) : ((L.take (k + 1)).filter p).length = ((L.take k).filter p).length + (if p L[k] then 1 else 0) := by
  rw [filter_take hk, List.length_append]
  split <;> simp
/-- The state of the loop that counts. -/
def CntSt (p : Fm → Bool) (A : List Fm) (w2 : World) (vm vi : Value) (wr : World) : Prop :=
  ∃ k m : Nat, vi = .int .i64 k ∧ k ≤ A.length ∧ vm = .int .i64 m ∧ m ≤ 100000 ∧ Hid (((A.take k).filter p).length = m) ∧ Below w2.heap.size w2 wr

set_option maxRecDepth 100000 in
set_option maxHeartbeats 3200000 in
theorem implFR_any (d n : Int) (ok : Bool) (w : World) (h : FourR d n ok) :
    Calls Try.prog 24 #[.int .i64 d] w fun e w' => e = .returned (.tuple #[.int .i64 n, .bool ok]) ∧ Below w.heap.size w w' := by
  rcases h with ⟨hc, rfl, rfl⟩ | ⟨hc, rfl, rfl⟩
  · go_enter Try.func24, Try.ntmps24
    go_wp2_with (go_at_call 68; (with_reducible refine (negDisc_eq d false _ hc).mono ?_); rintro e v ⟨rfl, rfl⟩)
    go_ret2
    exact ⟨rfl, (by repeat (first | with_reducible exact Below.refl _ _ | with_reducible assumption | with_reducible apply Below.drew | with_reducible apply below_drewN | (with_reducible apply below_setp; (first | omega | (simp <;> omega))) | (with_reducible apply below_allocp; (first | omega | (simp <;> omega))) | (with_reducible refine below_viap (by assumption) ?_ ?_; (first | omega | (simp <;> omega)))))⟩
  · have D := dsc_of hc
    have hP := Lib.hid (fun w => powerClasses_any d 2 w D (by decide))
    have hA := Lib.hid (fun w => ambiguous_any d w D.lo D.hi)
    have hN := both_pos D
    have hN2 := both_len d
    unfold bothL at *
    have hsl : ((clsL d).filter (powP d 2 (clsL d))).length ≤ 100000 := Nat.le_trans (List.length_filter_le _ _) (Nat.le_trans (clsL_len _) (by decide))
    have hal : ((clsL d).filter ambB).length ≤ 100000 := Nat.le_trans (List.length_filter_le _ _) (Nat.le_trans (clsL_len _) (by decide))
    generalize (clsL d).filter (powP d 2 (clsL d)) = S at *
    generalize (clsL d).filter ambB = A at *
    obtain ⟨p, hp0⟩ : ∃ p, hasF S = p := ⟨_, rfl⟩
    have Hp := Lib.hid (fun f => (congrFun hp0 f))
    rw [hp0] at hN hN2 ⊢
    clear hp0
    obtain ⟨N, hNe⟩ : ∃ N, (A.filter p).length = N := ⟨_, rfl⟩
    rw [hNe] at hN hN2 ⊢
    have HNe := Lib.hid hNe
    clear hNe
    have hE := Lib.hid (fun w => exponent_any N 2 w (by omega) (by omega) (by omega) (by omega))
    go_enter Try.func24, Try.ntmps24
    go_wp2_with (first
      | (go_at_call 68; (with_reducible refine (negDisc_eq d true _ hc).mono ?_); rintro e v ⟨rfl, rfl⟩)
      | (go_at_call 61; refine (hP.out _).mono ?_; rintro e w1 ⟨vs, rfl, hos, hb1⟩; have hz1 := hb1.size)
      | (go_at_call 74; refine (hA.out _).mono ?_; rintro e w2 ⟨va, rfl, hoa, hb2⟩; have hz2' := hb2.size; obtain ⟨base, cap, rfl⟩ := own_shape hoa))
    obtain ⟨B1, hB1e⟩ : ∃ B1 : Nat, B1 = w.heap.size := ⟨_, rfl⟩
    rw [← hB1e] at hos
    have HS := Lib.hid (own_call hb2 hos)
    have HA := Lib.hid hoa
    have hb := below_via hb1 hb2 hz1
    clear hos hoa hb1 hb2
    go_loopw [5, 16] (fun vm i wr => CntSt p A w2 vm i wr) (fun _ i _ => A.length - (intOf i).toNat)
    case atStart => exact ⟨0, 0, rfl, Nat.zero_le _, rfl, by omega, Lib.hid rfl, (by repeat (first | with_reducible exact Below.refl _ _ | with_reducible assumption | with_reducible apply Below.drew | with_reducible apply below_drewN | (with_reducible apply below_setp; (first | omega | (simp <;> omega))) | (with_reducible apply below_allocp; (first | omega | (simp <;> omega))) | (with_reducible refine below_viap (by assumption) ?_ ?_; (first | omega | (simp <;> omega)))))⟩
    case round =>
      obtain ⟨k, m, rfl, hk, rfl, hm, hcn, hbel⟩ := hrel
      have hz := hbel.size
      have hos3 := own_call hbel HS.out
      by_cases hlt : k < A.length
      · obtain ⟨g, rfl, hg2, d1, d2, d3⟩ := own_elem (own_call hbel HA.out) hlt
        have hft := filter_cnt (p := p) hlt
        rw [hcn.out] at hft
        generalize A[k] = f at d1 d2 d3 hft
        have hpf := Hp.out f
        by_cases hp : p f = true
        · have hx := Lib.hid (hft.trans (by rw [if_pos hp]))
          rw [hp] at hpf
          have hp := hpf
          clear hft hpf
          have hG := Lib.hid (fun w h => hasForm_any vs B1 S f w hsl h)
          rw [hp] at hG
          have hm5 : m + 1 ≤ 100000 := by have := hx.out; have := filter_len (p := p) A (k + 1) hal; omega
          go_wp2_with (go_at_call 60; refine (hG.out _ (own_alloc hos3)).mono ?_; rintro e v3 ⟨rfl, hB3⟩; have hZ3 := hB3.size; (try simp at hZ3))
          go_roundw
          case rel => exact ⟨k + 1, m + 1, rfl, hlt, rfl, hm5, Lib.hid hx.out, (by repeat (first | with_reducible exact Below.refl _ _ | with_reducible assumption | with_reducible apply Below.drew | with_reducible apply below_drewN | (with_reducible apply below_setp; (first | omega | (simp <;> omega))) | (with_reducible apply below_allocp; (first | omega | (simp <;> omega))) | (with_reducible refine below_viap (by assumption) ?_ ?_; (first | omega | (simp <;> omega)))))⟩
          case measure => simp [intOf]; omega
        · have hx := Lib.hid (hft.trans (by rw [if_neg hp, Nat.add_zero]))
          have hp2 : p f = false := by simpa using hp
          rw [hp2] at hpf
          have hp2 := hpf
          clear hft hpf hp
          have hG := Lib.hid (fun w h => hasForm_any vs B1 S f w hsl h)
          rw [hp2] at hG
          go_wp2_with (go_at_call 60; refine (hG.out _ (own_alloc hos3)).mono ?_; rintro e v3 ⟨rfl, hB3⟩; have hZ3 := hB3.size; (try simp at hZ3))
          go_roundw
          case rel => exact ⟨k + 1, m, rfl, hlt, rfl, hm, Lib.hid hx.out, (by repeat (first | with_reducible exact Below.refl _ _ | with_reducible assumption | with_reducible apply Below.drew | with_reducible apply below_drewN | (with_reducible apply below_setp; (first | omega | (simp <;> omega))) | (with_reducible apply below_allocp; (first | omega | (simp <;> omega))) | (with_reducible refine below_viap (by assumption) ?_ ?_; (first | omega | (simp <;> omega)))))⟩
          case measure => simp [intOf]; omega
      · have e : k = A.length := by omega
        obtain rfl : m = N := by rw [← hcn.out, ← HNe.out, e, List.take_length]
        clear hcn HNe
        go_wp2_with (go_at_call 75; (with_reducible refine (hE.out _).mono ?_); rintro e v ⟨rfl, rfl⟩)
        go_ret2
        exact ⟨rfl, below_via hb hbel hb.size⟩

set_option maxRecDepth 100000 in
set_option maxHeartbeats 3200000 in
theorem specFR_any (d n : Int) (ok : Bool) (w : World) (h : FourR d n ok) :
    Calls Try.prog 23 #[.int .i64 d] w fun e w' => e = .returned (.tuple #[.int .i64 n, .bool ok]) ∧ Below w.heap.size w w' := by
  rcases h with ⟨hc, rfl, rfl⟩ | ⟨hc, rfl, rfl⟩
  · go_enter Try.func23, Try.ntmps23
    go_wp2_with (go_at_call 64; (with_reducible refine (rDisc_eq d false _ hc).mono ?_); rintro e v ⟨rfl, rfl⟩)
    go_ret2
    exact ⟨rfl, (by repeat (first | with_reducible exact Below.refl _ _ | with_reducible assumption | with_reducible apply Below.drew | with_reducible apply below_drewN | (with_reducible apply below_setp; (first | omega | (simp <;> omega))) | (with_reducible apply below_allocp; (first | omega | (simp <;> omega))) | (with_reducible refine below_viap (by assumption) ?_ ?_; (first | omega | (simp <;> omega)))))⟩
  · have D := dsc_of hc
    have hP := Lib.hid (fun w => gePowers_any d 2 w D (by decide))
    have hA := Lib.hid (fun w => geAll_any d w D)
    have hN := both_pos D
    have hN2 := both_len d
    unfold bothL at *
    have hsl : ((clsL d).filter (powP d 2 (clsL d))).length ≤ 100000 := Nat.le_trans (List.length_filter_le _ _) (Nat.le_trans (clsL_len _) (by decide))
    have hal : ((clsL d).filter ambB).length ≤ 100000 := Nat.le_trans (List.length_filter_le _ _) (Nat.le_trans (clsL_len _) (by decide))
    generalize (clsL d).filter (powP d 2 (clsL d)) = S at *
    generalize (clsL d).filter ambB = A at *
    obtain ⟨p, hp0⟩ : ∃ p, hasF S = p := ⟨_, rfl⟩
    have Hp := Lib.hid (fun f => (congrFun hp0 f))
    rw [hp0] at hN hN2 ⊢
    clear hp0
    obtain ⟨N, hNe⟩ : ∃ N, (A.filter p).length = N := ⟨_, rfl⟩
    rw [hNe] at hN hN2 ⊢
    have HNe := Lib.hid hNe
    clear hNe
    have hE := Lib.hid (fun w => nuExponent_any N 2 w (by omega) (by omega) (by omega) (by omega))
    go_enter Try.func23, Try.ntmps23
    go_wp2_with (first
      | (go_at_call 64; (with_reducible refine (rDisc_eq d true _ hc).mono ?_); rintro e v ⟨rfl, rfl⟩)
      | (go_at_call 56; refine (hP.out _).mono ?_; rintro e w1 ⟨vs, rfl, hos, hb1⟩; have hz1 := hb1.size)
      | (go_at_call 72; refine (hA.out _).mono ?_; rintro e w2 ⟨va, rfl, hoa, hb2⟩; have hz2' := hb2.size; obtain ⟨base, cap, rfl⟩ := own_shape hoa))
    obtain ⟨B1, hB1e⟩ : ∃ B1 : Nat, B1 = w.heap.size := ⟨_, rfl⟩
    rw [← hB1e] at hos
    have HS := Lib.hid (own_call hb2 hos)
    have HA := Lib.hid hoa
    have hb := below_via hb1 hb2 hz1
    clear hos hoa hb1 hb2
    go_loopw [5, 16] (fun vm i wr => CntSt p A w2 vm i wr) (fun _ i _ => A.length - (intOf i).toNat)
    case atStart => exact ⟨0, 0, rfl, Nat.zero_le _, rfl, by omega, Lib.hid rfl, (by repeat (first | with_reducible exact Below.refl _ _ | with_reducible assumption | with_reducible apply Below.drew | with_reducible apply below_drewN | (with_reducible apply below_setp; (first | omega | (simp <;> omega))) | (with_reducible apply below_allocp; (first | omega | (simp <;> omega))) | (with_reducible refine below_viap (by assumption) ?_ ?_; (first | omega | (simp <;> omega)))))⟩
    case round =>
      obtain ⟨k, m, rfl, hk, rfl, hm, hcn, hbel⟩ := hrel
      have hz := hbel.size
      have hos3 := own_call hbel HS.out
      by_cases hlt : k < A.length
      · obtain ⟨g, rfl, hg2, d1, d2, d3⟩ := own_elem (own_call hbel HA.out) hlt
        have hft := filter_cnt (p := p) hlt
        rw [hcn.out] at hft
        generalize A[k] = f at d1 d2 d3 hft
        have hpf := Hp.out f
        by_cases hp : p f = true
        · have hx := Lib.hid (hft.trans (by rw [if_pos hp]))
          rw [hp] at hpf
          have hp := hpf
          clear hft hpf
          have hgx : 0 ≤ gix S f := by have := gix_has S f; rw [hp] at this; exact of_decide_eq_true this
          have hG := Lib.hid (fun w h => grIndex_any vs B1 S f w hsl h)
          obtain ⟨x, hx⟩ : ∃ x, gix S f = x := ⟨_, rfl⟩
          rw [hx] at hG hgx
          clear hx
          have hm5 : m + 1 ≤ 100000 := by have := hx.out; have := filter_len (p := p) A (k + 1) hal; omega
          go_wp2_with (go_at_call 55; refine (hG.out _ (own_alloc hos3)).mono ?_; rintro e v3 ⟨rfl, hB3⟩; have hZ3 := hB3.size; (try simp at hZ3))
          go_roundw
          case rel => exact ⟨k + 1, m + 1, rfl, hlt, rfl, hm5, Lib.hid hx.out, (by repeat (first | with_reducible exact Below.refl _ _ | with_reducible assumption | with_reducible apply Below.drew | with_reducible apply below_drewN | (with_reducible apply below_setp; (first | omega | (simp <;> omega))) | (with_reducible apply below_allocp; (first | omega | (simp <;> omega))) | (with_reducible refine below_viap (by assumption) ?_ ?_; (first | omega | (simp <;> omega)))))⟩
          case measure => simp [intOf]; omega
        · have hx := Lib.hid (hft.trans (by rw [if_neg hp, Nat.add_zero]))
          have hp2 : p f = false := by simpa using hp
          rw [hp2] at hpf
          have hp2 := hpf
          clear hft hpf hp
          have hgx : ¬ 0 ≤ gix S f := by have := gix_has S f; rw [hp2] at this; exact of_decide_eq_false this
          have hG := Lib.hid (fun w h => grIndex_any vs B1 S f w hsl h)
          obtain ⟨x, hx⟩ : ∃ x, gix S f = x := ⟨_, rfl⟩
          rw [hx] at hG hgx
          clear hx
          go_wp2_with (go_at_call 55; refine (hG.out _ (own_alloc hos3)).mono ?_; rintro e v3 ⟨rfl, hB3⟩; have hZ3 := hB3.size; (try simp at hZ3))
          go_roundw
          case rel => exact ⟨k + 1, m, rfl, hlt, rfl, hm, Lib.hid hx.out, (by repeat (first | with_reducible exact Below.refl _ _ | with_reducible assumption | with_reducible apply Below.drew | with_reducible apply below_drewN | (with_reducible apply below_setp; (first | omega | (simp <;> omega))) | (with_reducible apply below_allocp; (first | omega | (simp <;> omega))) | (with_reducible refine below_viap (by assumption) ?_ ?_; (first | omega | (simp <;> omega)))))⟩
          case measure => simp [intOf]; omega
      · have e : k = A.length := by omega
        obtain rfl : m = N := by rw [← hcn.out, ← HNe.out, e, List.take_length]
        clear hcn HNe
        go_wp2_with (go_at_call 73; (with_reducible refine (hE.out _).mono ?_); rintro e v ⟨rfl, rfl⟩)
        go_ret2
        exact ⟨rfl, below_via hb hbel hb.size⟩
end Go.Proofs.Ytononfokhdmofaa
