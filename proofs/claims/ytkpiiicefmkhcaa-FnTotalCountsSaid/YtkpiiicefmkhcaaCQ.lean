/- Parts CN CM CO laid together by tp.py. -/
import Derived.Test.YtkpiiicefmkhcaaIE
import Derived.Test.YtkpiiicefmkhcaaIF
import Derived.Test.YtkpiiicefmkhcaaTA
import Derived.Test.YtkpiiicefmkhcaaFN
import Derived.Test.YtkpiiicefmkhcaaQF
import Derived.Test.YtkpiiicefmkhcaaGG
import Derived.Test.YtkpiiicefmkhcaaN5
import Derived.Deep.DeepCutAuto
import Derived.Test.YtkpiiicefmkhcaaDZ
import Derived.Test.YtkpiiicefmkhcaaIM
namespace Go.Proofs.Ytkpiiicefmkhcaa
section
open Go.RowKit

/-- The number of points of a list of forms. -/
noncomputable def tcN (d n : Int) (L : List Fm) : Nat := (L.map fun f => (ptsL d n f).length).sum
theorem tcN_take {d n : Int} {L : List Fm} {k : Nat} (h : k < L.length) : tcN d n (L.take (k + 1)) = tcN d n (L.take k) + (ptsL d n L[k]).length := by
  unfold tcN
  rw [List.take_succ_eq_append_getElem h, List.map_append, List.sum_append]
  simp
theorem tcN_bd {d n : Int} (D : Dsc d) (hn : 1 ≤ n ∧ n ≤ 10000) : ∀ L : List Fm, (∀ f ∈ L, f ∈ clsL d) → tcN d n L ≤ 50000 * L.length
  | [], _ => by simp [tcN]
  | f :: L, h => by
    have i := tcN_bd D hn L (fun g hg => h g (List.mem_cons_of_mem _ hg))
    have := pts_len (n := n) D (h f (by simp)) hn
    unfold tcN at *
    rw [List.map_cons, List.sum_cons, List.length_cons]
    omega
/-- What TotalCount gives. -/
def TcR (d n s : Int) (ok : Bool) : Prop :=
  (isDisc d = false ∧ s = 0 ∧ ok = false) ∨ (isDisc d = true ∧ shwB n = false ∧ s = 0 ∧ ok = false) ∨ (isDisc d = true ∧ shwB n = true ∧ s = (tcN d n (clsL d) : Nat) ∧ ok = true)
theorem tcR_ex (d n : Int) : ∃ s ok, TcR d n s ok := by
  cases hc : isDisc d with
  | false => exact ⟨_, _, .inl ⟨hc, rfl, rfl⟩⟩
  | true =>
    cases hs : shwB n with
    | false => exact ⟨_, _, .inr (.inl ⟨hc, hs, rfl, rfl⟩)⟩
    | true => exact ⟨_, _, .inr (.inr ⟨hc, hs, rfl, rfl⟩)⟩
set_option maxRecDepth 100000 in
set_option maxHeartbeats 3200000 in
theorem implTC_any (d n s : Int) (ok : Bool) (w : World) (h : TcR d n s ok) :
    Calls Try.prog 10 #[.int .i64 d, .int .i64 n] w fun e w' => e = .returned (.tuple #[.int .i64 s, .bool ok]) ∧ Below w.heap.size w w' := by
  rcases h with ⟨hc, rfl, rfl⟩ | ⟨hc, hs, rfl, rfl⟩ | ⟨hc, hs, rfl, rfl⟩
  · go_enter Try.func10, Try.ntmps10
    go_wp2_with (go_at_call 50; (with_reducible refine (negDisc_eq d false _ hc).mono ?_); rintro e v ⟨rfl, rfl⟩)
    go_ret2
    exact ⟨rfl, (by repeat (first | with_reducible exact Below.refl _ _ | with_reducible assumption | with_reducible apply Below.drew | with_reducible apply below_drewN | (with_reducible apply below_setp; (first | omega | (simp <;> omega))) | (with_reducible apply below_allocp; (first | omega | (simp <;> omega))) | (with_reducible refine below_viap (by assumption) ?_ ?_; (first | omega | (simp <;> omega)))))⟩
  · have hS := Lib.hid (fun w => isShown_all n w)
    rw [hs] at hS
    go_enter Try.func10, Try.ntmps10
    go_wp2_with (first | (go_at_call 50; (with_reducible refine (negDisc_eq d true _ hc).mono ?_); rintro e v ⟨rfl, rfl⟩) | (go_at_call 51; (with_reducible refine (hS.out _).mono ?_); rintro e v ⟨rfl, rfl⟩))
    go_ret2
    exact ⟨rfl, (by repeat (first | with_reducible exact Below.refl _ _ | with_reducible assumption | with_reducible apply Below.drew | with_reducible apply below_drewN | (with_reducible apply below_setp; (first | omega | (simp <;> omega))) | (with_reducible apply below_allocp; (first | omega | (simp <;> omega))) | (with_reducible refine below_viap (by assumption) ?_ ?_; (first | omega | (simp <;> omega)))))⟩
  · have D := dsc_of hc
    have hS := Lib.hid (fun w => isShown_all n w)
    rw [hs] at hS
    have hn : 1 ≤ n ∧ n ≤ 10000 := by unfold shwB at hs; simpa using hs
    have hL := Lib.hid (fun w => reducedForms_any d w D.lo D.hi)
    have hP := Lib.hid (fun f (hf : f ∈ clsL d) => (show ∃ m : Nat, m ≤ 50000 ∧ m = (ptsL d n f).length ∧ ∀ w, Calls Try.prog 53 #[.agg #[.int .i64 f.a, .int .i64 f.b, .int .i64 f.c], .int .i64 n] w (fun e w' => ∃ b c, e = .returned (.slice b m c) ∧ Below w.heap.size w w') from
      ⟨(ptsL d n f).length, pts_len D hf hn, rfl, fun w => by
        have cf := cf_self D hf
        obtain ⟨⟨a1, a2, e3, e4, b1, b2, c2⟩, _⟩ := mem_clsL D.lo hf
        have c1 := cf.df.c0
        have h := points_any f.a f.b f.c (-d) n f w (by rw [Int.neg_neg]; exact cf) ⟨by omega, by omega⟩ ⟨by have : (0 : Int) < f.c := c1; omega, by omega⟩ hn
        rw [Int.neg_neg] at h
        refine Calls.mono h fun e w' h => ?_
        obtain ⟨v, rfl, ho, hb⟩ := h
        have ho' : w'.ownsRow w.heap.size 37 2 v (ptsL d n f).length (cellsP (ptsL d n f)) := ho
        obtain ⟨b, c, rfl⟩ := own_shape ho'
        exact ⟨b, c, rfl, hb⟩⟩))
    have hl := clsL_len d
    have HB : Hid (∀ k, tcN d n ((clsL d).take k) ≤ 100000000) := Lib.hid (fun k => by
      have := tcN_bd D hn ((clsL d).take k) (fun f hf => List.mem_of_mem_take hf)
      have h2 : ((clsL d).take k).length ≤ (clsL d).length := by rw [List.length_take]; omega
      omega)
    generalize clsL d = L at *
    clear D hs
    go_enter Try.func10, Try.ntmps10
    go_wp2_with (first
      | (go_at_call 50; (with_reducible refine (negDisc_eq d true _ hc).mono ?_); rintro e v ⟨rfl, rfl⟩)
      | (go_at_call 51; (with_reducible refine (hS.out _).mono ?_); rintro e v ⟨rfl, rfl⟩)
      | (go_at_call 52; refine (hL.out _).mono ?_; rintro e v1 ⟨vl, rfl, hol, hB1⟩; have hZ1 := hB1.size; (try simp at hZ1); obtain ⟨bl, cl, rfl⟩ := own_shape hol))
    have hb1 : Below w.heap.size w v1 := (by repeat (first | with_reducible exact Below.refl _ _ | with_reducible assumption | with_reducible apply Below.drew | with_reducible apply below_drewN | (with_reducible apply below_setp; (first | omega | (simp <;> omega))) | (with_reducible apply below_allocp; (first | omega | (simp <;> omega))) | (with_reducible refine below_viap (by assumption) ?_ ?_; (first | omega | (simp <;> omega)))))
    skip
    go_loopw [6, 20] (fun v6 v20 wr => ∃ k : Nat, v20 = .int .i64 k ∧ k ≤ L.length ∧ v6 = .int .i64 ((tcN d n (L.take k) : Nat) : Int) ∧ wr.ownsRow w.heap.size 35 3 (.slice bl L.length cl) L.length (cellsF L) ∧ Below w.heap.size w wr) (fun _ v20 _ => L.length - (intOf v20).toNat)
    case atStart => exact ⟨0, rfl, Nat.zero_le _, rfl, hol, hb1⟩
    case round =>
      clear hol hb1
      obtain ⟨k, rfl, hk, rfl, howl, hbel⟩ := hrel
      have hz := hbel.size
      by_cases hlt : k < L.length
      · obtain ⟨g, rfl, lg, d1, d2, d3⟩ := own_elem howl hlt
        obtain ⟨m, hm, hpm, hPf⟩ := hP.out _ (List.getElem_mem hlt)
        have hft := tcN_take (d := d) (n := n) hlt
        have hbd := HB.out k
        rw [← hpm] at hft
        clear hpm
        generalize L[k] = f at *
        generalize tcN d n (L.take k) = S at *
        have HPf := Lib.hid hPf
        have Hft := Lib.hid hft
        have ng : ¬ g = wr.heap.size := by omega
        clear hPf hft
        go_wp2_with (go_at_call 53; (with_reducible refine (HPf.out _).mono ?_); rintro e v2 ⟨bq, cq, rfl, hB2⟩; have hZ2 := hB2.size; (try simp at hZ2); have hol2 := own_call hB2 (own_alloc (o := .cells #[.int .i64 f.a, .int .i64 f.b, .int .i64 f.c] 35) howl))
        go_roundw
        case rel => exact ⟨k + 1, by go_num, hlt, by rw [Hft.out]; go_num, hol2, (by repeat (first | with_reducible exact Below.refl _ _ | with_reducible assumption | with_reducible apply Below.drew | with_reducible apply below_drewN | (with_reducible apply below_setp; (first | omega | (simp <;> omega))) | (with_reducible apply below_allocp; (first | omega | (simp <;> omega))) | (with_reducible refine below_viap (by assumption) ?_ ?_; (first | omega | (simp <;> omega)))))⟩
        case measure => (first | (simp [intOf]; done) | (simp [intOf]; omega))
      · have ek : k = L.length := by omega
        subst ek
        rw [List.take_length]
        go_wp2
        go_ret2
        exact ⟨rfl, (by repeat (first | with_reducible exact Below.refl _ _ | with_reducible assumption | with_reducible apply Below.drew | with_reducible apply below_drewN | (with_reducible apply below_setp; (first | omega | (simp <;> omega))) | (with_reducible apply below_allocp; (first | omega | (simp <;> omega))) | (with_reducible refine below_viap (by assumption) ?_ ?_; (first | omega | (simp <;> omega)))))⟩
set_option maxRecDepth 100000 in
set_option maxHeartbeats 3200000 in
theorem vaTotal_any (d n : Int) (w : World) (hc : isDisc d = true) (hn : 1 ≤ n ∧ n ≤ 10000) :
    Calls Try.prog 56 #[.int .i64 d, .int .i64 n] w fun e w' => e = .returned (.int .i64 ((tcN d n (clsL d) : Nat) : Int)) ∧ Below w.heap.size w w' := by
  have D := dsc_of hc
  have hL := Lib.hid (fun w => reList_any d w D.lo D.hi)
  have hP := Lib.hid (fun f (hf : f ∈ clsL d) => (show ∃ m : Nat, m ≤ 50000 ∧ m = (ptsL d n f).length ∧ ∀ w, Calls Try.prog 129 #[.agg #[.int .i64 f.a, .int .i64 f.b, .int .i64 f.c], .int .i64 n] w (fun e w' => ∃ b c, e = .returned (.slice b m c) ∧ Below w.heap.size w w') from
    ⟨(ptsL d n f).length, pts_len D hf hn, rfl, fun w => (vaAt_any d n f w D hf hn.1 hn.2).mono fun e w' h => by
      obtain ⟨K, hKn, hKm, v, rfl, ho, hb⟩ := h
      obtain ⟨b, c, rfl⟩ := own_shape ho
      have hl : K.length = (ptsL d n f).length := same_lenT hKn (ptsL_nd D hf) (fun p => (hKm p).trans (ptsL_mem D hf hn.1 p.1 p.2).symm)
      exact ⟨b, c, by rw [hl], hb⟩⟩))
  have hl := clsL_len d
  have HB : Hid (∀ k, tcN d n ((clsL d).take k) ≤ 100000000) := Lib.hid (fun k => by
    have := tcN_bd D hn ((clsL d).take k) (fun f hf => List.mem_of_mem_take hf)
    have h2 : ((clsL d).take k).length ≤ (clsL d).length := by rw [List.length_take]; omega
    omega)
  generalize clsL d = L at *
  clear D
  go_enter Try.func56, Try.ntmps56
  go_wp2_with (go_at_call 128; refine (hL.out _).mono ?_; rintro e v1 ⟨vl, rfl, hol, hB1⟩; have hZ1 := hB1.size; (try simp at hZ1); obtain ⟨bl, cl, rfl⟩ := own_shape hol)
  have hb1 : Below w.heap.size w v1 := (by repeat (first | with_reducible exact Below.refl _ _ | with_reducible assumption | with_reducible apply Below.drew | with_reducible apply below_drewN | (with_reducible apply below_setp; (first | omega | (simp <;> omega))) | (with_reducible apply below_allocp; (first | omega | (simp <;> omega))) | (with_reducible refine below_viap (by assumption) ?_ ?_; (first | omega | (simp <;> omega)))))
  skip
  go_loopw [5, 11] (fun v6 v20 wr => ∃ k : Nat, v20 = .int .i64 k ∧ k ≤ L.length ∧ v6 = .int .i64 ((tcN d n (L.take k) : Nat) : Int) ∧ wr.ownsRow w.heap.size 35 3 (.slice bl L.length cl) L.length (cellsF L) ∧ Below w.heap.size w wr) (fun _ v20 _ => L.length - (intOf v20).toNat)
  case atStart => exact ⟨0, rfl, Nat.zero_le _, rfl, hol, hb1⟩
  case round =>
    clear hol hb1
    obtain ⟨k, rfl, hk, rfl, howl, hbel⟩ := hrel
    have hz := hbel.size
    by_cases hlt : k < L.length
    · obtain ⟨g, rfl, lg, d1, d2, d3⟩ := own_elem howl hlt
      obtain ⟨m, hm, hpm, hPf⟩ := hP.out _ (List.getElem_mem hlt)
      have hft := tcN_take (d := d) (n := n) hlt
      have hbd := HB.out k
      rw [← hpm] at hft
      clear hpm
      generalize L[k] = f at *
      generalize tcN d n (L.take k) = S at *
      have HPf := Lib.hid hPf
      have Hft := Lib.hid hft
      have ng : ¬ g = wr.heap.size := by omega
      clear hPf hft
      go_wp2_with (go_at_call 129; (with_reducible refine (HPf.out _).mono ?_); rintro e v2 ⟨bq, cq, rfl, hB2⟩; have hZ2 := hB2.size; (try simp at hZ2); have hol2 := own_call hB2 (own_alloc (o := .cells #[.int .i64 f.a, .int .i64 f.b, .int .i64 f.c] 35) howl))
      go_roundw
      case rel => exact ⟨k + 1, by go_num, hlt, by rw [Hft.out]; go_num, hol2, (by repeat (first | with_reducible exact Below.refl _ _ | with_reducible assumption | with_reducible apply Below.drew | with_reducible apply below_drewN | (with_reducible apply below_setp; (first | omega | (simp <;> omega))) | (with_reducible apply below_allocp; (first | omega | (simp <;> omega))) | (with_reducible refine below_viap (by assumption) ?_ ?_; (first | omega | (simp <;> omega)))))⟩
      case measure => (first | (simp [intOf]; done) | (simp [intOf]; omega))
    · have ek : k = L.length := by omega
      subst ek
      rw [List.take_length]
      go_wp2
      go_ret
      exact ⟨rfl, (by repeat (first | with_reducible exact Below.refl _ _ | with_reducible assumption | with_reducible apply Below.drew | with_reducible apply below_drewN | (with_reducible apply below_setp; (first | omega | (simp <;> omega))) | (with_reducible apply below_allocp; (first | omega | (simp <;> omega))) | (with_reducible refine below_viap (by assumption) ?_ ?_; (first | omega | (simp <;> omega)))))⟩

set_option maxRecDepth 100000 in
set_option maxHeartbeats 3200000 in
theorem specTC_any (d n s : Int) (ok : Bool) (w : World) (h : TcR d n s ok) :
    Calls Try.prog 11 #[.int .i64 d, .int .i64 n] w fun e w' => e = .returned (.tuple #[.int .i64 s, .bool ok]) ∧ Below w.heap.size w w' := by
  rcases h with ⟨hc, rfl, rfl⟩ | ⟨hc, hs, rfl, rfl⟩ | ⟨hc, hs, rfl, rfl⟩
  · go_enter Try.func11, Try.ntmps11
    go_wp2_with (go_at_call 54; (with_reducible refine (rDisc_eq d false _ hc).mono ?_); rintro e v ⟨rfl, rfl⟩)
    go_ret2
    exact ⟨rfl, (by repeat (first | with_reducible exact Below.refl _ _ | with_reducible assumption | with_reducible apply Below.drew | with_reducible apply below_drewN | (with_reducible apply below_setp; (first | omega | (simp <;> omega))) | (with_reducible apply below_allocp; (first | omega | (simp <;> omega))) | (with_reducible refine below_viap (by assumption) ?_ ?_; (first | omega | (simp <;> omega)))))⟩
  · have hS := Lib.hid (fun w => vaShown_all n w)
    rw [hs] at hS
    go_enter Try.func11, Try.ntmps11
    go_wp2_with (first | (go_at_call 54; (with_reducible refine (rDisc_eq d true _ hc).mono ?_); rintro e v ⟨rfl, rfl⟩) | (go_at_call 55; (with_reducible refine (hS.out _).mono ?_); rintro e v ⟨rfl, rfl⟩))
    go_ret2
    exact ⟨rfl, (by repeat (first | with_reducible exact Below.refl _ _ | with_reducible assumption | with_reducible apply Below.drew | with_reducible apply below_drewN | (with_reducible apply below_setp; (first | omega | (simp <;> omega))) | (with_reducible apply below_allocp; (first | omega | (simp <;> omega))) | (with_reducible refine below_viap (by assumption) ?_ ?_; (first | omega | (simp <;> omega)))))⟩
  · have hS := Lib.hid (fun w => vaShown_all n w)
    rw [hs] at hS
    have hn : 1 ≤ n ∧ n ≤ 10000 := by unfold shwB at hs; simpa using hs
    have hT := Lib.hid (fun w => vaTotal_any d n w hc hn)
    clear hs hn
    generalize tcN d n (clsL d) = s at *
    go_enter Try.func11, Try.ntmps11
    go_wp2_with (first | (go_at_call 54; (with_reducible refine (rDisc_eq d true _ hc).mono ?_); rintro e v ⟨rfl, rfl⟩) | (go_at_call 55; (with_reducible refine (hS.out _).mono ?_); rintro e v ⟨rfl, rfl⟩) | (go_at_call 56; (with_reducible refine (hT.out _).mono ?_); rintro e v1 ⟨rfl, hB1⟩; have hZ1 := hB1.size; (try simp at hZ1); (try have zl1 : w.heap.size < v1.heap.size := by omega); (try have ze1 : w.heap.size ≤ v1.heap.size := by omega); (try have zn1 : ¬ w.heap.size = v1.heap.size := by omega); (try have zm1 : ¬ v1.heap.size = w.heap.size := by omega)))
    go_ret2
    exact ⟨rfl, (by repeat (first | with_reducible exact Below.refl _ _ | with_reducible assumption | with_reducible apply Below.drew | with_reducible apply below_drewN | (with_reducible apply below_setp; (first | omega | (simp <;> omega))) | (with_reducible apply below_allocp; (first | omega | (simp <;> omega))) | (with_reducible refine below_viap (by assumption) ?_ ?_; (first | omega | (simp <;> omega)))))⟩
end

section
open Go.RowKit

/-- The divisors below k, and the quotients of those whose square is not n. -/
def dvLo (n k : Nat) : List Int := ((List.range k).filter fun i : Nat => decide (1 ≤ i) && decide (n % i = 0)).map fun i : Nat => (i : Int)
def dvHi (n k : Nat) : List Int := ((List.range k).filter fun i : Nat => decide (1 ≤ i) && (decide (n % i = 0) && decide (i * i ≠ n))).map fun i : Nat => ((n / i : Nat) : Int)
theorem dvLo_next (n k : Nat) (hk : 1 ≤ k) : dvLo n (k + 1) = dvLo n k ++ if n % k = 0 then [(k : Int)] else [] := by
  unfold dvLo
  rw [List.range_succ, List.filter_append, List.map_append]
  congr 1
  by_cases h : n % k = 0 <;> simp [h, hk]
theorem dvHi_next (n k : Nat) (hk : 1 ≤ k) : dvHi n (k + 1) = dvHi n k ++ if n % k = 0 ∧ k * k ≠ n then [((n / k : Nat) : Int)] else [] := by
  unfold dvHi
  rw [List.range_succ, List.filter_append, List.map_append]
  congr 1
  by_cases h : n % k = 0 <;> by_cases h2 : k * k = n <;> simp [h, hk, h2]
theorem dvLo_len (n k : Nat) : (dvLo n k).length ≤ k := by
  unfold dvLo
  rw [List.length_map]
  exact Nat.le_trans (List.length_filter_le _ _) (by simp)
theorem dvHi_len (n k : Nat) : (dvHi n k).length ≤ k := by
  unfold dvHi
  rw [List.length_map]
  exact Nat.le_trans (List.length_filter_le _ _) (by simp)
/-- All divisors, as they are found. -/
def dvAll (n k : Nat) : List Int := dvLo n k ++ (dvHi n k).reverse
theorem dvLo_mem {n k : Nat} {x : Int} : x ∈ dvLo n k ↔ ∃ i : Nat, x = i ∧ i < k ∧ 1 ≤ i ∧ n % i = 0 := by
  unfold dvLo
  rw [List.mem_map]
  constructor
  · rintro ⟨i, h, rfl⟩
    rw [List.mem_filter, List.mem_range] at h
    simp only [Bool.and_eq_true, decide_eq_true_eq] at h
    exact ⟨i, rfl, h.1, h.2.1, h.2.2⟩
  · rintro ⟨i, rfl, h1, h2, h3⟩
    exact ⟨i, List.mem_filter.2 ⟨List.mem_range.2 h1, by simp [h2, h3]⟩, rfl⟩
theorem dvHi_mem {n k : Nat} {x : Int} : x ∈ dvHi n k ↔ ∃ i : Nat, x = (n / i : Nat) ∧ i < k ∧ 1 ≤ i ∧ n % i = 0 ∧ i * i ≠ n := by
  unfold dvHi
  rw [List.mem_map]
  constructor
  · rintro ⟨i, h, rfl⟩
    rw [List.mem_filter, List.mem_range] at h
    simp only [Bool.and_eq_true, decide_eq_true_eq] at h
    exact ⟨i, rfl, h.1, h.2.1, h.2.2.1, h.2.2.2⟩
  · rintro ⟨i, rfl, h1, h2, h3, h4⟩
    exact ⟨i, List.mem_filter.2 ⟨List.mem_range.2 h1, by simp [h2, h3, h4]⟩, rfl⟩
/-- The list holds each divisor once. -/
theorem dvAll_ok {n k : Nat} (hn : 1 ≤ n) (h1 : ∀ i, 1 ≤ i → i < k → i * i ≤ n) (h2 : n < k * k) : (dvAll n k).Nodup ∧ ∀ x : Int, x ∈ dvAll n k ↔ ∃ i : Nat, x = i ∧ 1 ≤ i ∧ i ∣ n := by
  have cod : ∀ i : Nat, 1 ≤ i → n % i = 0 → i * (n / i) = n := fun i _ h => Nat.mul_div_cancel' (Nat.dvd_of_mod_eq_zero h)
  refine ⟨?_, fun x => ?_⟩
  · unfold dvAll
    rw [List.nodup_append]
    refine ⟨?_, ?_, ?_⟩
    · unfold dvLo List.Nodup
      exact List.Pairwise.map _ (R := fun x y : Nat => x ≠ y) (fun x y hxy he => hxy (by omega)) (List.nodup_range.filter _)
    · rw [(List.reverse_perm _).nodup_iff]
      unfold dvHi List.Nodup
      refine List.Pairwise.map _ (R := fun x y : Nat => (x ≠ y) ∧ (1 ≤ x ∧ n % x = 0) ∧ (1 ≤ y ∧ n % y = 0)) ?_ ?_
      · rintro x y ⟨hxy, ⟨hx1, hx2⟩, hy1, hy2⟩ he
        apply hxy
        have e : n / x = n / y := by omega
        have e1 := cod x hx1 hx2
        have e2 := cod y hy1 hy2
        rw [← e] at e2
        have hq : 0 < n / x := by
          rcases Nat.eq_zero_or_pos (n / x) with h0 | h0
          · rw [h0] at e1; omega
          · exact h0
        exact Nat.eq_of_mul_eq_mul_right hq (e1.trans e2.symm)
      · refine List.Pairwise.imp_of_mem (fun {i j} hi hj h => ⟨h, ?_, ?_⟩) (List.nodup_range.filter _)
        · rw [List.mem_filter] at hi
          simp only [Bool.and_eq_true, decide_eq_true_eq] at hi
          exact ⟨hi.2.1, hi.2.2.1⟩
        · rw [List.mem_filter] at hj
          simp only [Bool.and_eq_true, decide_eq_true_eq] at hj
          exact ⟨hj.2.1, hj.2.2.1⟩
    · intro x hx y hy he
      subst he
      rw [List.mem_reverse] at hy
      obtain ⟨i, rfl, i1, i2, i3⟩ := dvLo_mem.1 hx
      obtain ⟨j, hj, j1, j2, j3, j4⟩ := dvHi_mem.1 hy
      have e := cod j j2 j3
      have hij : i = n / j := by omega
      rw [← hij] at e
      have a := h1 i i2 i1
      have b := h1 j j2 j1
      have hlt : j * j < j * i := by rw [e]; omega
      have hji : j < i := Nat.lt_of_mul_lt_mul_left hlt
      have : j * i < i * i := Nat.mul_lt_mul_of_pos_right hji (by omega)
      omega
  · unfold dvAll
    rw [List.mem_append, List.mem_reverse]
    constructor
    · rintro (h | h)
      · obtain ⟨i, rfl, _, h3, h4⟩ := dvLo_mem.1 h
        exact ⟨i, rfl, h3, Nat.dvd_of_mod_eq_zero h4⟩
      · obtain ⟨i, rfl, _, h3, h4, _⟩ := dvHi_mem.1 h
        have e := cod i h3 h4
        refine ⟨n / i, rfl, ?_, ⟨i, by rw [Nat.mul_comm]; exact e.symm⟩⟩
        rcases Nat.eq_zero_or_pos (n / i) with h0 | h0
        · rw [h0] at e; omega
        · exact h0
    · rintro ⟨i, rfl, h3, h4⟩
      by_cases hik : i < k
      · exact .inl (dvLo_mem.2 ⟨i, rfl, hik, h3, Nat.mod_eq_zero_of_dvd h4⟩)
      · right
        obtain ⟨j, hj⟩ := h4
        have hj1 : 1 ≤ j := by
          rcases Nat.eq_zero_or_pos j with h0 | h0
          · rw [h0] at hj; omega
          · exact h0
        have hkk : k * k ≤ i * i := Nat.mul_le_mul (by omega) (by omega)
        have hji : j < i := by
          apply Nat.not_le.1; intro hl
          have := Nat.mul_le_mul_left i hl
          omega
        have hjk : j < k := by
          apply Nat.not_le.1; intro hl
          have := Nat.mul_le_mul (show k ≤ i by omega) hl
          omega
        refine dvHi_mem.2 ⟨j, ?_, hjk, hj1, by rw [hj, Nat.mul_mod_left], ?_⟩
        · rw [hj, Nat.mul_div_cancel _ hj1]
        · intro he
          rw [hj] at he
          have := Nat.mul_lt_mul_of_pos_right hji hj1
          omega
/-- The sum of a character over such a list. -/
theorem chr_sum {n : Nat} (hn : 1 ≤ n) {L : List Int} (hnd : L.Nodup) (hm : ∀ x : Int, x ∈ L ↔ ∃ i : Nat, x = i ∧ 1 ≤ i ∧ i ∣ n) (χ : Int → Int) : (L.map χ).sum = XS (fun k => χ k) n := by
  have hp : L.Perm (((List.range (n + 1)).filter fun i : Nat => decide (1 ≤ i ∧ i ∣ n)).map fun i : Nat => (i : Int)) := by
    refine (List.perm_ext_iff_of_nodup hnd ?_).2 fun x => ?_
    · unfold List.Nodup
      exact List.Pairwise.map _ (R := fun x y : Nat => x ≠ y) (fun x y hxy he => hxy (by omega)) (List.nodup_range.filter _)
    · rw [hm, List.mem_map]
      constructor
      · rintro ⟨i, rfl, h1, h2⟩
        exact ⟨i, List.mem_filter.2 ⟨List.mem_range.2 (by have := Nat.le_of_dvd (by omega) h2; omega), by simp [h1, h2]⟩, rfl⟩
      · rintro ⟨i, hi, rfl⟩
        rw [List.mem_filter, decide_eq_true_eq] at hi
        exact ⟨i, rfl, hi.2⟩
  have hs : ∀ A B : List Int, A.Perm B → A.sum = B.sum := by
    intro A B h
    induction h with
    | nil => rfl
    | cons x _ ih => rw [List.sum_cons, List.sum_cons, ih]
    | swap x y l => rw [List.sum_cons, List.sum_cons, List.sum_cons, List.sum_cons]; omega
    | trans _ _ h1 h2 => exact h1.trans h2
  rw [hs _ _ (hp.map χ), List.map_map]
  unfold XS
  have key : ∀ N : Nat, ((((List.range N).filter fun i : Nat => decide (1 ≤ i ∧ i ∣ n)).map (χ ∘ fun i : Nat => (i : Int))).sum) = SI (fun k => if k ∣ n then χ k else 0) N := by
    intro N
    induction N with
    | zero => rfl
    | succ N ih =>
      rw [List.range_succ, List.filter_append, List.map_append, List.sum_append, ih]
      show _ = SI (fun k => if k ∣ n then χ k else 0) N + (if N ∣ n then χ N else 0)
      congr 1
      by_cases h : N ∣ n
      · have h1 : 1 ≤ N := by
          rcases Nat.eq_zero_or_pos N with h0 | h0
          · rw [h0] at h; have := Nat.eq_zero_of_zero_dvd h; omega
          · exact h0
        simp [h, h1]
      · simp [h]
  exact key (n + 1)
theorem kro_bd : ∀ (m : Nat) (a n : Int), kro m a n = 0 ∨ kro m a n = 1 ∨ kro m a n = -1
  | 0, _, _ => .inl rfl
  | m + 1, a, n => by
    unfold kro
    split
    · split
      · exact .inl rfl
      · have ih := kro_bd m a (n / 2)
        rcases two_sg a with h | h <;> rcases ih with i | i | i <;> rw [h, i] <;> simp
    · exact jac_bd _ _ _
theorem own_emptyM {w : World} {B g : Nat} {e : TypeId} {sz : Nat} (hg : g = w.heap.size) (hB : B ≤ w.heap.size) : (w.alloc (.cells #[] e)).ownsRow B e sz (.slice (some ⟨g, 0, none⟩) 0 0) 0 [] := by
  subst hg; exact own_empty hB
theorem apart_back {w : World} {v v' vl : Value} {B n sz N : Nat} {e : TypeId} {xs : List Value} (ha : Apart vl v) (h : w.ownsRow B e sz vl n xs) (hN : w.heap.size ≤ N) (hloc : v'.ownBlock = v.ownBlock ∨ v'.ownBlock = some N) : Apart vl v' := by
  unfold Apart at *
  rcases hloc with e1 | e1
  · rw [e1]; exact ha
  · right
    rw [e1]
    intro he
    have := own_lt h N he.symm
    omega
theorem drop_rev {L : List Int} {j : Nat} (h : j < L.length) : (L.drop j).reverse = (L.drop (j + 1)).reverse ++ [L[j]] := by
  rw [List.drop_eq_getElem_cons h, List.reverse_cons]
/-- The state of the first loop. -/
def DvSt (n : Nat) (w : World) (v3 v4 v5 : Value) (wr : World) : Prop :=
  ∃ k : Nat, v5 = .int .i64 k ∧ 1 ≤ k ∧ k ≤ n + 1 ∧ Hid (∀ i, 1 ≤ i → i < k → i * i ≤ n) ∧ wr.ownsRow w.heap.size 3 1 v3 (dvLo n k).length (cellsI (dvLo n k)) ∧ wr.ownsRow w.heap.size 3 1 v4 (dvHi n k).length (cellsI (dvHi n k)) ∧ Apart v3 v4 ∧ Apart v4 v3 ∧ Below w.heap.size w wr
/-- The state of the second loop: m of the quotients are left. -/
def DvSt2 (L H : List Int) (w : World) (v4 : Value) (v3 v6 : Value) (wr : World) : Prop :=
  ∃ m : Nat, v6 = .int .i64 ((m : Int) - 1) ∧ m ≤ H.length ∧ wr.ownsRow w.heap.size 3 1 v3 (L ++ (H.drop m).reverse).length (cellsI (L ++ (H.drop m).reverse)) ∧ wr.ownsRow w.heap.size 3 1 v4 H.length (cellsI H) ∧ Apart v3 v4 ∧ Below w.heap.size w wr
set_option maxRecDepth 100000 in
set_option maxHeartbeats 6400000 in
theorem divisors_any (n : Nat) (w : World) (hn : 1 ≤ n) (hb : n ≤ 10000) :
    Calls Try.prog 60 #[.int .i64 n] w (fun e w' => ∃ L, L.Nodup ∧ (∀ x : Int, x ∈ L ↔ ∃ i : Nat, x = i ∧ 1 ≤ i ∧ i ∣ n) ∧ L.length ≤ 30000 ∧ RetI L w e w') := by
  obtain ⟨i0, hi, hz0, hz1, hz2⟩ := info_parts infoInt
  go_enter Try.func60, Try.ntmps60
  go_wp2
  go_loopw [3, 4, 5] (fun v3 v4 v5 wr => DvSt n w v3 v4 v5 wr) (fun _ _ v5 _ => n + 2 - (intOf v5).toNat)
  case atStart =>
    refine ⟨1, rfl, Nat.le_refl _, by omega, Lib.hid (fun i h1 h2 => by omega), ?_, ?_, .inr (by simp [Value.ownBlock]), .inr (by simp [Value.ownBlock]), (by repeat (first | with_reducible exact Below.refl _ _ | with_reducible assumption | with_reducible apply Below.drew | with_reducible apply below_drewN | (with_reducible apply below_setp; (first | omega | (simp <;> omega))) | (with_reducible apply below_allocp; (first | omega | (simp <;> omega))) | (with_reducible refine below_viap (by assumption) ?_ ?_; (first | omega | (simp <;> omega)))))⟩
    · rw [show dvLo n 1 = [] from rfl]; exact own_alloc (own_empty (Nat.le_refl _))
    · rw [show dvHi n 1 = [] from rfl]; exact own_emptyM (by simp) (by simp)
  case round =>
    obtain ⟨k, rfl, hk1, hkn, hsq, hown3, hown4, hapA, hapB, hbel⟩ := hrel
    have hz := hbel.size
    have hl3 := dvLo_len n k
    have hl4 := dvHi_len n k
    have hkk : (k : Int) * k ≤ 10001 * 10001 := Int.mul_le_mul (by omega) (by omega) (by omega) (by omega)
    have hkk0 : 0 ≤ (k : Int) * k := Int.mul_nonneg (by omega) (by omega)
    have hw1 : wrap64 ((k : Int) * k) = (k : Int) * k := IntWalk.wrap64_in _ (by omega)
    have hL := dvLo_next n k hk1
    have hH := dvHi_next n k hk1
    by_cases hle : k * k ≤ n
    · have hle' : (k : Int) * k ≤ (n : Int) := by rw [← Int.natCast_mul]; omega
      have hkle : k ≤ n := by
        have := Nat.mul_le_mul_left k hk1
        omega
      have hsq2 : Hid (∀ i, 1 ≤ i → i < k + 1 → i * i ≤ n) := Lib.hid (fun i h1 h2 => by
        by_cases he : i = k
        · rw [he]; exact hle
        · exact hsq.out i h1 (by omega))
      have hk0 : ((k : Int) == 0) = false := beq_eq_false_iff_ne.2 (by omega)
      have hk0' : ¬ (k : Int) = 0 := by omega
      have ht : (n : Int).tmod k = ((n % k : Nat) : Int) := rfl
      have hq : (n : Int).tdiv k = ((n / k : Nat) : Int) := rfl
      clear hkk hkk0
      by_cases hr : n % k = 0
      · have hr1 : (((n % k : Nat) : Int) != 0) = false := by rw [hr]; rfl
        have HL : Hid (dvLo n (k + 1) = dvLo n k ++ [(k : Int)]) := Lib.hid (by rw [hL, if_pos hr])
        clear hL
        by_cases he : k * k = n
        · have he' : ((k : Int) * k != (n : Int)) = false := by rw [← Int.natCast_mul, he]; simp
          have HH : Hid (dvHi n (k + 1) = dvHi n k) := Lib.hid (by rw [hH, if_neg (fun h => h.2 he), List.append_nil])
          clear hH hr he hle
          generalize dvLo n k = P at *
          generalize dvHi n k = Q at *
          generalize n % k = r at *
          generalize n / k = q at *
          go_wp2_with (at_builtin; refine wpList_append_own_at _ rfl (.tmp 20) (.tmp 22) 31 rfl w.heap.size 3 i0 _ 1 8 Try.underlying31 hi hz0 hz1 hz2 rfl (by decide) u3 P.length (cellsI P) rfl ?_ ⟨wr.heap.size, 0, none⟩ 1 1 [.int .i64 k] rfl rfl ?_ (one1 _) ?_ ?_ ?_ ?_; exact own_alloc hown3; exact cells1 (Blk.new_at (by simp)); (unfold maxLen; omega); omega; (simp <;> omega); intro x9 w9 hown9 hg9 _ hloc9)
          have hb9 : Below w.heap.size w w9 := below_grown (own_ge hown3) (by simp; omega) hg9 (by repeat (first | with_reducible exact Below.refl _ _ | with_reducible assumption | with_reducible apply Below.drew | with_reducible apply below_drewN | (with_reducible apply below_setp; (first | omega | (simp <;> omega))) | (with_reducible apply below_allocp; (first | omega | (simp <;> omega))) | (with_reducible refine below_viap (by assumption) ?_ ?_; (first | omega | (simp <;> omega)))))
          have ho9 := own_snocI HL.out hown9
          have hq1 := own_alloc (o := .cells #[.int .i64 k] 3) hown4
          have hq9 := hq1.kept hg9 hapA
          have ap1 := apart_next hapA hq1 (Nat.le_refl _) hloc9
          have ap2 := apart_back hapB hq1 (Nat.le_refl _) hloc9
          clear hg9 hown9 hown3 hown4 hloc9 hapA hapB hq1
          go_wp2
          go_roundw
          case rel => exact ⟨k + 1, by go_num, by omega, by omega, hsq2, ho9, by rw [HH.out]; exact hq9, ap1, ap2, hb9⟩
          case measure => (first | (simp [intOf]; done) | (simp [intOf]; omega))
        · have he' : ((k : Int) * k != (n : Int)) = true := by rw [bne_iff_ne, ← Int.natCast_mul]; omega
          have HH : Hid (dvHi n (k + 1) = dvHi n k ++ [((n / k : Nat) : Int)]) := Lib.hid (by rw [hH, if_pos ⟨hr, he⟩])
          clear hH hr he hle
          generalize dvLo n k = P at *
          generalize dvHi n k = Q at *
          generalize n % k = r at *
          have hqb : n / k ≤ 10000 := Nat.le_trans (Nat.div_le_self n k) hb
          generalize n / k = q at *
          have hw2 : wrap64 (q : Int) = (q : Int) := IntWalk.wrap64_in _ (by omega)
          go_upto_region 7 with (at_builtin; refine wpList_append_own_at _ rfl (.tmp 20) (.tmp 22) 31 rfl w.heap.size 3 i0 _ 1 8 Try.underlying31 hi hz0 hz1 hz2 rfl (by decide) u3 P.length (cellsI P) rfl ?_ ⟨wr.heap.size, 0, none⟩ 1 1 [.int .i64 k] rfl rfl ?_ (one1 _) ?_ ?_ ?_ ?_; exact own_alloc hown3; exact cells1 (Blk.new_at (by simp)); (unfold maxLen; omega); omega; (simp <;> omega); intro x9 w9 hown9 hg9 _ hloc9)
          have hz9 := hg9.size
          (try simp at hz9)
          have hb9 : Below w.heap.size w w9 := below_grown (own_ge hown3) (by simp; omega) hg9 (by repeat (first | with_reducible exact Below.refl _ _ | with_reducible assumption | with_reducible apply Below.drew | with_reducible apply below_drewN | (with_reducible apply below_setp; (first | omega | (simp <;> omega))) | (with_reducible apply below_allocp; (first | omega | (simp <;> omega))) | (with_reducible refine below_viap (by assumption) ?_ ?_; (first | omega | (simp <;> omega)))))
          have ho9 := own_snocI HL.out hown9
          have hq1 := own_alloc (o := .cells #[.int .i64 k] 3) hown4
          have hq9 := hq1.kept hg9 hapA
          have ap1 := apart_next hapA hq1 (Nat.le_refl _) hloc9
          have ap2 := apart_back hapB hq1 (Nat.le_refl _) hloc9
          clear hg9 hown9 hown3 hown4 hloc9 hapA hapB hq1
          have m1 : Q.length + 1 ≤ maxLen := by unfold maxLen; omega
          have m2 : (Q.length + 1) * 8 ≤ 140737488351232 := by omega
          have m3 : w.heap.size ≤ (w9.alloc (.cells #[.int .i64 q] 3)).heap.size := by simp <;> omega
          go_upto_region 8 with (fail)
          clear he' ht hr1 hw1 hle'
          obtain ⟨K, hKe⟩ : ∃ K : Int, (k : Int) = K := ⟨_, rfl⟩
          obtain ⟨M, hMe⟩ : ∃ M : Int, (n : Int) = M := ⟨_, rfl⟩
          rw [hKe] at hq hk0 hk0' ⊢
          rw [hMe] at hq ⊢
          have HKe := Lib.hid hKe
          have HMe := Lib.hid hMe
          clear hKe hMe
          go_upto_region 4 with (at_builtin; refine wpList_append_own_at _ rfl (.tmp 29) (.tmp 33) 31 rfl w.heap.size 3 i0 _ 1 8 Try.underlying31 hi hz0 hz1 hz2 rfl (by decide) u4 Q.length (cellsI Q) rfl ?_ ⟨w9.heap.size, 0, none⟩ 1 1 [.int .i64 q] rfl rfl ?_ (one1 _) ?_ ?_ ?_ ?_; exact own_alloc hq9; exact cells1 (Blk.new_at (by simp)); (first | exact m1 | (unfold maxLen; omega)); (first | exact m2 | omega); (first | exact m3 | (simp <;> omega)); intro x8 w8 hown8 hg8 _ hloc8)
          have hKe := HKe.out
          have hMe := HMe.out
          subst hKe
          subst hMe
          clear HKe HMe hq hk0 hk0'
          have hb8 : Below w.heap.size w w8 := below_grown (own_ge hq9) (by simp; omega) hg8 (by repeat (first | with_reducible exact Below.refl _ _ | with_reducible assumption | with_reducible apply Below.drew | with_reducible apply below_drewN | (with_reducible apply below_setp; (first | omega | (simp <;> omega))) | (with_reducible apply below_allocp; (first | omega | (simp <;> omega))) | (with_reducible refine below_viap (by assumption) ?_ ?_; (first | omega | (simp <;> omega)))))
          have ho8 := own_snocI HH.out hown8
          have hp1 := own_alloc (o := .cells #[.int .i64 q] 3) ho9
          have hp8 := hp1.kept hg8 ap2
          have ap3 := apart_next ap2 hp1 (Nat.le_refl _) hloc8
          have ap4 := apart_back ap1 hp1 (Nat.le_refl _) hloc8
          clear hg8 hown8 hq9 ho9 hloc8 ap1 ap2 hp1
          go_wp2
          go_roundw
          case rel => exact ⟨k + 1, by go_num, by omega, by omega, hsq2, hp8, ho8, ap4, ap3, hb8⟩
          case measure => (first | (simp [intOf]; done) | (simp [intOf]; omega))
      · have hr1 : (((n % k : Nat) : Int) != 0) = true := by rw [bne_iff_ne]; omega
        have HL : Hid (dvLo n (k + 1) = dvLo n k) := Lib.hid (by rw [hL, if_neg hr, List.append_nil])
        have HH : Hid (dvHi n (k + 1) = dvHi n k) := Lib.hid (by rw [hH, if_neg (fun h => hr h.1), List.append_nil])
        clear hL hH hr hle
        generalize n % k = r at *
        generalize n / k = q at *
        go_wp2
        go_roundw
        case rel => exact ⟨k + 1, by go_num, by omega, by omega, hsq2, by rw [HL.out]; exact hown3, by rw [HH.out]; exact hown4, hapA, hapB, hbel⟩
        case measure => (first | (simp [intOf]; done) | (simp [intOf]; omega))
    · have hle' : decide ((k : Int) * k ≤ (n : Int)) = false := decide_eq_false (by rw [← Int.natCast_mul]; omega)
      have HA := Lib.hid (dvAll_ok hn hsq.out (Nat.not_le.1 hle))
      have hlA : (dvAll n k).length ≤ 30000 := by unfold dvAll; rw [List.length_append, List.length_reverse]; omega
      have HA2 : Hid (dvAll n k = dvLo n k ++ (dvHi n k).reverse) := Lib.hid rfl
      clear hL hH hle hsq hapB hkk hkk0
      generalize dvAll n k = DA at *
      generalize dvLo n k = P at *
      generalize dvHi n k = Q at *
      obtain ⟨b4, c4, rfl⟩ := own_shape hown4
      go_wp2
      go_loopw [3, 6] (fun v3 v6 wr => DvSt2 P Q w (.slice b4 Q.length c4) v3 v6 wr) (fun _ v6 _ => (intOf v6 + 1).toNat)
      case atStart => exact ⟨Q.length, rfl, Nat.le_refl _, by rw [List.drop_length, List.reverse_nil, List.append_nil]; exact hown3, hown4, hapA, hbel⟩
      case round =>
        clear hown3 hown4 hapA hbel hz hw1 hle'
        obtain ⟨m, rfl, hm, hown3, hown4, hap, hbel⟩ := hrel
        have hz := hbel.size
        cases m with
        | zero =>
          rw [List.drop_zero, ← HA2.out] at hown3
          go_wp2
          go_ret
          exact ⟨DA, HA.out.1, HA.out.2, hlA, _, rfl, hown3, hbel⟩
        | succ j =>
          have hjL : j < Q.length := by omega
          have hd := drop_rev hjL
          obtain ⟨g, hbg, lg, d1⟩ := own_elemI hown4 hjL
          subst hbg
          have HD : Hid (P ++ (Q.drop j).reverse = P ++ (Q.drop (j + 1)).reverse ++ [Q[j]]) := Lib.hid (by rw [hd, List.append_assoc])
          have hlP : (P ++ (Q.drop (j + 1)).reverse).length ≤ 30000 := by rw [List.length_append, List.length_reverse, List.length_drop]; omega
          clear hd
          generalize Q[j] = x at *
          generalize P ++ (Q.drop (j + 1)).reverse = P2 at *
          rw [show ((j + 1 : Nat) : Int) - 1 = (j : Int) by omega]
          have hj0 : (0 : Int) ≤ (j : Int) := by omega
          have ng : ¬ g = wr.heap.size := by omega
          go_wp2_with (at_builtin; refine wpList_append_own_at _ rfl (.tmp 42) (.tmp 47) 31 rfl w.heap.size 3 i0 _ 1 8 Try.underlying31 hi hz0 hz1 hz2 rfl (by decide) u3 P2.length (cellsI P2) rfl ?_ ⟨wr.heap.size, 0, none⟩ 1 1 [.int .i64 x] rfl rfl ?_ (one1 _) ?_ ?_ ?_ ?_; exact own_alloc hown3; exact cells1 (Blk.new_at (by simp)); (unfold maxLen; omega); omega; (simp <;> omega); intro x9 w9 hown9 hg9 _ hloc9)
          have hb9 : Below w.heap.size w w9 := below_grown (own_ge hown3) (by simp; omega) hg9 (by repeat (first | with_reducible exact Below.refl _ _ | with_reducible assumption | with_reducible apply Below.drew | with_reducible apply below_drewN | (with_reducible apply below_setp; (first | omega | (simp <;> omega))) | (with_reducible apply below_allocp; (first | omega | (simp <;> omega))) | (with_reducible refine below_viap (by assumption) ?_ ?_; (first | omega | (simp <;> omega)))))
          have ho9 := own_snocI HD.out hown9
          have hq1 := own_alloc (o := .cells #[.int .i64 x] 3) hown4
          have hq9 := hq1.kept hg9 hap
          have ap1 := apart_next hap hq1 (Nat.le_refl _) hloc9
          clear hg9 hown9 hown3 hown4 hloc9 hap hq1
          go_wp2
          go_roundw
          case rel => exact ⟨j, rfl, by omega, ho9, hq9, ap1, hb9⟩
          case measure => (first | (simp [intOf]; done) | (simp [intOf]; omega))
set_option maxHeartbeats 1600000 in
theorem implDvs_any (n : Nat) (w : World) (hn : 1 ≤ n) (hb : n ≤ 10000) :
    Calls Try.prog 14 #[.int .i64 n] w (fun e w' => ∃ L v, L.Nodup ∧ (∀ x : Int, x ∈ L ↔ ∃ i : Nat, x = i ∧ 1 ≤ i ∧ i ∣ n) ∧ L.length ≤ 30000 ∧ e = .returned (.tuple #[v, .bool true]) ∧ w'.ownsRow w.heap.size 3 1 v L.length (cellsI L) ∧ Below w.heap.size w w') := by
  have hN := Lib.hid (fun e w => areNumF n e w)
  rw [(isNum_iff (n : Int)).2 (by omega)] at hN
  have hA := Lib.hid (fun w => abs_any (n : Int) w (by omega) (by omega))
  rw [Int.natAbs_natCast] at hA
  have hD := Lib.hid (fun w => divisors_any n w hn hb)
  have h0 : ((n : Int) == 0) = false := beq_eq_false_iff_ne.2 (by omega)
  go_enter Try.func14, Try.ntmps14
  go_wp2_with (first
    | (go_at_call 59; (with_reducible refine (hN.out _ _).mono ?_); rintro e v1 ⟨rfl, rfl⟩)
    | (go_at_call 61; (with_reducible refine (hA.out _).mono ?_); rintro e v ⟨rfl, rfl⟩)
    | (go_at_call 60; (with_reducible refine (hD.out _).mono ?_); rintro e v2 ⟨L, hL1, hL2, hL3, vl, rfl, hol, hB2⟩; have hZ2 := hB2.size; (try simp at hZ2)))
  go_ret2
  exact ⟨L, _, hL1, hL2, hL3, rfl, own_base (by simp <;> omega) hol, (by repeat (first | with_reducible exact Below.refl _ _ | with_reducible assumption | with_reducible apply Below.drew | with_reducible apply below_drewN | (with_reducible apply below_setp; (first | omega | (simp <;> omega))) | (with_reducible apply below_allocp; (first | omega | (simp <;> omega))) | (with_reducible refine below_viap (by assumption) ?_ ?_; (first | omega | (simp <;> omega)))))⟩
end

section
open Go.RowKit

set_option maxRecDepth 100000 in
set_option maxHeartbeats 6400000 in
theorem disc_anyE (zs : List Int) (v : Value) (B G n : Nat) (w : World) (hr : RdB zs v B w) (hc : Cur v G n w) (hB : B ≤ G) (hn : n + 4 ≤ 100000000) :
    Calls Try.prog 77 #[.pointer (some ⟨G, 0, none⟩)] w (RetPk DrawnE v G (n + 4) w) := by
  have HR := Lib.hid hr
  have HC := Lib.hid hc
  clear hr hc
  go_enter Try.func77, Try.ntmps77
  go_wp2_with fail
  refine (pick_any 16 zs v B G n w HR.out HC.out hB (by omega) (by omega)).mono ?_
  rintro e w1 ⟨b, rfl, hb, hc1, hg1⟩
  have HC1 := Lib.hid hc1
  have hg1' := Lib.hid hg1
  have HR1 := Lib.hid (HR.out.grown hg1 (fun k hk => by injection hk with hk; omega))
  have hlt1 := hc1.lt
  have hne1 : ¬ G = w1.heap.size := by omega
  clear hc1 hg1
  have hpk := Lib.hid (fun (m : Int) (hm : m ≤ 1000000000) => pick_any m zs v B G (n + 2) w1 HR1.out HC1.out hB (by omega) hm)
  have ham := Lib.hid (fun (L : List Int) (h1 : 1 ≤ L.length) (h2 : L.length ≤ 1000) (hP : ∀ x ∈ L, DrawnE x) => among_any L (.slice (some ⟨w1.heap.size, 0, none⟩) L.length L.length) w1.heap.size DrawnE zs v B G (n + 2) (w1.alloc (.cells (cellsI L).toArray 3)) (own_lit L (Nat.le_refl _) h2) hP h1 h2 (by simp [Value.ownBlock]; omega) (HR1.out.grown (grown_alloc _ _ none) (fun k hk => by cases hk)) (HC1.out.call ((Below.refl _ _).alloc (Nat.le_refl _) _)) hB (by omega))
  by_cases e0 : b = 0
  · subst e0
    clear hb
    go_wp2_with fail
    refine (ham.out [-3, -4, -2000, -1999, -1996, -1995, -163, -2001, -2003, -2004, 0, 1, 5, -1, -2, -5, -9223372036854775808] (by decide) (by decide) (by unfold DrawnE; decide)).mono ?_
    rintro e w2 ⟨x, rfl, hx, hc2, hg2⟩
    go_wp2
    go_ret
    exact RetPk.from hx hc2 (by omega) hg1'.out ((grown_alloc _ _ _).trans hg2)
  · by_cases e1 : b = 1 ∨ b = 2
    · have e2 : (b == 1) = true ∨ (b == 1) = false ∧ (b == 2) = true := by
        rcases e1 with rfl | rfl
        · exact .inl rfl
        · exact .inr ⟨rfl, rfl⟩
      clear e1 hb
      rcases e2 with e2 | ⟨e2, e3⟩
      all_goals
        go_wp2_with fail
        refine (hpk.out 1998 (by decide)).mono ?_
        rintro e w2 ⟨x, rfl, hx, hc2, hg2⟩
        have HC2 := Lib.hid hc2
        have hg2' := Lib.hid hg2
        have hx2 : 0 ≤ x ∧ x ≤ 1997 := by omega
        clear hx hc2 hg2
        go_wp2_with fail
        refine (nuMod_any (-3 - x) 4 _ (by decide) (by decide)).mono ?_
        rintro e w3 ⟨rfl, rfl⟩
        by_cases hm : 1 < (-3 - x) % 4
        · go_wp2_with fail
          refine (l1Most_any (-2000) (-3 - x - 2) _).mono ?_
          rintro e w3 ⟨rfl, rfl⟩
          go_wp2
          go_ret
          exact RetPk.from (by unfold DrawnE; omega) HC2.out (by omega) hg1'.out hg2'.out
        · go_wp2
          go_ret
          exact RetPk.from (by unfold DrawnE; omega) HC2.out (by omega) hg1'.out hg2'.out
    · by_cases e3 : b = 3 ∨ b = 4 ∨ b = 5
      · have e2 : (b == 3) = true ∨ (b == 3) = false ∧ ((b == 4) = true ∨ (b == 4) = false ∧ (b == 5) = true) := by
          rcases e3 with rfl | rfl | rfl
          · exact .inl rfl
          · exact .inr ⟨rfl, .inl rfl⟩
          · exact .inr ⟨rfl, .inr ⟨rfl, rfl⟩⟩
        have n0 : (b == 0) = false := by rw [beq_eq_false_iff_ne]; exact e0
        have n1 : (b == 1) = false := by rw [beq_eq_false_iff_ne]; omega
        have n2 : (b == 2) = false := by rw [beq_eq_false_iff_ne]; omega
        clear e1 hb e0 e3
        rcases e2 with e2 | ⟨e2, e2 | ⟨e3, e4⟩⟩
        all_goals
          go_wp2_with fail
          refine (ham.out [-84, -420, -231, -260, -455, -520, -660, -1155, -1320, -1380, -1428, -1540, -399, -1092, -1560, -1785] (by decide) (by decide) (by unfold DrawnE; decide)).mono ?_
          rintro e w2 ⟨x, rfl, hx, hc2, hg2⟩
          go_wp2
          go_ret
          exact RetPk.from hx hc2 (by omega) hg1'.out ((grown_alloc _ _ _).trans hg2)
      · have n0 : (b == 0) = false := by rw [beq_eq_false_iff_ne]; exact e0
        have n1 : (b == 1) = false := by rw [beq_eq_false_iff_ne]; omega
        have n2 : (b == 2) = false := by rw [beq_eq_false_iff_ne]; omega
        have n3 : (b == 3) = false := by rw [beq_eq_false_iff_ne]; omega
        have n4 : (b == 4) = false := by rw [beq_eq_false_iff_ne]; omega
        have n5 : (b == 5) = false := by rw [beq_eq_false_iff_ne]; omega
        have e2 : (b == 6) = true ∨ (b == 6) = false ∧ ((b == 7) = true ∨ (b == 7) = false) := by
          cases (b == 6) <;> cases (b == 7) <;> simp
        clear e1 hb e0 e3
        rcases e2 with e2 | ⟨e2, e3 | e3⟩
        · go_wp2_with fail
          refine (hpk.out 60 (by decide)).mono ?_
          rintro e w2 ⟨x, rfl, hx, hc2, hg2⟩
          have HC2 := Lib.hid hc2
          have hg2' := Lib.hid hg2
          have hx2 : 0 ≤ x ∧ x ≤ 59 := by omega
          clear hx hc2 hg2
          go_wp2
          go_ret
          exact RetPk.from (by unfold DrawnE; omega) HC2.out (by omega) hg1'.out hg2'.out
        · go_wp2_with fail
          refine (hpk.out 60 (by decide)).mono ?_
          rintro e w2 ⟨x, rfl, hx, hc2, hg2⟩
          have HC2 := Lib.hid hc2
          have hg2' := Lib.hid hg2
          have hx2 : 0 ≤ x ∧ x ≤ 59 := by omega
          clear hx hc2 hg2
          go_wp2
          go_ret
          exact RetPk.from (by unfold DrawnE; omega) HC2.out (by omega) hg1'.out hg2'.out
        · go_wp2_with fail
          refine (hpk.out 50 (by decide)).mono ?_
          rintro e w2 ⟨x, rfl, hx, hc2, hg2⟩
          have HC2 := Lib.hid hc2
          have hg2' := Lib.hid hg2
          have hx2 : 0 ≤ x ∧ x ≤ 49 := by omega
          clear hx hc2 hg2
          go_wp2
          go_ret
          exact RetPk.from (by unfold DrawnE; omega) HC2.out (by omega) hg1'.out hg2'.out
section
variable {zs : List Int} {v : Value} {B G n m : Nat} {w0 w w1 w2 : World}
theorem disc_dE (h : Drw zs v B G n w0 w) (hB : B ≤ G) (hn : n + 4 ≤ 100000000) :
    Calls Try.prog 77 #[.pointer (some ⟨G, 0, none⟩)] w fun e w' => ∃ x : Int, e = .returned (.int .i64 x) ∧ DrawnE x ∧ Drw zs v B G (n + 4) w0 w' ∧ w.grownBy w' (some G) := by
  refine (disc_anyE zs v B G n w h.rd h.cur hB hn).mono ?_
  rintro e w1 ⟨x, rfl, hx, hc, hg⟩
  exact ⟨x, rfl, hx, h.next hB hc hg, hg⟩
end
set_option maxRecDepth 100000 in
set_option maxHeartbeats 3200000 in
theorem drawRepE_any (zs : List Int) (v : Value) (B : Nat) (w : World) (hr : RdB zs v B w) (hB : B ≤ w.heap.size) :
    Calls Try.prog 49 #[v] w (fun e w' => ∃ d p : Int, e = .returned (.tuple #[.int .i64 d, .int .i64 p]) ∧ DrawnE d ∧ Below w.heap.size w w') := by
  obtain ⟨A, m, c, rfl⟩ := hr.shape
  have hD0 := Lib.hid (drw_start hr)
  clear hr
  go_enter Try.func49, Try.ntmps49
  go_wp2_with fail
  refine (disc_dE (by repeat (first | with_reducible assumption | (with_reducible apply Hid.out; assumption) | with_reducible apply Drw.drewN | with_reducible apply Drw.drew | with_reducible apply Drw.alloc | (with_reducible refine Drw.setp ?_ ?_ ?_ ?_; (first | omega | (simp <;> omega)); (first | omega | (simp <;> omega)); (first | omega | (simp <;> omega))))) hB (by omega)).mono ?_
  rintro e v1 ⟨x1, rfl, hx1, hD1', hG1⟩
  have hD1 := Lib.hid hD1'
  have HX1 := Lib.hid hx1
  clear hD1' hx1
  have hRD := Lib.hid (fun w => reDisc_any x1 w)
  cases hc : isDisc x1 with
  | false =>
    rw [hc] at hRD
    clear hc
    go_wp2_with (go_at_call 54; (with_reducible refine (hRD.out _).mono ?_); rintro e v ⟨rfl, rfl⟩)
    refine (pick_d (by repeat (first | with_reducible assumption | (with_reducible apply Hid.out; assumption) | with_reducible apply Drw.drewN | with_reducible apply Drw.drew | with_reducible apply Drw.alloc | (with_reducible refine Drw.setp ?_ ?_ ?_ ?_; (first | omega | (simp <;> omega)); (first | omega | (simp <;> omega)); (first | omega | (simp <;> omega))))) hB 400 (by omega) (by omega)).mono ?_
    rintro e v2 ⟨x2, rfl, hx2, hD2', hG2⟩
    have hb2 := below_cur (hG1.trans hG2)
    go_wp2
    go_ret2
    exact ⟨_, _, rfl, HX1.out, hb2⟩
  | true =>
    rw [hc] at hRD
    go_wp2_with (go_at_call 54; (with_reducible refine (hRD.out _).mono ?_); rintro e v ⟨rfl, rfl⟩)
    refine (one_d (by repeat (first | with_reducible assumption | (with_reducible apply Hid.out; assumption) | with_reducible apply Drw.drewN | with_reducible apply Drw.drew | with_reducible apply Drw.alloc | (with_reducible refine Drw.setp ?_ ?_ ?_ ?_; (first | omega | (simp <;> omega)); (first | omega | (simp <;> omega)); (first | omega | (simp <;> omega))))) hB 4 (by omega) (by omega)).mono ?_
    rintro e v2 ⟨x2, rfl, _, hD2', hG2⟩
    have hD2 := Lib.hid hD2'
    clear hD2' hD1
    cases x2 with
    | true =>
      go_wp2_with fail
      refine (pick_d (by repeat (first | with_reducible assumption | (with_reducible apply Hid.out; assumption) | with_reducible apply Drw.drewN | with_reducible apply Drw.drew | with_reducible apply Drw.alloc | (with_reducible refine Drw.setp ?_ ?_ ?_ ?_; (first | omega | (simp <;> omega)); (first | omega | (simp <;> omega)); (first | omega | (simp <;> omega))))) hB 400 (by omega) (by omega)).mono ?_
      rintro e v3 ⟨x3, rfl, hx3, hD3', hG3⟩
      have hb3 := below_cur ((hG1.trans hG2).trans hG3)
      go_wp2
      go_ret2
      exact ⟨_, _, rfl, HX1.out, hb3⟩
    | false =>
      go_wp2_with fail
      refine (reduced_d (by repeat (first | with_reducible assumption | (with_reducible apply Hid.out; assumption) | with_reducible apply Drw.drewN | with_reducible apply Drw.drew | with_reducible apply Drw.alloc | (with_reducible refine Drw.setp ?_ ?_ ?_ ?_; (first | omega | (simp <;> omega)); (first | omega | (simp <;> omega)); (first | omega | (simp <;> omega))))) hB (by omega) x1 hc).mono ?_
      rintro e v3 ⟨f3, rfl, _, hD3', hG3⟩
      have hD3 := Lib.hid hD3'
      clear hD3' hD2
      go_wp2_with fail
      refine (shown_d (by repeat (first | with_reducible assumption | (with_reducible apply Hid.out; assumption) | with_reducible apply Drw.drewN | with_reducible apply Drw.drew | with_reducible apply Drw.alloc | (with_reducible refine Drw.setp ?_ ?_ ?_ ?_; (first | omega | (simp <;> omega)); (first | omega | (simp <;> omega)); (first | omega | (simp <;> omega))))) hB (by omega) f3).mono ?_
      rintro e v4 ⟨x4, rfl, _, hD4', hG4⟩
      have hb4 := below_cur (((hG1.trans hG2).trans hG3).trans hG4)
      go_wp2
      go_ret2
      exact ⟨_, _, rfl, HX1.out, hb4⟩

set_option maxHeartbeats 800000 in
theorem drawTC_any (zs : List Int) (v : Value) (B : Nat) (w : World) (hr : RdB zs v B w) (hB : B ≤ w.heap.size) :
    Calls Try.prog 9 #[v] w (fun e w' => ∃ d p : Int, e = .returned (.tuple #[.int .i64 d, .int .i64 p]) ∧ DrawnE d ∧ Below w.heap.size w w') := by
  have hD := Lib.hid (drawRepE_any zs v B w hr hB)
  obtain ⟨A, m, c, rfl⟩ := hr.shape
  clear hr
  go_enter Try.func9, Try.ntmps9
  go_wp2_with (go_at_call 49; (with_reducible refine hD.out.mono ?_); rintro e v1 ⟨d, p, rfl, hd, hb⟩)
  go_ret2
  exact ⟨_, _, rfl, hd, hb⟩
end
end Go.Proofs.Ytkpiiicefmkhcaa
