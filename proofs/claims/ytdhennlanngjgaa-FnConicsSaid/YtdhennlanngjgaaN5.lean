/- Words for slices of integers; contracts: the prime factors. -/
import Derived.Test.YtdhennlanngjgaaNA
import Derived.Test.YtdhennlanngjgaaGG
namespace Go.Proofs.Ytdhennlanngjgaa
open Go.RowKit

def cellsI (L : List Int) : List Value := L.map (.int .i64)
theorem cellsI_append (L K : List Int) : cellsI (L ++ K) = cellsI L ++ cellsI K := by simp [cellsI]
theorem cellsI_len (L : List Int) : (cellsI L).length = L.length := by simp [cellsI]
theorem cellsI_get (L : List Int) (i : Nat) (h : i < L.length) : (cellsI L)[i]? = some (.int .i64 L[i]) := by simp [cellsI, h]
theorem infoInt : (Try.prog.info? 3).map (fun i => (i.zero, i.size, i.bytes)) = some (some (.int .i64 0), 1, 8) := by kernel_rfl
/-- A list of integers in new memory. -/
def OwnI (L : List Int) (w : World) (v : Value) (w' : World) : Prop := w'.ownsRow w.heap.size 3 1 v L.length (cellsI L) ∧ Below w.heap.size w w'
def RetI (L : List Int) (w : World) (e : Ending) (w' : World) : Prop := ∃ v, e = .returned v ∧ OwnI L w v w'
theorem own_snocI {w : World} {B : Nat} {e : TypeId} {v : Value} {L K : List Int} {x : Int} (hx : K = L ++ [x]) (h : w.ownsRow B e 1 v (L.length + 1) (cellsI L ++ [.int .i64 x])) :
    w.ownsRow B e 1 v K.length (cellsI K) := by
  subst hx
  rw [List.length_append, cellsI_append]
  exact h
/-- The element k of an owned list of integers. -/
theorem own_elemI {w : World} {B : Nat} {e : TypeId} {base : Option Addr} {n cap : Nat} {L : List Int} (h : w.ownsRow B e 1 (.slice base n cap) L.length (cellsI L)) {k : Nat} (hk : k < L.length) :
    ∃ g, base = some ⟨g, 0, none⟩ ∧ g < w.heap.size ∧ w.cell? ⟨g, k, none⟩ = some (.int .i64 L[k]) := by
  rcases own_form h with ⟨hv, h0⟩ | ⟨g, c, hv, h1, h2, h3⟩
  · omega
  · injection hv with e1 e2 e3
    exact ⟨g, e1, h2, h3 _ _ (cellsI_get L k hk)⟩

theorem p_bd {p n : Int} (h0 : 0 ≤ p) (h : p * p ≤ n) (hn : n ≤ 64000000) : p ≤ 8000 := by
  apply Int.not_lt.1; intro hl
  have := Int.mul_le_mul (show (8001 : Int) ≤ p by omega) (show (8001 : Int) ≤ p by omega) (by omega) (by omega)
  omega
def facL (n : Int) : List Int := fac (4 * n + 20000).toNat false 2 n
/-- The state of the outer loop: T is the whole list. -/
def FacSt (T : List Int) (w : World) (vn v vp : Value) (wr : World) : Prop :=
  ∃ (k : Nat) (L : List Int) (p n : Int), vp = .int .i64 p ∧ vn = .int .i64 n ∧ (2 ≤ p ∧ p ≤ 8010) ∧ (1 ≤ n ∧ n ≤ 64000000) ∧ Hid (L ++ fac k false p n = T) ∧ Hid (4 * n + 2 * (10000 - p) < k) ∧ wr.ownsRow w.heap.size 3 1 v L.length (cellsI L) ∧ Below w.heap.size w wr
/-- The state of the inner loop. -/
def FacIn (T : List Int) (p n0 : Int) (w : World) (vn v : Value) (wr : World) : Prop :=
  ∃ (k : Nat) (L : List Int) (n : Int), vn = .int .i64 n ∧ (1 ≤ n ∧ n ≤ n0) ∧ Hid (L ++ fac k true p n = T) ∧ Hid (4 * n + 2 * (10000 - p) ≤ k) ∧ wr.ownsRow w.heap.size 3 1 v L.length (cellsI L) ∧ Below w.heap.size w wr
theorem fac_out {k : Nat} {p n : Int} (hk : 0 < k) (h : p * p ≤ n) : fac k false p n = fac (k - 1) true p n := by
  obtain ⟨j, rfl⟩ : ∃ j, k = j + 1 := ⟨k - 1, by omega⟩
  rw [fac, if_pos h]; rfl
theorem fac_end1 {k : Nat} {p n : Int} (hk : 0 < k) (h : ¬ p * p ≤ n) (hn : 1 < n) : fac k false p n = [n] := by
  obtain ⟨j, rfl⟩ : ∃ j, k = j + 1 := ⟨k - 1, by omega⟩
  rw [fac, if_neg h, if_pos hn]
theorem fac_end0 {k : Nat} {p n : Int} (hk : 0 < k) (h : ¬ p * p ≤ n) (hn : ¬ 1 < n) : fac k false p n = [] := by
  obtain ⟨j, rfl⟩ : ∃ j, k = j + 1 := ⟨k - 1, by omega⟩
  rw [fac, if_neg h, if_neg hn]
theorem fac_in1 {k : Nat} {p n : Int} (hk : 0 < k) (h : n % p = 0) : fac k true p n = p :: fac (k - 1) true p (n / p) := by
  obtain ⟨j, rfl⟩ : ∃ j, k = j + 1 := ⟨k - 1, by omega⟩
  rw [fac, if_pos h]; rfl
theorem fac_in0 {k : Nat} {p n : Int} (hk : 0 < k) (h : ¬ n % p = 0) : fac k true p n = fac (k - 1) false (p + 1) n := by
  obtain ⟨j, rfl⟩ : ∃ j, k = j + 1 := ⟨k - 1, by omega⟩
  rw [fac, if_neg h]; rfl
theorem div_lt {n p : Int} (hn : 1 ≤ n) (hp : 2 ≤ p) (h : n % p = 0) : 1 ≤ n / p ∧ 2 * (n / p) ≤ n := by
  have e := Int.emod_add_mul_ediv n p
  rw [h] at e
  have h0 : 0 ≤ n / p := Int.ediv_nonneg (by omega) (by omega)
  have h2 : 2 * (n / p) ≤ p * (n / p) := Int.mul_le_mul_of_nonneg_right hp h0
  refine ⟨?_, by omega⟩
  apply Int.not_lt.1; intro hl
  have : n / p = 0 := by omega
  rw [this] at e; simp at e; omega
theorem fac_pow : ∀ (k : Nat) (b : Bool) (p n : Int), 2 ≤ p → 1 ≤ n → ((2 ^ (fac k b p n).length : Nat) : Int) ≤ n
  | 0, _, _, _, _, _ => by simp [fac]; omega
  | k + 1, false, p, n, hp, hn => by
    unfold fac
    split
    · exact fac_pow k true p n hp hn
    · split
      · simp; omega
      · simp; omega
  | k + 1, true, p, n, hp, hn => by
    unfold fac
    split
    · rename_i h
      obtain ⟨q1, q2⟩ := div_lt hn hp h
      have ih := fac_pow k true p (n / p) hp q1
      rw [List.length_cons, Nat.pow_succ]
      omega
    · exact fac_pow k false (p + 1) n (by omega) hn
theorem facL_len (n : Int) (hn : n ≤ 64000000) : (facL n).length ≤ 100 := by
  by_cases h1 : 1 ≤ n
  · have h := fac_pow (4 * n + 20000).toNat false 2 n (by omega) h1
    unfold facL
    apply Nat.le_of_not_lt; intro hl
    have h2 := Nat.pow_le_pow_right (show 2 > 0 by omega) (show 30 ≤ (fac (4 * n + 20000).toNat false 2 n).length by omega)
    have h3 : (2 : Nat) ^ 30 = 1073741824 := by decide
    omega
  · have e : fac (4 * n + 20000).toNat false 2 n = [] := by
      cases (4 * n + 20000).toNat with
      | zero => rfl
      | succ k => rw [fac, if_neg (by omega), if_neg (by omega)]
    unfold facL; rw [e]; simp

set_option maxRecDepth 100000 in
set_option maxHeartbeats 3200000 in
theorem factors_any (n0 : Int) (w : World) (h1 : 1 ≤ n0) (h2 : n0 ≤ 64000000) : Calls Try.prog 72 #[.int .i64 n0] w (RetI (facL n0) w) := by
  obtain ⟨i0, hi, hz0, hz1, hz2⟩ := info_parts infoInt
  have hTl := facL_len n0 h2
  obtain ⟨T, hT⟩ : ∃ T, facL n0 = T := ⟨_, rfl⟩
  rw [hT] at hTl ⊢
  have HT := Lib.hid hT
  clear hT
  go_enter Try.func72, Try.ntmps72
  go_wp2
  go_loopw [0, 3, 4] (fun vn v vp wr => FacSt T w vn v vp wr) (fun vn _ vp _ => (4 * intOf vn + 2 * (10000 - intOf vp)).toNat)
  case atStart => exact ⟨_, [], 2, n0, rfl, rfl, ⟨by omega, by omega⟩, ⟨h1, h2⟩, Lib.hid HT.out, Lib.hid (by omega), own_empty (Nat.le_refl _), (by repeat (first | with_reducible exact Below.refl _ _ | with_reducible assumption | with_reducible apply Below.drew | with_reducible apply below_drewN | (with_reducible apply below_setp; (first | omega | (simp <;> omega))) | (with_reducible apply below_allocp; (first | omega | (simp <;> omega))) | (with_reducible refine below_viap (by assumption) ?_ ?_; (first | omega | (simp <;> omega)))))⟩
  case round =>
    clear HT h1 h2
    obtain ⟨k, L, p, n, rfl, rfl, ⟨p1, p2⟩, ⟨n1, n2⟩, hf, hk, hown, hbel⟩ := hrel
    have hk0 : 0 < k := by have := hk.out; omega
    have hLl : L.length ≤ 100000000 := by
      have := congrArg List.length hf.out
      rw [List.length_append] at this; omega
    have pp := mul_bd (a := p) (x := p) (A := 8010) (X := 8010) (by omega) (by omega) (by omega) (by omega)
    obtain ⟨pp1, pp2⟩ := pp
    by_cases hpn : p * p ≤ n
    · have hf2 : Hid (L ++ fac (k - 1) true p n = T) := Lib.hid (by rw [← fac_out hk0 hpn]; exact hf.out)
      have hp3 := p_bd (by omega) hpn n2
      go_wp2
      obtain ⟨wo, rfl⟩ : ∃ wo : World, wo = wr := ⟨_, rfl⟩
      go_loopw [0, 3] (fun vn v wr => FacIn T p n w vn v wr) (fun vn _ _ => (intOf vn).toNat)
      case atStart => exact ⟨k - 1, L, n, rfl, ⟨n1, Int.le_refl _⟩, hf2, Lib.hid (by have := hk.out; omega), hown, hbel⟩
      case round =>
        clear hf2 hf hown hbel hLl hk hk0
        obtain ⟨k2, L2, m, rfl, ⟨m1, m2⟩, hf, hk, hown, hbel⟩ := hrel
        have hk0 : 0 < k2 := by have := hk.out; omega
        have hLl : L2.length ≤ 100000000 := by
          have := congrArg List.length hf.out
          rw [List.length_append] at this; omega
        have e5 : ¬ p = 0 := by omega
        have e6 : (p == 0) = false := by rw [beq_eq_false_iff_ne]; exact e5
        have hz := hbel.size
        by_cases hd : m % p = 0
        · have e7 : (m % p == 0) = true := by rw [beq_iff_eq]; exact hd
          obtain ⟨q1, q2⟩ := div_lt m1 p1 hd
          have hf2 : Hid ((L2 ++ [p]) ++ fac (k2 - 1) true p (m / p) = T) := Lib.hid (by rw [List.append_assoc, List.singleton_append, ← fac_in1 hk0 hd]; exact hf.out)
          have hkk : Hid (4 * (m / p) + 2 * (10000 - p) ≤ ((k2 - 1 : Nat) : Int)) := Lib.hid (by have := hk.out; omega)
          clear hd hf hk
          go_wp2_with (at_builtin; refine wpList_append_own _ rfl (.tmp 17) (.tmp 19) 29 rfl w.heap.size 3 i0 _ 1 8 Try.underlying29 hi hz0 hz1 hz2 rfl (by decide) u3 L2.length (cellsI L2) rfl ?_ ⟨wr.heap.size, 0, none⟩ 1 1 [.int .i64 p] rfl rfl ?_ (one1 _) ?_ ?_ ?_ ?_; exact (by repeat (first | with_reducible assumption | with_reducible apply own_alloc | with_reducible apply own_drew | with_reducible apply own_drewN | (with_reducible refine own_setp (by assumption) ?_ ?_; (first | omega | (simp <;> omega))) | (with_reducible refine own_call (by assumption) ?_))); exact cells1 (Blk.new _ _ _); (unfold maxLen; omega); omega; (simp; omega); intro v2 w2 hown2 hg2 _)
          have hb2 : Below w.heap.size w w2 := below_grown (own_ge hown) (by simp; omega) hg2 (by repeat (first | with_reducible exact Below.refl _ _ | with_reducible assumption | with_reducible apply Below.drew | with_reducible apply below_drewN | (with_reducible apply below_setp; (first | omega | (simp <;> omega))) | (with_reducible apply below_allocp; (first | omega | (simp <;> omega))) | (with_reducible refine below_viap (by assumption) ?_ ?_; (first | omega | (simp <;> omega)))))
          have ho2 := own_snocI (L := L2) (K := L2 ++ [p]) rfl hown2
          clear hg2 hown2 hown hbel
          go_wp2
          go_roundw
          case rel => exact ⟨k2 - 1, L2 ++ [p], m / p, rfl, ⟨q1, by omega⟩, hf2, hkk, ho2, hb2⟩
          case measure => simp [intOf]; omega
        · have e7 : (m % p == 0) = false := by rw [beq_eq_false_iff_ne]; exact hd
          have hf2 : Hid (L2 ++ fac (k2 - 1) false (p + 1) m = T) := Lib.hid (by rw [← fac_in0 hk0 hd]; exact hf.out)
          have hkk : Hid (4 * m + 2 * (10000 - (p + 1)) < ((k2 - 1 : Nat) : Int)) := Lib.hid (by have := hk.out; omega)
          clear hd hf hk
          go_wp2
          go_roundw
          case rel => exact ⟨k2 - 1, L2, p + 1, m, rfl, rfl, ⟨by omega, by omega⟩, ⟨m1, by omega⟩, hf2, hkk, hown, hbel⟩
          case measure => simp [intOf]; omega
    · by_cases hn1 : 1 < n
      · have hx := Lib.hid (show T = L ++ [n] by rw [← hf.out, fac_end1 hk0 hpn hn1])
        have hz := hbel.size
        clear hf hk
        go_wp2_with (at_builtin; refine wpList_append_own _ rfl (.tmp 26) (.tmp 28) 29 rfl w.heap.size 3 i0 _ 1 8 Try.underlying29 hi hz0 hz1 hz2 rfl (by decide) u3 L.length (cellsI L) rfl ?_ ⟨wr.heap.size, 0, none⟩ 1 1 [.int .i64 n] rfl rfl ?_ (one1 _) ?_ ?_ ?_ ?_; exact (by repeat (first | with_reducible assumption | with_reducible apply own_alloc | with_reducible apply own_drew | with_reducible apply own_drewN | (with_reducible refine own_setp (by assumption) ?_ ?_; (first | omega | (simp <;> omega))) | (with_reducible refine own_call (by assumption) ?_))); exact cells1 (Blk.new _ _ _); (unfold maxLen; omega); omega; (simp; omega); intro v2 w2 hown2 hg2 _)
        have hb2 : Below w.heap.size w w2 := below_grown (own_ge hown) (by simp; omega) hg2 (by repeat (first | with_reducible exact Below.refl _ _ | with_reducible assumption | with_reducible apply Below.drew | with_reducible apply below_drewN | (with_reducible apply below_setp; (first | omega | (simp <;> omega))) | (with_reducible apply below_allocp; (first | omega | (simp <;> omega))) | (with_reducible refine below_viap (by assumption) ?_ ?_; (first | omega | (simp <;> omega)))))
        have ho2 := own_snocI hx.out hown2
        clear hg2 hown2 hown hbel
        go_wp2
        go_ret
        exact ⟨_, rfl, ho2, hb2⟩
      · have hx := Lib.hid (show T = L by rw [← hf.out, fac_end0 hk0 hpn hn1, List.append_nil])
        clear hf hk
        go_wp2
        go_ret
        exact ⟨_, rfl, by rw [hx.out]; exact hown, hbel⟩

set_option maxRecDepth 100000 in
set_option maxHeartbeats 3200000 in
theorem nuFactors_any (n0 : Int) (w : World) (h1 : 1 ≤ n0) (h2 : n0 ≤ 64000000) : Calls Try.prog 70 #[.int .i64 n0] w (RetI (facL n0) w) := by
  obtain ⟨i0, hi, hz0, hz1, hz2⟩ := info_parts infoInt
  have hTl := facL_len n0 h2
  obtain ⟨T, hT⟩ : ∃ T, facL n0 = T := ⟨_, rfl⟩
  rw [hT] at hTl ⊢
  have HT := Lib.hid hT
  clear hT
  go_enter Try.func70, Try.ntmps70
  go_wp2
  go_loopw [0, 3, 4] (fun vn v vp wr => FacSt T w vn v vp wr) (fun vn _ vp _ => (4 * intOf vn + 2 * (10000 - intOf vp)).toNat)
  case atStart => exact ⟨_, [], 2, n0, rfl, rfl, ⟨by omega, by omega⟩, ⟨h1, h2⟩, Lib.hid HT.out, Lib.hid (by omega), World.ownsRow_nil _ _ _ _, (by repeat (first | with_reducible exact Below.refl _ _ | with_reducible assumption | with_reducible apply Below.drew | with_reducible apply below_drewN | (with_reducible apply below_setp; (first | omega | (simp <;> omega))) | (with_reducible apply below_allocp; (first | omega | (simp <;> omega))) | (with_reducible refine below_viap (by assumption) ?_ ?_; (first | omega | (simp <;> omega)))))⟩
  case round =>
    clear HT h1 h2
    obtain ⟨k, L, p, n, rfl, rfl, ⟨p1, p2⟩, ⟨n1, n2⟩, hf, hk, hown, hbel⟩ := hrel
    have hk0 : 0 < k := by have := hk.out; omega
    have hLl : L.length ≤ 100000000 := by
      have := congrArg List.length hf.out
      rw [List.length_append] at this; omega
    have pp := mul_bd (a := p) (x := p) (A := 8010) (X := 8010) (by omega) (by omega) (by omega) (by omega)
    obtain ⟨pp1, pp2⟩ := pp
    by_cases hpn : p * p ≤ n
    · have hf2 : Hid (L ++ fac (k - 1) true p n = T) := Lib.hid (by rw [← fac_out hk0 hpn]; exact hf.out)
      have hp3 := p_bd (by omega) hpn n2
      go_wp2
      obtain ⟨wo, rfl⟩ : ∃ wo : World, wo = wr := ⟨_, rfl⟩
      go_loopw [0, 3] (fun vn v wr => FacIn T p n w vn v wr) (fun vn _ _ => (intOf vn).toNat)
      case atStart => exact ⟨k - 1, L, n, rfl, ⟨n1, Int.le_refl _⟩, hf2, Lib.hid (by have := hk.out; omega), hown, hbel⟩
      case round =>
        clear hf2 hf hown hbel hLl hk hk0
        obtain ⟨k2, L2, m, rfl, ⟨m1, m2⟩, hf, hk, hown, hbel⟩ := hrel
        have hk0 : 0 < k2 := by have := hk.out; omega
        have hLl : L2.length ≤ 100000000 := by
          have := congrArg List.length hf.out
          rw [List.length_append] at this; omega
        have e5 : ¬ p = 0 := by omega
        have e6 : (p == 0) = false := by rw [beq_eq_false_iff_ne]; exact e5
        have hz := hbel.size
        by_cases hd : m % p = 0
        · have e7 : (m % p == 0) = true := by rw [beq_iff_eq]; exact hd
          obtain ⟨q1, q2⟩ := div_lt m1 p1 hd
          have hf2 : Hid ((L2 ++ [p]) ++ fac (k2 - 1) true p (m / p) = T) := Lib.hid (by rw [List.append_assoc, List.singleton_append, ← fac_in1 hk0 hd]; exact hf.out)
          have hkk : Hid (4 * (m / p) + 2 * (10000 - p) ≤ ((k2 - 1 : Nat) : Int)) := Lib.hid (by have := hk.out; omega)
          clear hd hf hk
          go_wp2_with (at_builtin; refine wpList_append_own _ rfl (.tmp 16) (.tmp 18) 29 rfl w.heap.size 3 i0 _ 1 8 Try.underlying29 hi hz0 hz1 hz2 rfl (by decide) u3 L2.length (cellsI L2) rfl ?_ ⟨wr.heap.size, 0, none⟩ 1 1 [.int .i64 p] rfl rfl ?_ (one1 _) ?_ ?_ ?_ ?_; exact (by repeat (first | with_reducible assumption | with_reducible apply own_alloc | with_reducible apply own_drew | with_reducible apply own_drewN | (with_reducible refine own_setp (by assumption) ?_ ?_; (first | omega | (simp <;> omega))) | (with_reducible refine own_call (by assumption) ?_))); exact cells1 (Blk.new _ _ _); (unfold maxLen; omega); omega; (simp; omega); intro v2 w2 hown2 hg2 _)
          have hb2 : Below w.heap.size w w2 := below_grown (own_ge hown) (by simp; omega) hg2 (by repeat (first | with_reducible exact Below.refl _ _ | with_reducible assumption | with_reducible apply Below.drew | with_reducible apply below_drewN | (with_reducible apply below_setp; (first | omega | (simp <;> omega))) | (with_reducible apply below_allocp; (first | omega | (simp <;> omega))) | (with_reducible refine below_viap (by assumption) ?_ ?_; (first | omega | (simp <;> omega)))))
          have ho2 := own_snocI (L := L2) (K := L2 ++ [p]) rfl hown2
          clear hg2 hown2 hown hbel
          go_wp2
          go_roundw
          case rel => exact ⟨k2 - 1, L2 ++ [p], m / p, rfl, ⟨q1, by omega⟩, hf2, hkk, ho2, hb2⟩
          case measure => simp [intOf]; omega
        · have e7 : (m % p == 0) = false := by rw [beq_eq_false_iff_ne]; exact hd
          have hf2 : Hid (L2 ++ fac (k2 - 1) false (p + 1) m = T) := Lib.hid (by rw [← fac_in0 hk0 hd]; exact hf.out)
          have hkk : Hid (4 * m + 2 * (10000 - (p + 1)) < ((k2 - 1 : Nat) : Int)) := Lib.hid (by have := hk.out; omega)
          clear hd hf hk
          go_wp2
          go_roundw
          case rel => exact ⟨k2 - 1, L2, p + 1, m, rfl, rfl, ⟨by omega, by omega⟩, ⟨m1, by omega⟩, hf2, hkk, hown, hbel⟩
          case measure => simp [intOf]; omega
    · by_cases hn1 : 1 < n
      · have hx := Lib.hid (show T = L ++ [n] by rw [← hf.out, fac_end1 hk0 hpn hn1])
        have hz := hbel.size
        clear hf hk
        go_wp2_with (at_builtin; refine wpList_append_own _ rfl (.tmp 25) (.tmp 27) 29 rfl w.heap.size 3 i0 _ 1 8 Try.underlying29 hi hz0 hz1 hz2 rfl (by decide) u3 L.length (cellsI L) rfl ?_ ⟨wr.heap.size, 0, none⟩ 1 1 [.int .i64 n] rfl rfl ?_ (one1 _) ?_ ?_ ?_ ?_; exact (by repeat (first | with_reducible assumption | with_reducible apply own_alloc | with_reducible apply own_drew | with_reducible apply own_drewN | (with_reducible refine own_setp (by assumption) ?_ ?_; (first | omega | (simp <;> omega))) | (with_reducible refine own_call (by assumption) ?_))); exact cells1 (Blk.new _ _ _); (unfold maxLen; omega); omega; (simp; omega); intro v2 w2 hown2 hg2 _)
        have hb2 : Below w.heap.size w w2 := below_grown (own_ge hown) (by simp; omega) hg2 (by repeat (first | with_reducible exact Below.refl _ _ | with_reducible assumption | with_reducible apply Below.drew | with_reducible apply below_drewN | (with_reducible apply below_setp; (first | omega | (simp <;> omega))) | (with_reducible apply below_allocp; (first | omega | (simp <;> omega))) | (with_reducible refine below_viap (by assumption) ?_ ?_; (first | omega | (simp <;> omega)))))
        have ho2 := own_snocI hx.out hown2
        clear hg2 hown2 hown hbel
        go_wp2
        go_ret
        exact ⟨_, rfl, ho2, hb2⟩
      · have hx := Lib.hid (show T = L by rw [← hf.out, fac_end0 hk0 hpn hn1, List.append_nil])
        clear hf hk
        go_wp2
        go_ret
        exact ⟨_, rfl, by rw [hx.out]; exact hown, hbel⟩

end Go.Proofs.Ytdhennlanngjgaa
