/- Contract: the composite of powers of the basis, of the reference. -/
import Derived.Test.YtkkamlhpappebaaST
import Derived.Test.YtkkamlhpappebaaSU
import Derived.Test.YtkkamlhpappebaaTZ
import Derived.BigQuiet
namespace Go.Proofs.Ytkkamlhpappebaa
open Go.RowKit

/-- Exponents modulo the orders. -/
def redE (E : List Int) (N : List Nat) : List Nat := List.zipWith (fun (x : Int) (n : Nat) => (x % (n : Int)).toNat) E N
theorem redE_len {E : List Int} {N : List Nat} (h : E.length = N.length) : (redE E N).length = N.length := by unfold redE; rw [List.length_zipWith]; omega
theorem redE_get {E : List Int} {N : List Nat} {k : Nat} (h : k < E.length) (h2 : k < N.length) (h3 : k < (redE E N).length) : (redE E N)[k] = (E[k] % (N[k] : Int)).toNat := by simp only [redE, List.getElem_zipWith]
theorem redE_nats {e N : List Nat} (h : Ab.Small e N) : redE (nats e) N = e := by
  induction h with
  | nil => rfl
  | @cons a n e N ha _ ih =>
    show ((a : Int) % (n : Int)).toNat :: redE (nats e) N = a :: e
    rw [ih, Int.emod_eq_of_lt (by omega) (by omega), Int.toNat_natCast]
theorem redE_small : ∀ {E : List Int} {N : List Nat}, (∀ n ∈ N, 2 ≤ n ∧ n ≤ 1640) → E.length = N.length → Ab.Small (redE E N) N
  | [], [], _, _ => .nil
  | x :: E, n :: N, hN, h => by
    have hn := hN n (by simp)
    refine Ab.Small.cons ?_ (redE_small (fun m hm => hN m (by simp [hm])) (by simpa using h))
    have h1 := Int.emod_nonneg x (show (n : Int) ≠ 0 by omega)
    have h2 := Int.emod_lt_of_pos x (show (0 : Int) < n by omega)
    show (x % (n : Int)).toNat < n
    omega
theorem cmb_path {d : Int} (D : Dsc d) {e : List Nat} {k : Nat} (h : k < (basN d).length) (h2 : k < e.length) :
    ∃ P : Nat → Nat, P 0 = cmbN D e k ∧ P e[k] = cmbN D e (k + 1) ∧ (∀ j, P j < (clsL d).length) ∧ ∀ j, mulN d (clsL d) (P j) (basN d)[k] = P (j + 1) := by
  refine ⟨fun j => ixN D ((clG D).mul ((clG D).comb (((basN d).map (elN D)).take k) (e.take k)) ((clG D).pw (elN D (basN d)[k]) j)), ?_, ?_, fun j => ixN_lt D _, fun j => ?_⟩
  · show ixN D ((clG D).mul _ (clG D).one) = _
    rw [(clG D).mul_one]; rfl
  · exact (cmbN_step D h h2).symm
  · show mulN d (clsL d) (ixN D _) _ = ixN D _
    rw [ixN_mul D _ (basN_lt D _ (List.getElem_mem h)), (clG D).assoc]
    congr 2
    rw [Ab.pw, (clG D).comm]
/-- What the loop over the basis asks at each step. -/
structure CmP (d : Int) (L : List Fm) (E : List Int) (F : Nat → Nat) (k b N K : Nat) (x : Int) (P : Nat → Nat) : Prop where
  bl : b < L.length
  hb : (nats (basN d))[k]? = some (b : Int)
  ho : ∀ h : b < L.length, ordF d L[b] = N
  hf : (nats (facN d))[k]? = some (N : Int)
  n2 : 2 ≤ N
  n3 : N ≤ 1640
  hx : E[k]? = some x
  hk : x % (N : Int) = K
  kN : K < N
  p0 : P 0 = F k
  pK : P K = F (k + 1)
  pl : ∀ j, P j < L.length
  pm : ∀ j, mulN d L (P j) b = P (j + 1)
theorem cmP_ex {d : Int} (D : Dsc d) {L : List Fm} (hL : clsL d = L) {E : List Int} (hE : E.length = (facN d).length) {k : Nat} (hk : k < (facN d).length) :
    ∃ b N K x P, CmP d L E (cmbN D (redE E (facN d))) k b N K x P := by
  subst hL
  have hbl : k < (basN d).length := by rw [basN_len]; exact hk
  have hrl : k < (redE E (facN d)).length := by rw [redE_len hE]; exact hk
  obtain ⟨P, h0, h1, h2, h3⟩ := cmb_path D hbl hrl
  have hn := facN_ge D _ (List.getElem_mem hk)
  have hlt := basN_lt D _ (List.getElem_mem hbl)
  have e1 := redE_get (k := k) (E := E) (by omega) hk hrl
  have m0 := Int.emod_nonneg (E[k]'(by omega)) (show ((facN d)[k] : Int) ≠ 0 by omega)
  have m1 := Int.emod_lt_of_pos (E[k]'(by omega)) (show (0 : Int) < (facN d)[k] by omega)
  refine ⟨(basN d)[k], (facN d)[k], (redE E (facN d))[k], E[k]'(by omega), P, hlt, ?_, fun h => bas_ord D hbl hk h, ?_, hn.1, hn.2, List.getElem?_eq_getElem (by omega), by rw [e1]; omega, by rw [e1]; omega, h0, h1, h2, h3⟩
  · unfold nats; rw [List.getElem?_map, List.getElem?_eq_getElem hbl]; rfl
  · unfold nats; rw [List.getElem?_map, List.getElem?_eq_getElem hk]; rfl
def GcSt (F : Nat → Nat) (s : Nat) (w : World) (v9 v15 : Value) (wr : World) : Prop := ∃ k : Nat, v15 = .int .i64 k ∧ k ≤ s ∧ v9 = .int .i64 (F k : Nat) ∧ Below w.heap.size w wr
def GcIn (P : Nat → Nat) (K : Nat) (v9 v12 : Value) : Prop := ∃ j : Nat, v12 = .int .i64 ((K : Int) - j) ∧ j ≤ K ∧ v9 = .int .i64 (P j : Nat)

set_option maxRecDepth 100000 in
set_option maxHeartbeats 3200000 in
theorem grCombine_any (d : Int) (L : List Fm) (B : Nat) (base : Option Addr) (cap : Nat) (vb ve : Value) (bo : Option Addr) (co : Nat) (B2 B3 B4 : Nat) (E : List Int) (w : World) (D : Dsc d) (hL : clsL d = L) (hE : E.length = (facN d).length)
    (ht : Tab d L B (.slice base L.length cap) w) (hb : w.ownsRow B2 3 1 vb (nats (basN d)).length (cellsI (nats (basN d)))) (ho : w.ownsRow B3 3 1 (.slice bo L.length co) L.length (cellsI (ordsL d L)))
    (he : w.ownsRow B4 3 1 ve E.length (cellsI E)) :
    Calls Try.prog 143 #[.slice base L.length cap, vb, .slice bo L.length co, ve] w fun e w' => e = .returned (.int .i64 (cmbN D (redE E (facN d)) (facN d).length : Nat)) ∧ Below w.heap.size w w' := by
  have hs := Lib.hid (fun k hk => cmP_ex D hL (E := E) hE (k := k) hk)
  have hl : L.length ≤ 1640 := by rw [← hL]; exact clsL_len d
  have h0 := cmbN_zero D (redE E (facN d))
  obtain ⟨F, hF⟩ : ∃ F, cmbN D (redE E (facN d)) = F := ⟨_, rfl⟩
  rw [hF] at hs h0 ⊢
  have hel := Lib.hid (fun (w : World) (ht : Tab d L B (.slice base L.length cap) w) (i k : Nat) (hi : i < L.length) (hk : k < L.length) => (show ∃ G g c, base = some ⟨G, 0, none⟩ ∧ G < w.heap.size ∧ w.cell? ⟨G, i, none⟩ = some (.slice (some ⟨g, 0, none⟩) L.length c) ∧ g < w.heap.size ∧ w.cell? ⟨g, k, none⟩ = some (.int .i64 (mulN d L i k : Nat)) from by
    have h := ht.elem hi hk
    rw [(mulN_eq D hL hi hk).1] at h
    exact h))
  have hs20 : (facN d).length ≤ 20 := by rw [facN_len]; exact inv_len20 D
  have hbl : (nats (basN d)).length = (facN d).length := by rw [nats_len, basN_len]
  obtain ⟨b2, c2, rfl⟩ := own_shape hb
  obtain ⟨b4, c4, rfl⟩ := own_shape he
  have hEl : E.length ≤ (nats (basN d)).length := by omega
  have hEl2 : (nats (basN d)).length ≤ E.length := by omega
  rw [← hbl] at hs hs20 ⊢
  have HB := Lib.hid hb; have HO := Lib.hid ho; have HE := Lib.hid he; have HT := Lib.hid ht
  clear hF hL D hb ho he ht hbl hE
  have hs2 := Lib.hid (fun k h => (show ∃ b N K x P, CmP d L E F k b N K x P from hs.out k h))
  clear hs
  obtain ⟨Bs, hBs⟩ : ∃ Bs, nats (basN d) = Bs := ⟨_, rfl⟩
  have hc : ∀ k b N K x P, CmP d L E F k b N K x P → Bs[k]? = some (b : Int) := fun _ _ _ _ _ _ h => hBs ▸ h.hb
  have Hc := Lib.hid hc
  rw [hBs] at HB hs2 hs20 hEl hEl2 ⊢
  clear hBs hc
  go_enter Try.func143, Try.ntmps143
  go_wp2
  go_loopw [9, 15] (fun v9 v15 wr => GcSt F Bs.length w v9 v15 wr) (fun _ v15 _ => Bs.length - (intOf v15).toNat)
  case atStart => exact ⟨0, rfl, Nat.zero_le _, by rw [h0]; rfl, Below.refl _ _⟩
  case round =>
    obtain ⟨k, rfl, hk, rfl, hbel⟩ := hrel
    have hz := hbel.size
    by_cases hlt : k < Bs.length
    · obtain ⟨b, N, K, x, P, hp⟩ := hs2.out k hlt
      have hlE : k < E.length := by omega
      obtain ⟨gb, rfl, lb, cb⟩ := own_elemI (own_call hbel HB.out) hlt
      obtain ⟨ge, rfl, le, ce⟩ := own_elemI (own_call hbel HE.out) hlE
      obtain ⟨go, rfl, lo, c0⟩ := own_elemO (own_call hbel HO.out) hp.bl
      have q1 := Hc.out _ _ _ _ _ _ hp
      have q2 := hp.hx
      rw [List.getElem?_eq_getElem hlt] at q1
      rw [List.getElem?_eq_getElem hlE] at q2
      injection q1 with q1
      injection q2 with q2
      rw [q1] at cb
      rw [q2] at ce
      rw [hp.ho hp.bl] at c0
      have hM := Lib.hid (fun w => nuMod_any x N w (by have := hp.n2; omega) (by have := hp.n3; omega))
      rw [hp.hk] at hM
      have hbL := hp.bl
      have hkN := hp.kN
      have hn3 := hp.n3
      have e0 := Lib.hid hp.p0.symm
      have Hp := Lib.hid hp
      clear q1 q2 hp
      rw [e0.out]
      go_wp2
      go_quiet (exact (hM.out _).mono (by rintro e w' ⟨rfl, rfl⟩; exact ⟨rfl, _, rfl⟩))
      have hb5 : Below w.heap.size w (wr.drewN nq) := (by repeat (first | with_reducible exact Below.refl _ _ | with_reducible assumption | with_reducible apply Below.drew | with_reducible apply below_drewN | (with_reducible apply below_setp; (first | omega | (simp <;> omega))) | (with_reducible apply below_allocp; (first | omega | (simp <;> omega))) | (with_reducible refine below_viap (by assumption) ?_ ?_; (first | omega | (simp <;> omega)))))
      generalize wr.drewN nq = w5 at *
      clear hbel cb ce c0 lb le lo hM
      go_wp2
      go_loop [9, 12] (fun v9 v12 => GcIn P K v9 v12) (fun _ v12 => (intOf v12).toNat)
      case atStart => exact ⟨0, by go_num, Nat.zero_le _, rfl⟩
      case round =>
        obtain ⟨j, rfl, hj, rfl⟩ := hrel
        by_cases hjK : j < K
        · obtain ⟨G, g3, c3, rfl, l3, k3, l4, k4⟩ := hel.out w5 (HT.out.call hb5) (P j) b (Hp.out.pl j) hbL
          rw [Hp.out.pm j] at k4
          have l5 := Hp.out.pl j
          have e1 : 0 < (K : Int) - j := by omega
          go_wp2
          go_round
          case rel => exact ⟨j + 1, by go_num, hjK, rfl⟩
          case measure => (first | (simp [intOf]; done) | (simp [intOf]; omega))
        · have e : j = K := by omega
          subst e
          have e1 : (j : Int) - j = 0 := by omega
          rw [e1, Hp.out.pK]
          go_wp2
          go_roundw
          case rel => exact ⟨k + 1, by go_num, hlt, rfl, hb5⟩
          case measure => (first | (simp [intOf]; done) | (simp [intOf]; omega))
    · have e : k = Bs.length := by omega
      subst e
      go_wp2
      go_ret
      exact ⟨rfl, hbel⟩
end Go.Proofs.Ytkkamlhpappebaa
