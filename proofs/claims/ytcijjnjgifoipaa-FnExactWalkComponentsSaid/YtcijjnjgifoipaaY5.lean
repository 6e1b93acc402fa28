/- Contracts: the words of the laws on lists of lists of forms: equality, marks. -/
import Derived.Test.YtcijjnjgifoipaaY2
import Derived.Test.YtcijjnjgifoipaaG7
namespace Go.Proofs.Ytcijjnjgifoipaa
open Go.RowKit

set_option maxRecDepth 100000 in
set_option maxHeartbeats 1600000 in
theorem markFormS_from (s : Int) (v : Value) (B n : Nat) (xs : List Value) (w : World) (hs0 : 0 ≤ s) (hs1 : s ≤ 1000000000) (hl : n ≤ 100000) (h : w.ownsRow B 32 3 v n xs) :
    Calls Try.prog 60 #[v, .int .i64 s] w fun e w' => e = .returned (.int .i64 (s + 3 * n)) ∧ MarkF B s n v w' ∧ w.grownBy w' v.ownBlock := by
  rcases h.2 with ⟨rfl, rfl⟩ | ⟨g, cap, cur0, rfl, hbg, hg, hnc, hcm, hcs, htake⟩
  · clear h
    go_enter Try.func60, Try.ntmps60
    go_wp2
    refine wp_loop_rounds 1 ?_
    rw [rounds_succ]
    go_wp2
    go_ret
    exact ⟨ret_int (by omega), .inl ⟨rfl, rfl⟩, ⟨rfl, rfl, rfl, Nat.le_refl _, fun _ _ _ => rfl⟩⟩
  · have hblk : Blk w g 32 cur0 := hg
    have hz0 : n * 3 ≤ cur0.size := by rw [hcs]; omega
    clear h hg hcs htake
    go_enter Try.func60, Try.ntmps60
    go_wp2
    go_loopw [1, 5] (fun m i wr => ∃ k : Nat, i = .int .i64 k ∧ k ≤ n ∧ m = .int .i64 (s + 3 * k) ∧ ∃ cur, Hid (Blk wr g 32 cur) ∧ Hid (n * 3 ≤ cur.size) ∧ Hid (Mark3 s k cur) ∧ Hid (w.grownBy wr (some g))) (fun _ i _ => n - (intOf i).toNat)
    case atStart => exact ⟨0, rfl, Nat.zero_le _, by simp, cur0, Lib.hid hblk, Lib.hid hz0, Lib.hid (fun j hj => absurd hj (Nat.not_lt_zero _)), Lib.hid ⟨rfl, rfl, rfl, Nat.le_refl _, fun _ _ _ => rfl⟩⟩
    case round =>
      clear hblk hz0
      obtain ⟨k, rfl, hk, rfl, cur, hbk, hsz, hmk, hgr⟩ := hrel
      by_cases hlt : k < n
      · obtain ⟨x0, c0⟩ : ∃ x, wr.cell? ⟨g, k * 3, none⟩ = some x := ⟨_, (hbk.out.cell _).trans (Array.getElem?_eq_getElem (by have := hsz.out; omega))⟩
        obtain ⟨x1, c1⟩ : ∃ x, wr.cell? ⟨g, k * 3 + 1, none⟩ = some x := ⟨_, (hbk.out.cell _).trans (Array.getElem?_eq_getElem (by have := hsz.out; omega))⟩
        obtain ⟨x2, c2⟩ : ∃ x, wr.cell? ⟨g, k * 3 + 2, none⟩ = some x := ⟨_, (hbk.out.cell _).trans (Array.getElem?_eq_getElem (by have := hsz.out; omega))⟩
        have f0 := hbk.out.frozen (k * 3)
        have f1 := hbk.out.frozen (k * 3 + 1)
        have f2 := hbk.out.frozen (k * 3 + 2)
        go_wp2
        exact ⟨⟨k + 1, rfl, hlt, by congr 1 <;> omega, _, Lib.hid (((hbk.out.set_ _ _).set_ _ _).set_ _ _), Lib.hid (by simp; exact hsz.out), Lib.hid (by have h := hmk.out.next (by have := hsz.out; omega); rwa [show s + 3 * (k : Int) + 2 = s + 3 * k + 1 + 1 by omega] at h), Lib.hid (((hgr.out.trans (grown_set3 _ _ _)).trans (grown_set3 _ _ _)).trans (grown_set3 _ _ _))⟩, by simp [intOf]; omega⟩
      · have e : k = n := by omega
        subst e
        go_wp2
        go_ret
        exact ⟨rfl, .inr ⟨g, cap, cur, rfl, hbg, hbk.out, hmk.out⟩, hgr.out⟩

set_option maxRecDepth 100000 in
set_option maxHeartbeats 1600000 in
theorem heldFormS_from (s : Int) (v : Value) (B n : Nat) (w : World) (hs0 : 0 ≤ s) (hs1 : s ≤ 1000000000) (hl : n ≤ 100000) (h : MarkF B s n v w) :
    Calls Try.prog 61 #[v, .int .i64 s] w fun e w' => e = .returned (.int .i64 (s + 3 * n)) ∧ w = w' := by
  rcases h with ⟨rfl, rfl⟩ | ⟨g, cap, cur, rfl, hbg, hblk, hmk⟩
  · go_enter Try.func61, Try.ntmps61
    go_wp2
    refine wp_loop_rounds 1 ?_
    rw [rounds_succ]
    go_wp2
    go_ret
    exact ⟨ret_int (by omega), rfl⟩
  · have Hb := Lib.hid hblk
    have Hm := Lib.hid hmk
    clear hblk hmk
    go_enter Try.func61, Try.ntmps61
    go_wp2
    go_loopw [1, 5] (fun m i wr => ∃ k : Nat, i = .int .i64 k ∧ k ≤ n ∧ m = .int .i64 (s + 3 * k) ∧ w = wr) (fun _ i _ => n - (intOf i).toNat)
    case atStart => exact ⟨0, rfl, Nat.zero_le _, by simp, rfl⟩
    case round =>
      obtain ⟨k, rfl, hk, rfl, rfl⟩ := hrel
      by_cases hlt : k < n
      · obtain ⟨m0, m1, m2⟩ := Hm.out k hlt
        have c0 := (Hb.out.cell (k * 3)).trans m0
        have c1 := (Hb.out.cell (k * 3 + 1)).trans m1
        have c2 := (Hb.out.cell (k * 3 + 2)).trans m2
        clear m0 m1 m2
        go_wp2
        exact ⟨⟨k + 1, rfl, hlt, by congr 1 <;> omega, by simp⟩, by simp [intOf]; omega⟩
      · have e : k = n := by omega
        subst e
        go_wp2
        go_ret
        exact ⟨rfl, rfl⟩

theorem MarkF.grown {B n : Nat} {m : Int} {v : Value} {w w' : World} {row : Option Nat} (h : MarkF B m n v w) (hg : w.grownBy w' row) (hne : ∀ q, v.ownBlock = some q → row ≠ some q) : MarkF B m n v w' := by
  rcases h with h | ⟨g, cap, cur, h1, h2, h3, h4⟩
  · exact .inl h
  · exact .inr ⟨g, cap, cur, h1, h2, h3.grown hg (fun he => hne g (by rw [h1]; rfl) he.symm), h4⟩
/-- Three times the number of all forms in the first i lists. -/
def offN : List (List Fm) → Nat → Nat
  | _, 0 => 0
  | [], _ + 1 => 0
  | g :: G, i + 1 => 3 * g.length + offN G i
theorem offN_next : ∀ (G : List (List Fm)) (i : Nat) (h : i < G.length), offN G (i + 1) = offN G i + 3 * G[i].length
  | [], i, h => absurd h (Nat.not_lt_zero _)
  | g :: G, 0, _ => by simp [offN]
  | g :: G, i + 1, h => by
    have ih := offN_next G i (by simpa using h)
    simp only [offN, List.getElem_cons_succ] at ih ⊢
    omega
theorem offN_bd {n : Nat} : ∀ (G : List (List Fm)) (i : Nat), (∀ g ∈ G, g.length ≤ n) → offN G i ≤ 3 * n * i
  | _, 0, _ => by simp [offN]
  | [], i + 1, _ => by simp [offN]
  | g :: G, i + 1, h => by
    have h1 := h g (by simp)
    have ih := offN_bd G i (fun x hx => h x (by simp [hx]))
    simp only [offN]
    have : 3 * n * (i + 1) = 3 * n * i + 3 * n := Nat.mul_succ _ _
    omega
/-- A marked list of lists. -/
def MarkN (B : Nat) (G : List (List Fm)) (v : Value) (w : World) : Prop :=
  ∃ vs, w.ownsRow B 53 1 v G.length vs ∧ ∀ (i : Nat) (h : i < G.length), ∃ u : Value, vs[i]? = some u ∧ MarkF B (1 + offN G i) G[i].length u w
theorem MarkN.kept {B : Nat} {G : List (List Fm)} {v : Value} {w w' : World} (h : MarkN B G v w) (hb : Below w.heap.size w w') : MarkN B G v w' := by
  obtain ⟨vs, h1, h2⟩ := h
  refine ⟨vs, own_call hb h1, fun i hi => ?_⟩
  obtain ⟨u, h3, h4⟩ := h2 i hi
  exact ⟨u, h3, h4.kept hb⟩
theorem ownV_at {w : World} {B n cap : Nat} {ob : Option Addr} {e : TypeId} {vs : List Value} (h : w.ownsRow B e 1 (.slice ob n cap) n vs) {i : Nat} (hi : i < n) {u : Value} (hu : vs[i]? = some u) :
    ∃ O, ob = some ⟨O, 0, none⟩ ∧ O < w.heap.size ∧ w.cell? ⟨O, i, none⟩ = some u := by
  rcases own_form h with ⟨hv, h0⟩ | ⟨O, c, hv, hB, hO, hc⟩
  · omega
  · injection hv with e1 e2 e3
    subst e1
    exact ⟨O, rfl, hO, hc i u hu⟩

set_option maxRecDepth 100000 in
set_option maxHeartbeats 1600000 in
theorem eqFormSS_same (v u : Value) (B B2 : Nat) (G : List (List Fm)) (w : World) (hl : G.length ≤ 100000) (hr : ∀ g ∈ G, g.length ≤ 100000) (h1 : NestF B G v w) (h2 : NestF B2 G u w) :
    Calls Try.prog 24 #[v, u] w fun e w' => e = .returned (.bool true) ∧ Below w.heap.size w w' := by
  obtain ⟨b1, c1, rfl⟩ := h1.shape
  obtain ⟨b2, c2, rfl⟩ := h2.shape
  obtain ⟨vs, n1⟩ := h1
  obtain ⟨us, n2⟩ := h2
  have H1 := Lib.hid n1
  have H2 := Lib.hid n2
  clear n1 n2
  go_enter Try.func24, Try.ntmps24
  go_wp2
  go_loopw [5] (fun i wr => ∃ k : Nat, i = .int .i64 k ∧ k ≤ G.length ∧ Below w.heap.size w wr) (fun i _ => G.length - (intOf i).toNat)
  case atStart => exact ⟨0, rfl, Nat.zero_le _, (by repeat (first | with_reducible exact Below.refl _ _ | with_reducible assumption | with_reducible apply Below.drew | with_reducible apply below_drewN | (with_reducible apply below_setp; (first | omega | (simp <;> omega))) | (with_reducible apply below_allocp; (first | omega | (simp <;> omega))) | (with_reducible refine below_viap (by assumption) ?_ ?_; (first | omega | (simp <;> omega)))))⟩
  case round =>
    obtain ⟨k, rfl, hk, hbel⟩ := hrel
    have hz := hbel.size
    by_cases hlt : k < G.length
    · have m1 := H1.out.call hbel
      have m2 := H2.out.call hbel
      obtain ⟨x, hx, hxo, _⟩ := m1.2.1 k hlt
      obtain ⟨y, hy, hyo, _⟩ := m2.2.1 k hlt
      obtain ⟨O1, rfl, l1, e1⟩ := ownV_at m1.1 hlt hx
      obtain ⟨O2, rfl, l2, e2⟩ := ownV_at m2.1 hlt hy
      have hgl := hr _ (List.getElem_mem hlt)
      have HX := Lib.hid hxo
      have HY := Lib.hid hyo
      generalize G[k] = g at HX HY hgl
      clear hxo hyo hx hy m1 m2
      go_wp2
      refine wp_region_calm 10 (Below (wr.heap.size) _) (by kernel_rfl) (by kernel_rfl) ((Below.refl _ _).drew) ?_
      simp only [List.take_succ_cons, List.take_zero, List.drop_succ_cons, List.drop_zero]
      repeat (first | (apply wpCalm_go; go_simp; (intro w' hw' hcc hff; go_simp; first | exact rfl | (refine (eqFormS_same x y _ _ g _ hgl (own_bel hw' (own_lt HX.out) HX.out) (own_bel hw' (own_lt HY.out) HY.out)).mono ?_; rintro e w1 ⟨rfl, hb⟩; exact ⟨rfl, calm_call (by have := hw'.size; omega) hw' hb⟩)); (intro K hK; go_simp; refine hK _ ?_; clear hK K)) | (apply wpCalm_skip; go_simp; (intro K hK; go_simp; refine hK _ ?_; clear hK K)))
      refine wpCalm_nil ?_
      intro w1 hw1
      have hcc := (calm_cells hw1).1
      have hff := (calm_cells hw1).2
      have hss := calm_size hw1
      have hsz := hw1.size
      (try simp at hsz)
      go_wp2
      exact ⟨⟨k + 1, rfl, hlt, below_via hbel hw1 hz⟩, by simp [intOf]; omega⟩
    · go_wp2
      go_ret
      exact ⟨rfl, hbel⟩

def MssSt (B : Nat) (G : List (List Fm)) (v : Value) (vs : List Value) (w : World) (vm vi : Value) (wr : World) : Prop :=
  ∃ k : Nat, vi = .int .i64 k ∧ k ≤ G.length ∧ vm = .int .i64 (1 + (offN G k : Int)) ∧ Hid (wr.ownsRow B 53 1 v G.length vs) ∧
    Hid (∀ (i : Nat) (h : i < G.length), ∃ u : Value, vs[i]? = some u ∧ (i < k → MarkF B (1 + offN G i) G[i].length u wr) ∧ (k ≤ i → wr.ownsRow B 32 3 u G[i].length (cellsF G[i]))) ∧ Below B w wr ∧ w.heap.size ≤ wr.heap.size

set_option maxRecDepth 100000 in
set_option maxHeartbeats 1600000 in
theorem markFormSS_any (v : Value) (B : Nat) (G : List (List Fm)) (w : World) (hl : G.length ≤ 2000) (hr : ∀ g ∈ G, g.length ≤ 2000) (hB : B ≤ w.heap.size) (h : NestF B G v w) :
    Calls Try.prog 25 #[v, .int .i64 1] w fun e w' => e = .returned (.int .i64 (1 + (offN G G.length : Int))) ∧ MarkN B G v w' ∧ Below B w w' ∧ w.heap.size ≤ w'.heap.size := by
  obtain ⟨b1, c1, rfl⟩ := h.shape
  obtain ⟨vs, n1⟩ := h
  have H1 := Lib.hid n1.1
  have H2 : Hid (∀ (i : Nat) (h : i < G.length), ∃ u : Value, vs[i]? = some u ∧ (i < 0 → MarkF B (1 + offN G i) G[i].length u w) ∧ (0 ≤ i → w.ownsRow B 32 3 u G[i].length (cellsF G[i]))) := Lib.hid (fun i hi => by
    obtain ⟨u, a, b, _⟩ := n1.2.1 i hi
    exact ⟨u, a, fun h => absurd h (Nat.not_lt_zero _), fun _ => b⟩)
  have HD := Lib.hid n1.2.2
  have HO := Lib.hid (fun i u (hu : vs[i]? = some u) => n1.row_lt hu)
  have hbd := Lib.hid (fun i => offN_bd G i hr)
  clear n1
  go_enter Try.func25, Try.ntmps25
  go_wp2
  go_loopw [1, 5] (fun m i wr => MssSt B G (.slice b1 G.length c1) vs w m i wr) (fun _ i _ => G.length - (intOf i).toNat)
  case atStart => exact ⟨0, rfl, Nat.zero_le _, by simp [offN], H1, H2, Below.refl _ _, Nat.le_refl _⟩
  case round =>
    clear H1 H2
    obtain ⟨k, rfl, hk, rfl, h1, h2, hbel, hz⟩ := hrel
    have hok := hbd.out k
    have hok2 : 3 * 2000 * k ≤ 3 * 2000 * 2000 := Nat.mul_le_mul_left _ (by omega)
    by_cases hlt : k < G.length
    · obtain ⟨x, hx, _, hxo⟩ := h2.out k hlt
      have hxo := hxo (Nat.le_refl _)
      obtain ⟨O1, rfl, l1, e1⟩ := ownV_at h1.out hlt hx
      have hgl := hr _ (List.getElem_mem hlt)
      have hM := Lib.hid (markFormS_from (1 + offN G k) x B _ _ wr (by omega) (by omega) (by omega) hxo)
      have hnx := offN_next G k hlt
      have hge := own_ge hxo
      clear hxo
      go_wp2_with (go_at_call 60; refine hM.out.mono ?_; rintro e w2 ⟨rfl, hmk, hgr⟩)
      go_roundw
      case rel =>
        have hz2 := hgr.size
        refine ⟨k + 1, rfl, hlt, by rw [hnx]; congr 1; omega, Lib.hid (h1.out.kept hgr (.inr (fun he => (HO.out k x hx O1 he.symm).2 rfl))), Lib.hid (fun i hi => ?_), hbel.grown hgr (by omega) hge, by omega⟩
        obtain ⟨u, a, b, c⟩ := h2.out i hi
        refine ⟨u, a, fun hik => ?_, fun hki => ?_⟩
        · by_cases e : i = k
          · subst e
            obtain rfl : u = x := by rw [a] at hx; injection hx
            exact hmk
          · exact (b (by omega)).grown hgr (fun q hq he => HD.out i k u x e a hx q hq he)
        · exact (c (by omega)).kept hgr (keep_of (fun q hq => HD.out i k u x (by omega) a hx q hq))
      case measure => simp [intOf]; omega
    · have e : k = G.length := by omega
      have hfin : MarkN B G (.slice b1 G.length c1) wr := ⟨vs, h1.out, fun i hi => by
        obtain ⟨u, a, b, _⟩ := h2.out i hi
        exact ⟨u, a, b (by omega)⟩⟩
      have HF := Lib.hid hfin
      clear hfin h1 h2
      subst e
      go_wp2
      go_ret
      exact ⟨rfl, HF.out, hbel, hz⟩

set_option maxRecDepth 100000 in
set_option maxHeartbeats 1600000 in
theorem heldFormSS_any (v : Value) (B : Nat) (G : List (List Fm)) (w : World) (hl : G.length ≤ 2000) (hr : ∀ g ∈ G, g.length ≤ 2000) (h : MarkN B G v w) :
    Calls Try.prog 26 #[v, .int .i64 1] w fun e w' => e = .returned (.int .i64 (1 + (offN G G.length : Int))) ∧ w = w' := by
  obtain ⟨vs, h1, h2⟩ := h
  obtain ⟨b1, c1, rfl⟩ := own_shape h1
  have H1 := Lib.hid h1
  have H2 := Lib.hid h2
  have hbd := Lib.hid (fun i => offN_bd G i hr)
  clear h1 h2
  go_enter Try.func26, Try.ntmps26
  go_wp2
  go_loopw [1, 5] (fun m i wr => ∃ k : Nat, i = .int .i64 k ∧ k ≤ G.length ∧ m = .int .i64 (1 + (offN G k : Int)) ∧ w = wr) (fun _ i _ => G.length - (intOf i).toNat)
  case atStart => exact ⟨0, rfl, Nat.zero_le _, by simp [offN], rfl⟩
  case round =>
    obtain ⟨k, rfl, hk, rfl, rfl⟩ := hrel
    have hok := hbd.out k
    have hok2 : 3 * 2000 * k ≤ 3 * 2000 * 2000 := Nat.mul_le_mul_left _ (by omega)
    by_cases hlt : k < G.length
    · obtain ⟨x, hx, hxo⟩ := H2.out k hlt
      obtain ⟨O1, rfl, l1, e1⟩ := ownV_at H1.out hlt hx
      have hgl := hr _ (List.getElem_mem hlt)
      have hM := Lib.hid (heldFormS_from (1 + offN G k) x B _ w (by omega) (by omega) (by omega) hxo)
      have hnx := offN_next G k hlt
      clear hxo
      generalize G[k].length = n at *
      go_wp2_with (go_at_call 61; refine hM.out.mono ?_; rintro e w2 ⟨rfl, rfl⟩)
      go_roundw
      case rel => exact ⟨k + 1, rfl, hlt, by rw [hnx]; congr 1; omega, by simp⟩
      case measure => simp [intOf]; omega
    · have e : k = G.length := by omega
      subst e
      go_wp2
      go_ret
      exact ⟨rfl, rfl⟩
end Go.Proofs.Ytcijjnjgifoipaa
