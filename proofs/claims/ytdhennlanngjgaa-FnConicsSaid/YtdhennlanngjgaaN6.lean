/- Contracts: l1Put, a sorted insertion. -/
import Derived.Test.YtdhennlanngjgaaN5
import Derived.Test.YtdhennlanngjgaaW4
namespace Go.Proofs.Ytdhennlanngjgaa
open Go.RowKit

def putI : List Int → Int → List Int
  | [], n => [n]
  | x :: L, n => if x < n then x :: putI L n else if x = n then x :: L else n :: x :: L
theorem putI_at : ∀ (L : List Int) (n : Int) (k : Nat), k ≤ L.length → (∀ j (h : j < L.length), j < k → L[j] < n) → (∀ h : k < L.length, ¬ L[k] < n) →
    ((∃ h : k < L.length, L[k] = n) ∧ putI L n = L) ∨ ((∀ h : k < L.length, ¬ L[k] = n) ∧ putI L n = L.take k ++ [n] ++ L.drop k)
  | [], n, k, hk, _, _ => by
    obtain rfl : k = 0 := by simpa using hk
    exact .inr ⟨fun h => absurd h (by simp), by simp [putI]⟩
  | x :: L, n, 0, _, _, h2 => by
    have h3 := h2 (by simp)
    simp only [List.getElem_cons_zero] at h3
    by_cases he : x = n
    · exact .inl ⟨⟨by simp, he⟩, by simp [putI, he]⟩
    · exact .inr ⟨fun _ => he, by simp [putI, h3, he]⟩
  | x :: L, n, k + 1, hk, h1, h2 => by
    have hx : x < n := by have := h1 0 (by simp) (by omega); simpa using this
    have ih := putI_at L n k (by simpa using hk) (fun j h hj => by have := h1 (j + 1) (by simpa using h) (by omega); simpa using this) (fun h => by have := h2 (by simpa using h); simpa using this)
    rcases ih with ⟨⟨h, he⟩, e⟩ | ⟨h, e⟩
    · exact .inl ⟨⟨by simpa using h, by simpa using he⟩, by rw [putI, if_pos hx, e]⟩
    · exact .inr ⟨fun h' => by have := h (by simpa using h'); simpa using this, by rw [putI, if_pos hx, e]; simp⟩
theorem cellsI_one (L : List Int) : ∀ u ∈ cellsI L, u.oneCell' = true := by
  intro u hu
  simp only [cellsI, List.mem_map] at hu
  obtain ⟨x, _, rfl⟩ := hu
  rfl
theorem cellsI_take (L : List Int) (k : Nat) : (cellsI L).take k = cellsI (L.take k) := by simp [cellsI]
theorem cellsI_drop (L : List Int) (k : Nat) : (cellsI L).drop k = cellsI (L.drop k) := by simp [cellsI]

theorem readsTake {w : World} {B size n : Nat} {A : Option Addr} {xs : List Value} (h : Reads w B size A n xs) {k : Nat} (hk : k ≤ n) : Reads w B size A k (xs.take (k * size)) := by
  refine ⟨by rw [List.length_take, h.1]; exact Nat.min_eq_left (Nat.mul_le_mul_right _ hk), fun h0 => ?_⟩
  obtain ⟨ad, e, hb, hc⟩ := h.2 (by omega)
  exact ⟨ad, e, hb, fun j u hu => hc j u (by rw [List.getElem?_take] at hu; split at hu <;> simp_all)⟩
theorem readsI_take {w : World} {B g : Nat} {L : List Int} (h : Reads w B 1 (some ⟨g, 0, none⟩) L.length (cellsI L)) {k : Nat} (hk : k ≤ L.length) : Reads w B 1 (some ⟨g, 0, none⟩) k (cellsI (L.take k)) := by
  have := readsTake h hk
  rw [Nat.mul_one, cellsI_take] at this; exact this
theorem add_zero_blk (g k : Nat) : (⟨g, 0, none⟩ : Addr).add k = ⟨g, k, none⟩ := by unfold Addr.add; split <;> simp_all
theorem readsI_drop {w : World} {B g : Nat} {L : List Int} (h : Reads w B 1 (some ⟨g, 0, none⟩) L.length (cellsI L)) {k cap : Nat} (hk : k ≤ L.length) (hc : L.length ≤ cap) : Reads w B 1 (if cap = k then some ⟨g, 0, none⟩ else some ⟨g, k, none⟩) (L.length - k) (cellsI (L.drop k)) := by
  have := h.cut hk hc
  rw [Nat.mul_one, cellsI_drop] at this
  simp only [Option.map_some, add_zero_blk] at this
  exact this

/-- What l1Put leaves. -/
def RetPut (L : List Int) (B : Nat) (v : Value) (w : World) (e : Ending) (w' : World) : Prop :=
  ∃ v', e = .returned v' ∧ w'.ownsRow B 3 1 v' L.length (cellsI L) ∧ (∀ k, v'.ownBlock = some k → v.ownBlock = some k ∨ w.heap.size ≤ k) ∧ Below w.heap.size w w'

set_option maxRecDepth 100000 in
set_option maxHeartbeats 3200000 in
theorem l1Put_any (v : Value) (B : Nat) (L : List Int) (x : Int) (w : World) (hl : L.length ≤ 1000000) (hB : B ≤ w.heap.size) (h : w.ownsRow B 3 1 v L.length (cellsI L)) :
    Calls Try.prog 71 #[v, .int .i64 x] w (RetPut (putI L x) B v w) := by
  obtain ⟨i0, hi, hz0, hz1, hz2⟩ := info_parts infoInt
  have h0 := h
  rcases h.2 with ⟨rfl, hn⟩ | ⟨g, cap, cur, rfl, hbg, hg, hnc, hcm, hcs, htake⟩
  · have hL : L = [] := List.eq_nil_of_length_eq_zero hn
    subst hL
    clear h h0 hn
    go_enter Try.func71, Try.ntmps71
    go_wp2
    refine wp_loop_rounds 1 ?_
    rw [rounds_succ]
    go_wp2_with (first | (at_builtin; refine wpList_append_any _ rfl (.tmp 34) (.tmp 37) _ rfl w.heap.size 3 i0 _ 1 8 Try.underlying29 hi hz0 hz1 hz2 rfl (by omega) (.slice (some ⟨w.heap.size, 0, none⟩) 0 0) 0 [] rfl (own_empty (Nat.le_refl _)) w.heap.size none 0 _ (cellsI ([])) rfl Reads.none_ (cellsI_one _) (by unfold maxLen; omega) (by omega) (by simp) ?_; intro x1 w1 hown1 hg1 hat1; have hb1 : Below w.heap.size w w1 := Below.grown ((by repeat (first | with_reducible exact Below.refl _ _ | with_reducible assumption | with_reducible apply Below.drew | with_reducible apply below_drewN | (with_reducible apply below_setp; (first | omega | (simp <;> omega))) | (with_reducible apply below_allocp; (first | omega | (simp <;> omega))) | (with_reducible refine below_viap (by assumption) ?_ ?_; (first | omega | (simp <;> omega)))))) hg1 (by simp) (fun q hq => by simp [Value.ownBlock] at hq; omega); have hz5 := hb1.size) | (at_builtin; refine wpList_append_any _ rfl (.tmp 39) (.tmp 41) _ rfl w.heap.size 3 i0 _ 1 8 Try.underlying29 hi hz0 hz1 hz2 rfl (by omega) x1 (0 + 0) ([] ++ cellsI ([])) rfl (own_alloc hown1) (w1.heap.size + 1) _ 1 _ [.int .i64 x] rfl ⟨rfl, fun _ => ⟨_, rfl, by simp, cells1 (Blk.new _ _ _)⟩⟩ (one1 _) (by unfold maxLen; omega) (by omega) (by simp; omega) ?_; intro x2 w2 hown2 hg2 hat2; have hb2 : Below w.heap.size w w2 := Below.grown ((by repeat (first | with_reducible exact Below.refl _ _ | with_reducible assumption | with_reducible apply Below.drew | with_reducible apply below_drewN | (with_reducible apply below_setp; (first | omega | (simp <;> omega))) | (with_reducible apply below_allocp; (first | omega | (simp <;> omega))) | (with_reducible refine below_viap (by assumption) ?_ ?_; (first | omega | (simp <;> omega)))))) hg2 (by simp; omega) (fun q hq => (own_ge hown1) q hq); have hz6 := hb2.size) | (at_builtin; refine wpList_append_any _ rfl (.tmp 43) (.tmp 46) _ rfl w.heap.size 3 i0 _ 1 8 Try.underlying29 hi hz0 hz1 hz2 rfl (by omega) x2 (0 + 0 + 1) ([] ++ cellsI ([]) ++ [.int .i64 x]) rfl hown2 w.heap.size none 0 _ (cellsI ([])) rfl Reads.none_ (cellsI_one _) (by unfold maxLen; omega) (by omega) (by omega) ?_; intro x3 w3 hown3 hg3 hat3; have hb3 : Below w.heap.size w w3 := Below.grown hb2 hg3 (by omega) (fun q hq => (own_ge hown2) q hq)))
    go_ret
    exact ⟨x3, rfl, own_base hB (by simpa [putI, cellsI] using hown3), fun q hq => .inr (own_ge hown3 q hq), hb3⟩
  · have hcells : ∀ j (hj : j < L.length), w.cell? ⟨g, j, none⟩ = some (.int .i64 L[j]) := by
      intro j hj
      obtain ⟨g', e, _, hc⟩ := own_elemI h hj
      injection e with e; injection e with e; subst e
      exact hc
    have Hc := Lib.hid hcells
    have hrd := Lib.hid (Reads.of_own h)
    have H0 := Lib.hid h0
    clear hcells h h0 hg hcs htake
    go_enter Try.func71, Try.ntmps71
    go_wp2
    go_loop [5] (fun s => ∃ k : Nat, s = .int .i64 k ∧ k ≤ L.length ∧ Hid (∀ j (h : j < L.length), j < k → L[j] < x)) (fun s => L.length - (intOf s).toNat)
    case atStart => exact ⟨0, rfl, Nat.zero_le _, Lib.hid (fun _ _ h => absurd h (Nat.not_lt_zero _))⟩
    case round =>
      obtain ⟨k, rfl, hk, hlo⟩ := hrel
      by_cases hlt : k < L.length
      · have c1 := Hc.out k hlt
        obtain ⟨y, hy⟩ : ∃ y, L[k] = y := ⟨_, rfl⟩
        rw [hy] at c1
        have Hy := Lib.hid hy
        clear hy
        by_cases hyx : y < x
        · go_wp2
          go_round
          case rel => exact ⟨k + 1, by go_num, hlt, Lib.hid (fun j h hj => by
            by_cases e : j = k
            · subst e; rw [Hy.out]; exact hyx
            · exact hlo.out j h (by omega))⟩
          case measure => simp [intOf]; omega
        · have hput := Lib.hid (putI_at L x k hk hlo.out (fun h => by rw [Hy.out]; exact hyx))
          by_cases he : y = x
          · have e1 : (y == x) = true := by rw [beq_iff_eq]; exact he
            have hP := Lib.hid (show putI L x = L by
              rcases hput.out with ⟨_, e⟩ | ⟨h1, _⟩
              · exact e
              · exact absurd (Hy.out.trans he) (h1 hlt))
            clear he
            go_wp2
            go_ret
            exact ⟨_, rfl, by rw [hP.out]; exact H0.out, fun q hq => .inl hq, Below.refl _ _⟩
          · have e1 : (y == x) = false := by rw [beq_eq_false_iff_ne]; exact he
            have hP := Lib.hid (show putI L x = L.take k ++ [x] ++ L.drop k by
              rcases hput.out with ⟨⟨h1, h2⟩, _⟩ | ⟨_, e⟩
              · exact absurd (Hy.out.symm.trans h2) he
              · exact e)
            clear he
            go_wp2_with (first | (at_builtin; refine wpList_append_any _ rfl (.tmp 34) (.tmp 37) _ rfl w.heap.size 3 i0 _ 1 8 Try.underlying29 hi hz0 hz1 hz2 rfl (by omega) (.slice (some ⟨w.heap.size, 0, none⟩) 0 0) 0 [] rfl (own_empty (Nat.le_refl _)) w.heap.size _ k _ (cellsI (L.take k)) rfl ((readsI_take hrd.out hk).alloc (Nat.le_refl _) _) (cellsI_one _) (by unfold maxLen; omega) (by omega) (by simp) ?_; intro x1 w1 hown1 hg1 hat1; have hb1 : Below w.heap.size w w1 := Below.grown ((by repeat (first | with_reducible exact Below.refl _ _ | with_reducible assumption | with_reducible apply Below.drew | with_reducible apply below_drewN | (with_reducible apply below_setp; (first | omega | (simp <;> omega))) | (with_reducible apply below_allocp; (first | omega | (simp <;> omega))) | (with_reducible refine below_viap (by assumption) ?_ ?_; (first | omega | (simp <;> omega)))))) hg1 (by simp) (fun q hq => by simp [Value.ownBlock] at hq; omega); have hz5 := hb1.size) | (at_builtin; refine wpList_append_any _ rfl (.tmp 39) (.tmp 41) _ rfl w.heap.size 3 i0 _ 1 8 Try.underlying29 hi hz0 hz1 hz2 rfl (by omega) x1 (0 + k) ([] ++ cellsI (L.take k)) rfl (own_alloc hown1) (w1.heap.size + 1) _ 1 _ [.int .i64 x] rfl ⟨rfl, fun _ => ⟨_, rfl, by simp, cells1 (Blk.new _ _ _)⟩⟩ (one1 _) (by unfold maxLen; omega) (by omega) (by simp; omega) ?_; intro x2 w2 hown2 hg2 hat2; have hb2 : Below w.heap.size w w2 := Below.grown ((by repeat (first | with_reducible exact Below.refl _ _ | with_reducible assumption | with_reducible apply Below.drew | with_reducible apply below_drewN | (with_reducible apply below_setp; (first | omega | (simp <;> omega))) | (with_reducible apply below_allocp; (first | omega | (simp <;> omega))) | (with_reducible refine below_viap (by assumption) ?_ ?_; (first | omega | (simp <;> omega)))))) hg2 (by simp; omega) (fun q hq => (own_ge hown1) q hq); have hz6 := hb2.size) | (at_builtin; refine wpList_append_any _ rfl (.tmp 43) (.tmp 46) _ rfl w.heap.size 3 i0 _ 1 8 Try.underlying29 hi hz0 hz1 hz2 rfl (by omega) x2 (0 + k + 1) ([] ++ cellsI (L.take k) ++ [.int .i64 x]) rfl hown2 w.heap.size _ (L.length - k) _ (cellsI (L.drop k)) rfl ?_ (cellsI_one _) (by unfold maxLen; omega) (by omega) (by omega) ?_))
            · have hr5 := readsI_drop hrd.out hk hnc
              rw [if_neg (by omega)] at hr5
              exact hr5.below hb2
            · intro x3 w3 hown3 hg3 hat3
              have hb3 : Below w.heap.size w w3 := Below.grown hb2 hg3 (by omega) (fun q hq => (own_ge hown2) q hq)
              have ho3 : w3.ownsRow w.heap.size 3 1 x3 (putI L x).length (cellsI (putI L x)) := by
                have e1 : putI L x = L.take k ++ [x] ++ L.drop k := hP.out
                have e2 : cellsI (L.take k) ++ Value.int .i64 x :: cellsI (L.drop k) = cellsI (putI L x) := by rw [e1]; simp [cellsI]
                have e3 : k + 1 + (L.length - k) = (putI L x).length := by rw [e1]; simp; omega
                rw [← e2, ← e3]; exact hown3
              clear hown3
              go_wp2
              go_ret
              exact ⟨x3, rfl, own_base hB ho3, fun q hq => .inr (own_ge ho3 q hq), hb3⟩
      · have hkl : k = L.length := by omega
        have hP := Lib.hid (show putI L x = L.take k ++ [x] ++ L.drop k by
          rcases putI_at L x k hk hlo.out (fun h => absurd h hlt) with ⟨⟨h1, _⟩, _⟩ | ⟨_, e⟩
          · exact absurd h1 hlt
          · exact e)
        clear hlo
        subst hkl
        go_wp2_with (first | (at_builtin; refine wpList_append_any _ rfl (.tmp 34) (.tmp 37) _ rfl w.heap.size 3 i0 _ 1 8 Try.underlying29 hi hz0 hz1 hz2 rfl (by omega) (.slice (some ⟨w.heap.size, 0, none⟩) 0 0) 0 [] rfl (own_empty (Nat.le_refl _)) w.heap.size _ L.length _ (cellsI L) rfl (hrd.out.alloc (Nat.le_refl _) _) (cellsI_one _) (by unfold maxLen; omega) (by omega) (by simp) ?_; intro x1 w1 hown1 hg1 hat1; have hb1 : Below w.heap.size w w1 := Below.grown ((by repeat (first | with_reducible exact Below.refl _ _ | with_reducible assumption | with_reducible apply Below.drew | with_reducible apply below_drewN | (with_reducible apply below_setp; (first | omega | (simp <;> omega))) | (with_reducible apply below_allocp; (first | omega | (simp <;> omega))) | (with_reducible refine below_viap (by assumption) ?_ ?_; (first | omega | (simp <;> omega)))))) hg1 (by simp) (fun q hq => by simp [Value.ownBlock] at hq; omega); have hz5 := hb1.size) | (at_builtin; refine wpList_append_any _ rfl (.tmp 39) (.tmp 41) _ rfl w.heap.size 3 i0 _ 1 8 Try.underlying29 hi hz0 hz1 hz2 rfl (by omega) x1 (0 + L.length) ([] ++ cellsI L) rfl (own_alloc hown1) (w1.heap.size + 1) _ 1 _ [.int .i64 x] rfl ⟨rfl, fun _ => ⟨_, rfl, by simp, cells1 (Blk.new _ _ _)⟩⟩ (one1 _) (by unfold maxLen; omega) (by omega) (by simp; omega) ?_; intro x2 w2 hown2 hg2 hat2; have hb2 : Below w.heap.size w w2 := Below.grown ((by repeat (first | with_reducible exact Below.refl _ _ | with_reducible assumption | with_reducible apply Below.drew | with_reducible apply below_drewN | (with_reducible apply below_setp; (first | omega | (simp <;> omega))) | (with_reducible apply below_allocp; (first | omega | (simp <;> omega))) | (with_reducible refine below_viap (by assumption) ?_ ?_; (first | omega | (simp <;> omega)))))) hg2 (by simp; omega) (fun q hq => (own_ge hown1) q hq); have hz6 := hb2.size) | (at_builtin; refine wpList_append_any _ rfl (.tmp 43) (.tmp 46) _ rfl w.heap.size 3 i0 _ 1 8 Try.underlying29 hi hz0 hz1 hz2 rfl (by omega) x2 (0 + L.length + 1) ([] ++ cellsI L ++ [.int .i64 x]) rfl hown2 w.heap.size _ 0 _ [] rfl ⟨by simp, fun h => absurd h (by omega)⟩ (fun _ h => by simp at h) (by unfold maxLen; omega) (by omega) (by omega) ?_; intro x3 w3 hown3 hg3 hat3; have hb3 : Below w.heap.size w w3 := Below.grown hb2 hg3 (by omega) (fun q hq => (own_ge hown2) q hq); have ho3 : w3.ownsRow w.heap.size 3 1 x3 (putI L x).length (cellsI (putI L x)) := (by rw [hP.out]; have e9 := hown3; simp [cellsI] at e9 ⊢; exact e9); clear hown3))
        all_goals
          go_ret
          exact ⟨x3, rfl, own_base hB ho3, fun q hq => .inr (own_ge ho3 q hq), hb3⟩
end Go.Proofs.Ytdhennlanngjgaa
