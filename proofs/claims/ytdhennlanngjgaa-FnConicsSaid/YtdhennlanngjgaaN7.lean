/- Contracts: the different prime factors. -/
import Derived.Test.YtdhennlanngjgaaN6
namespace Go.Proofs.Ytdhennlanngjgaa
open Go.RowKit

theorem foldl_take {g : List Int → Int → List Int} {F : List Int} {k : Nat} (h : k < F.length) : (F.take (k + 1)).foldl g [] = g ((F.take k).foldl g []) F[k] := by
  rw [List.take_succ_eq_append_getElem h, List.foldl_append]; rfl
/-- Strictly ascending. -/
def SAsc : List Int → Prop
  | [] => True
  | x :: L => (∀ y ∈ L, x < y) ∧ SAsc L
theorem put_add : ∀ (P : List Int) (f : Int), (∀ y ∈ P, y ≤ f) → SAsc P → putI P f = addD P f
  | [], f, _, _ => by simp [putI, addD]
  | x :: L, f, h, hs => by
    have hx := h x (by simp)
    by_cases hlt : x < f
    · have ih := put_add L f (fun y hy => h y (by simp [hy])) hs.2
      rw [putI, if_pos hlt, ih]
      unfold addD
      cases L with
      | nil => simp; omega
      | cons y L =>
        rw [List.getLast?_cons_cons]
        split <;> simp
    · have he : x = f := by omega
      subst he
      have hL : L = [] := by
        cases L with
        | nil => rfl
        | cons y L =>
          have h1 := hs.1 y (by simp)
          have h2 := h y (by simp)
          omega
      subst hL
      simp [putI, addD]
theorem sasc_snoc : ∀ (P : List Int) (f : Int), (∀ y ∈ P, y < f) → SAsc P → SAsc (P ++ [f])
  | [], _, _, _ => ⟨by simp, trivial⟩
  | x :: L, f, h, hs => by
    refine ⟨?_, sasc_snoc L f (fun y hy => h y (by simp [hy])) hs.2⟩
    intro y hy
    simp at hy
    rcases hy with hy | rfl
    · exact hs.1 y hy
    · exact h x (by simp)
theorem sasc_last : ∀ (P : List Int) (f : Int), SAsc P → (∀ y ∈ P, y ≤ f) → P.getLast? ≠ some f → ∀ y ∈ P, y < f
  | [], _, _, _, _ => by simp
  | [x], f, _, h, hl => by
    intro y hy
    simp at hy hl
    subst hy
    have := h y (by simp)
    omega
  | x :: z :: L, f, hs, h, hl => by
    rw [List.getLast?_cons_cons] at hl
    have ih := sasc_last (z :: L) f hs.2 (fun y hy => h y (by simp at hy ⊢; exact .inr hy)) hl
    intro y hy
    simp only [List.mem_cons] at hy
    rcases hy with rfl | hy
    · have h1 := hs.1 z (by simp)
      have h2 := ih z (by simp)
      omega
    · exact ih y (by simpa using hy)
theorem add_ok {P : List Int} {f : Int} (hs : SAsc P) (h : ∀ y ∈ P, y ≤ f) : SAsc (addD P f) ∧ ∀ y ∈ addD P f, y ≤ f := by
  unfold addD
  split
  · exact ⟨hs, h⟩
  · rename_i hl
    refine ⟨sasc_snoc P f (sasc_last P f hs h hl) hs, ?_⟩
    intro y hy
    simp at hy
    rcases hy with hy | rfl
    · exact h y hy
    · exact Int.le_refl _
theorem fold_eq : ∀ (F P : List Int), Asc F → (∀ y ∈ P, ∀ f ∈ F, y ≤ f) → SAsc P → F.foldl putI P = F.foldl addD P ∧ SAsc (F.foldl addD P)
  | [], P, _, _, hs => ⟨rfl, hs⟩
  | f :: F, P, ha, h, hs => by
    have hp := fun y hy => h y hy f (by simp)
    obtain ⟨s1, s2⟩ := add_ok hs hp
    simp only [List.foldl_cons]
    rw [put_add P f hp hs]
    exact fold_eq F (addD P f) ha.2 (fun y hy g hg => by have := s2 y hy; have := ha.1 g hg; omega) s1
/-- The different prime factors. -/
def prims (n : Int) : List Int := (facL n).foldl addD []
theorem prims_eq {n : Int} (hn : 1 ≤ n) : (facL n).foldl putI [] = prims n := by
  have := (fac_ge (4 * n + 20000).toNat false 2 n (by omega) hn (fun q h1 h2 _ => by omega)).2
  exact (fold_eq (facL n) [] this (by simp) trivial).1
theorem addD_len (P : List Int) (f : Int) : (addD P f).length ≤ P.length + 1 := by unfold addD; split <;> simp
theorem fold_len : ∀ (F P : List Int), (F.foldl addD P).length ≤ P.length + F.length
  | [], P => by simp
  | f :: F, P => by
    have h1 := fold_len F (addD P f)
    have h2 := addD_len P f
    simp only [List.foldl_cons, List.length_cons]; omega
theorem putI_len : ∀ (P : List Int) (f : Int), (putI P f).length ≤ P.length + 1
  | [], _ => by simp [putI]
  | x :: P, f => by
    unfold putI
    split
    · have := putI_len P f; simp; omega
    · split <;> simp
theorem foldp_len : ∀ (F P : List Int), (F.foldl putI P).length ≤ P.length + F.length
  | [], P => by simp
  | f :: F, P => by
    have h1 := foldp_len F (putI P f)
    have h2 := putI_len P f
    simp only [List.foldl_cons, List.length_cons]; omega

/-- The state of a loop over a list of integers that makes another list. -/
def IntSt (g : List Int → Int → List Int) (F : List Int) (B : Nat) (vl : Value) (w : World) (v vi : Value) (wr : World) : Prop :=
  ∃ k : Nat, vi = .int .i64 k ∧ k ≤ F.length ∧ wr.ownsRow w.heap.size 3 1 v ((F.take k).foldl g []).length (cellsI ((F.take k).foldl g [])) ∧ wr.ownsRow B 3 1 vl F.length (cellsI F) ∧ Apart v vl ∧ Below w.heap.size w wr

set_option maxRecDepth 100000 in
set_option maxHeartbeats 3200000 in
theorem primesOf_any (n : Int) (w : World) (h1 : 1 ≤ n) (h2 : n ≤ 64000000) : Calls Try.prog 50 #[.int .i64 n] w (RetI (prims n) w) := by
  obtain ⟨i0, hi, hz0, hz1, hz2⟩ := info_parts infoInt
  have hl : (facL n).length ≤ 900000 := by have := facL_len n (by omega); omega
  have hF := Lib.hid (fun w => factors_any n w h1 (by omega))
  unfold prims
  generalize facL n = F at *
  go_enter Try.func50, Try.ntmps50
  go_wp2_with (go_at_call 72; refine (hF.out _).mono ?_; rintro e w1 ⟨vl, rfl, howl, hb1⟩; obtain ⟨base, cap, rfl⟩ := own_shape howl)
  obtain ⟨B, hB⟩ : ∃ B : Nat, B = (w.alloc (.cells #[] 3)).heap.size := ⟨_, rfl⟩
  rw [← hB] at howl
  have hz1' := hb1.size
  go_loopw [3, 10] (fun v i wr => IntSt addD F B (.slice base F.length cap) w v i wr) (fun _ i _ => F.length - (intOf i).toNat)
  case atStart => exact ⟨0, rfl, Nat.zero_le _, own_call hb1 (own_empty (Nat.le_refl _)), howl, apart_below howl (by simp [hB]), (by repeat (first | with_reducible exact Below.refl _ _ | with_reducible assumption | with_reducible apply Below.drew | with_reducible apply below_drewN | (with_reducible apply below_setp; (first | omega | (simp <;> omega))) | (with_reducible apply below_allocp; (first | omega | (simp <;> omega))) | (with_reducible refine below_viap (by assumption) ?_ ?_; (first | omega | (simp <;> omega)))))⟩
  case round =>
    clear howl hb1 hz1'
    obtain ⟨k, rfl, hk, hown, howl, hap, hbel⟩ := hrel
    by_cases hlt : k < F.length
    · obtain ⟨g, rfl, hg2, d1⟩ := own_elemI howl hlt
      have hft := foldl_take (g := addD) hlt
      have hPl : ((F.take k).foldl addD []).length ≤ 900000 := by have := fold_len (F.take k) []; simp at this; omega
      obtain ⟨f, hf⟩ : ∃ f, F[k] = f := ⟨_, rfl⟩
      rw [hf] at d1 hft
      generalize hP : (F.take k).foldl addD [] = P at *
      have hz := hbel.size
      obtain ⟨b2, c2, rfl⟩ := own_shape hown
      by_cases hnil : P.length = 0
      · have hP0 : P = [] := List.eq_nil_of_length_eq_zero hnil
        subst hP0
        have hx := Lib.hid (hft.trans (show addD [] f = [] ++ [f] by simp [addD]))
        clear hft hf hP
        go_wp2_with (at_builtin; refine wpList_append_own_at _ rfl (.tmp 27) (.tmp 29) 29 rfl w.heap.size 3 i0 _ 1 8 Try.underlying29 hi hz0 hz1 hz2 rfl (by decide) (.slice b2 0 c2) 0 [] rfl ?_ ⟨wr.heap.size, 0, none⟩ 1 1 [.int .i64 f] rfl rfl ?_ (one1 _) ?_ ?_ ?_ ?_; exact own_alloc hown; exact cells1 (Blk.new _ _ _); (unfold maxLen; omega); omega; (simp; omega); intro x2 w2 hown2 hg3 _ hloc)
        have hb2 : Below w.heap.size w w2 := below_grown (own_ge hown) (by simp; omega) hg3 (by repeat (first | with_reducible exact Below.refl _ _ | with_reducible assumption | with_reducible apply Below.drew | with_reducible apply below_drewN | (with_reducible apply below_setp; (first | omega | (simp <;> omega))) | (with_reducible apply below_allocp; (first | omega | (simp <;> omega))) | (with_reducible refine below_viap (by assumption) ?_ ?_; (first | omega | (simp <;> omega)))))
        have ho2 : w2.ownsRow w.heap.size 3 1 x2 ((F.take (k + 1)).foldl addD []).length (cellsI ((F.take (k + 1)).foldl addD [])) := own_snocI hx.out hown2
        have hol1 : (wr.alloc (Obj.cells #[Value.int IntKind.i64 f] 3)).ownsRow B 3 1 (.slice (some ⟨g, 0, none⟩) F.length cap) F.length (cellsI F) := own_alloc howl
        have hol2 := hol1.kept hg3 hap
        have hap2 := apart_next hap hol1 (Nat.le_refl _) hloc
        clear hg3 hown2 hown hbel howl hap hol1 hloc
        go_wp2
        go_roundw
        case rel => exact ⟨k + 1, rfl, hlt, ho2, hol2, hap2, hb2⟩
        case measure => simp [intOf]; omega
      · obtain ⟨gP, rfl, hg3, c1⟩ := own_elemI hown (k := P.length - 1) (by omega)
        obtain ⟨y, hy⟩ : ∃ y, P[P.length - 1]'(by omega) = y := ⟨_, rfl⟩
        rw [hy] at c1
        have hlast : P.getLast? = some y := by
          rw [List.getLast?_eq_getElem?, List.getElem?_eq_getElem (by omega), hy]
        have hn1 : 1 ≤ P.length := by omega
        by_cases he : y = f
        · have e1 : (y != f) = false := by rw [bne_eq_false_iff_eq]; exact he
          have hx := Lib.hid (hft.trans (show addD P f = P by unfold addD; rw [hlast, he, if_pos rfl]))
          clear hft hf hP he hlast hy
          go_wp2
          go_roundw
          case rel => exact ⟨k + 1, rfl, hlt, by rw [hx.out]; exact hown, howl, hap, hbel⟩
          case measure => simp [intOf]; omega
        · have e1 : (y != f) = true := by rw [bne_iff_ne]; exact he
          have hx := Lib.hid (hft.trans (show addD P f = P ++ [f] by unfold addD; rw [hlast, if_neg (by simpa using he)]))
          clear hft hf hP he hlast hy
          go_wp2_with (at_builtin; refine wpList_append_own_at _ rfl (.tmp 27) (.tmp 29) 29 rfl w.heap.size 3 i0 _ 1 8 Try.underlying29 hi hz0 hz1 hz2 rfl (by decide) (.slice (some ⟨gP, 0, none⟩) P.length c2) P.length (cellsI P) rfl ?_ ⟨wr.heap.size, 0, none⟩ 1 1 [.int .i64 f] rfl rfl ?_ (one1 _) ?_ ?_ ?_ ?_; exact own_alloc hown; exact cells1 (Blk.new _ _ _); (unfold maxLen; omega); omega; (simp; omega); intro x2 w2 hown2 hg3 _ hloc)
          have hb2 : Below w.heap.size w w2 := below_grown (own_ge hown) (by simp; omega) hg3 (by repeat (first | with_reducible exact Below.refl _ _ | with_reducible assumption | with_reducible apply Below.drew | with_reducible apply below_drewN | (with_reducible apply below_setp; (first | omega | (simp <;> omega))) | (with_reducible apply below_allocp; (first | omega | (simp <;> omega))) | (with_reducible refine below_viap (by assumption) ?_ ?_; (first | omega | (simp <;> omega)))))
          have ho2 : w2.ownsRow w.heap.size 3 1 x2 ((F.take (k + 1)).foldl addD []).length (cellsI ((F.take (k + 1)).foldl addD [])) := own_snocI hx.out hown2
          have hol1 : (wr.alloc (Obj.cells #[Value.int IntKind.i64 f] 3)).ownsRow B 3 1 (.slice (some ⟨g, 0, none⟩) F.length cap) F.length (cellsI F) := own_alloc howl
          have hol2 := hol1.kept hg3 hap
          have hap2 := apart_next hap hol1 (Nat.le_refl _) hloc
          clear hg3 hown2 hown hbel howl hap hol1 hloc
          go_wp2
          go_roundw
          case rel => exact ⟨k + 1, rfl, hlt, ho2, hol2, hap2, hb2⟩
          case measure => simp [intOf]; omega
    · have e : k = F.length := by omega
      have hx : (F.take k).foldl addD [] = F.foldl addD [] := by rw [e, List.take_length]
      have Hx := Lib.hid hx
      clear hx
      subst e
      go_wp2
      go_ret
      exact ⟨_, rfl, by rw [← Hx.out]; exact hown, hbel⟩

set_option maxRecDepth 100000 in
set_option maxHeartbeats 3200000 in
theorem nuPrimes_any (n : Int) (w : World) (h1 : 1 ≤ n) (h2 : n ≤ 64000000) : Calls Try.prog 47 #[.int .i64 n] w (RetI (prims n) w) := by
  have hl : (facL n).length ≤ 900000 := by have := facL_len n (by omega); omega
  have hF := Lib.hid (fun w => nuFactors_any n w h1 (by omega))
  rw [← prims_eq h1]
  generalize facL n = F at *
  go_enter Try.func47, Try.ntmps47
  go_wp2_with (go_at_call 70; refine (hF.out _).mono ?_; rintro e w1 ⟨vl, rfl, howl, hb1⟩; obtain ⟨base, cap, rfl⟩ := own_shape howl)
  obtain ⟨B, hB⟩ : ∃ B : Nat, B = w.heap.size := ⟨_, rfl⟩
  rw [← hB] at howl
  have hz1' := hb1.size
  go_loopw [3, 9] (fun v i wr => IntSt putI F B (.slice base F.length cap) w v i wr) (fun _ i _ => F.length - (intOf i).toNat)
  case atStart => exact ⟨0, rfl, Nat.zero_le _, World.ownsRow_nil _ _ _ _, howl, apart_nil, (by repeat (first | with_reducible exact Below.refl _ _ | with_reducible assumption | with_reducible apply Below.drew | with_reducible apply below_drewN | (with_reducible apply below_setp; (first | omega | (simp <;> omega))) | (with_reducible apply below_allocp; (first | omega | (simp <;> omega))) | (with_reducible refine below_viap (by assumption) ?_ ?_; (first | omega | (simp <;> omega)))))⟩
  case round =>
    clear howl hb1 hz1'
    obtain ⟨k, rfl, hk, hown, howl, hap, hbel⟩ := hrel
    by_cases hlt : k < F.length
    · obtain ⟨g, rfl, hg2, d1⟩ := own_elemI howl hlt
      have hft := foldl_take (g := putI) hlt
      have hPl : ((F.take k).foldl putI []).length ≤ 1000000 := by have := foldp_len (F.take k) []; simp at this; omega
      obtain ⟨f, hf⟩ : ∃ f, F[k] = f := ⟨_, rfl⟩
      rw [hf] at d1 hft
      generalize hP : (F.take k).foldl putI [] = P at *
      have hz := hbel.size
      have hc := Lib.hid (l1Put_any _ w.heap.size P f wr hPl hz hown)
      have hx := Lib.hid hft
      clear hft hf hP
      go_wp2_with (go_at_call 71; refine hc.out.mono ?_; rintro e w2 ⟨x2, rfl, hown2, hbk, hb2⟩)
      have hol2 := own_call hb2 howl
      have hap2 : Apart x2 (.slice (some ⟨g, 0, none⟩) F.length cap) := by
        unfold Apart
        refine .inr (fun he => ?_)
        rcases hbk g (by rw [← he]; rfl) with h | h
        · unfold Apart at hap
          rcases hap with h3 | h3
          · simp [Value.ownBlock] at h3
          · exact h3 (by rw [h]; rfl)
        · omega
      have hbel2 : Below w.heap.size w w2 := (by repeat (first | with_reducible exact Below.refl _ _ | with_reducible assumption | with_reducible apply Below.drew | with_reducible apply below_drewN | (with_reducible apply below_setp; (first | omega | (simp <;> omega))) | (with_reducible apply below_allocp; (first | omega | (simp <;> omega))) | (with_reducible refine below_viap (by assumption) ?_ ?_; (first | omega | (simp <;> omega)))))
      clear hown hbel howl hap hc hbk
      go_wp2
      go_roundw
      case rel => exact ⟨k + 1, rfl, hlt, by rw [hx.out]; exact hown2, hol2, hap2, hbel2⟩
      case measure => simp [intOf]; omega
    · have e : k = F.length := by omega
      have hx : (F.take k).foldl putI [] = F.foldl putI [] := by rw [e, List.take_length]
      have Hx := Lib.hid hx
      clear hx
      subst e
      go_wp2
      go_ret
      exact ⟨_, rfl, by rw [← Hx.out]; exact hown, hbel⟩
end Go.Proofs.Ytdhennlanngjgaa
