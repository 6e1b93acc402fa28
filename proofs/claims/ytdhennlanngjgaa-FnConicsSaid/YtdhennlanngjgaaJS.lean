/- Contracts: the places where the symbol of two numbers is -1, of the program. -/
import Derived.Test.YtdhennlanngjgaaJR
namespace Go.Proofs.Ytdhennlanngjgaa
open Go.RowKit

set_option maxRecDepth 100000 in
set_option maxHeartbeats 1600000 in
theorem areOther_any (b n cap : Nat) (xs : List Int) (w : World) (hn : xs.length = n) (hs : n ≤ 1000) (hx : ∀ x ∈ xs, x ≠ 0 ∧ -1000000 ≤ x ∧ x ≤ 1000000) (hc : ∀ j, j < n → w.cell? ⟨b, j, none⟩ = some (.int .i64 (xs.getD j 0))) :
    Calls Try.prog 23 #[.slice (some ⟨b, 0, none⟩) n cap] w fun e w' => e = .returned (.bool true) ∧ w = w' := by
  have hall : xs.all isNum = true := by
    rw [List.all_eq_true]
    intro x h
    obtain ⟨_, h1, h2⟩ := hx x h
    exact (isNum_iff x).2 ⟨h1, h2⟩
  have hN := Lib.hid (fun w (hc : ∀ j, j < n → w.cell? ⟨b, j, none⟩ = some (.int .i64 (xs.getD j 0))) => areNumbers_any b n cap xs w hn (by omega) hc)
  rw [hall] at hN
  have Hc := Lib.hid hc
  have Hx := Lib.hid (fun k (hk : k < n) => (by
    have hl : k < xs.length := by omega
    rw [List.getD_eq_getElem?_getD, List.getElem?_eq_getElem hl]
    exact (hx _ (List.getElem_mem hl)).1 : xs.getD k 0 ≠ 0))
  clear hall hn hc hx
  go_enter Try.func23, Try.ntmps23
  go_wp2
  go_loop [7] (fun i => ∃ k : Nat, k ≤ n ∧ i = .int .i64 k) (fun i => n - (intOf i).toNat)
  case atStart => exact ⟨0, Nat.zero_le _, rfl⟩
  case round =>
    obtain ⟨k, hk, rfl⟩ := hrel
    by_cases hlt : k < n
    · have hcell := Hc.out k hlt
      have hne := Hx.out k hlt
      generalize xs.getD k 0 = x at hcell hne
      have hx0 : (x == 0) = false := by rw [beq_eq_false_iff_ne]; exact hne
      clear hne
      go_wp2
      go_round
      case rel => exact ⟨k + 1, hlt, by go_num⟩
      case measure => simp [intOf]; omega
    · have e : k = n := by omega
      subst e
      go_wp2_with (go_at_call 38; (with_reducible refine (hN.out _ Hc.out).mono ?_); rintro e v ⟨rfl, rfl⟩)
      go_ret
      exact ⟨rfl, rfl⟩

set_option maxHeartbeats 1600000 in
theorem spFn_any (x a b : Int) (A B : Nat) (w : World) (h : HbD a b x) (hA : w.cell? ⟨A, 0, none⟩ = some (.int .i64 a)) (hB : w.cell? ⟨B, 0, none⟩ = some (.int .i64 b)) :
    Calls Try.prog 26 #[.int .i64 x, .pointer (some ⟨A, 0, none⟩), .pointer (some ⟨B, 0, none⟩)] w fun e w' => e = .returned (.bool (decide (hlS a b x < 0))) ∧ w = w' := by
  have hH := Lib.hid (fun w => hilbert_any a b x w h)
  clear h
  generalize hlS a b x = s at *
  by_cases q : s < 0
  · have d := decide_eq_true q
    rw [d]
    clear q
    go_enter Try.func26, Try.ntmps26
    go_wp2_with (go_at_call 27; (with_reducible refine (hH.out _).mono ?_); rintro e v ⟨rfl, rfl⟩)
    go_ret
    exact ⟨rfl, rfl⟩
  · have d := decide_eq_false q
    rw [d]
    clear q
    go_enter Try.func26, Try.ntmps26
    go_wp2_with (go_at_call 27; (with_reducible refine (hH.out _).mono ?_); rintro e v ⟨rfl, rfl⟩)
    go_ret
    exact ⟨rfl, rfl⟩
theorem filt_take {p : Int → Bool} {L : List Int} {k : Nat} (h : k < L.length) : (L.take (k + 1)).filter p = (L.take k).filter p ++ if p L[k] then [L[k]] else [] := by
  rw [List.take_succ_eq_append_getElem h, List.filter_append]
  congr 1
  cases hp : p L[k] <;> simp [hp]
theorem filt_len {p : Int → Bool} {L : List Int} (k : Nat) (h : L.length ≤ 1000000) : ((L.take k).filter p).length ≤ 1000000 := by
  have h1 := List.length_filter_le p (L.take k)
  have h2 : (L.take k).length ≤ L.length := by rw [List.length_take]; omega
  omega

set_option maxRecDepth 100000 in
set_option maxHeartbeats 3200000 in
theorem placesLike_any (vl pa pb : Value) (B0 : Nat) (L : List Int) (p : Int → Bool) (w : World) (hl : L.length ≤ 1000000) (ho : w.ownsRow B0 3 1 vl L.length (cellsI L))
    (hcall : ∀ x ∈ L, ∀ w', Below w.heap.size w w' → Calls Try.prog 26 #[.int .i64 x, pa, pb] w' fun e w'' => e = .returned (.bool (p x)) ∧ w' = w'') :
    Calls Try.prog 24 #[vl, .func (.func 26) #[] #[pa, pb]] w (RetI (L.filter p) w) := by
  obtain ⟨i0, hi, hz0, hz1, hz2⟩ := info_parts infoInt
  obtain ⟨base, cap, rfl⟩ := own_shape ho
  have HO := Lib.hid ho
  have Hc := Lib.hid hcall
  clear hcall ho
  obtain ⟨n, hn⟩ : ∃ n, L.length = n := ⟨_, rfl⟩
  have Hn := Lib.hid hn
  rw [hn]
  clear hn
  go_enter Try.func24, Try.ntmps24
  go_wp2
  have hb0 : Below w.heap.size w (w.alloc (.cells #[] 3)) := (by repeat (first | with_reducible exact Below.refl _ _ | with_reducible assumption | with_reducible apply Below.drew | with_reducible apply below_drewN | (with_reducible apply below_setp; (first | omega | (simp <;> omega))) | (with_reducible apply below_allocp; (first | omega | (simp <;> omega))) | (with_reducible refine below_viap (by assumption) ?_ ?_; (first | omega | (simp <;> omega)))))
  go_loopw [5, 11] (fun v i wr => ∃ k : Nat, i = .int .i64 k ∧ k ≤ n ∧ wr.ownsRow w.heap.size 3 1 v ((L.take k).filter p).length (cellsI ((L.take k).filter p)) ∧ Below w.heap.size w wr) (fun _ i _ => n - (intOf i).toNat)
  case atStart => exact ⟨0, rfl, Nat.zero_le _, own_empty (Nat.le_refl _), hb0⟩
  case round =>
    clear hb0
    obtain ⟨k, rfl, hk, hown, hbel⟩ := hrel
    have hz := hbel.size
    by_cases hlt : k < n
    · have hlk : k < L.length := by rw [Hn.out]; exact hlt
      obtain ⟨g, rfl, hg2, d1⟩ := own_elemI (own_call hbel HO.out) hlk
      have Hft := Lib.hid (filt_take (p := p) hlk)
      have Hfm := Lib.hid (List.getElem_mem hlk)
      have hlf := filt_len (p := p) k hl
      generalize L[k] = x at d1 Hft Hfm
      cases hp : p x with
      | true =>
        have hx := Lib.hid (Hft.out.trans (by rw [if_pos hp]))
        have hC := Lib.hid (fun w' h => Hc.out x Hfm.out w' h)
        rw [hp] at hC
        clear hp Hft
        obtain ⟨Q, hQ⟩ : ∃ Q, (L.take k).filter p = Q := ⟨_, rfl⟩
        rw [hQ] at hx hown hlf
        clear hQ
        go_wp2_with (first
          | (go_at_call 26; refine (hC.out _ (by repeat (first | with_reducible exact Below.refl _ _ | with_reducible assumption | with_reducible apply Below.drew | with_reducible apply below_drewN | (with_reducible apply below_setp; (first | omega | (simp <;> omega))) | (with_reducible apply below_allocp; (first | omega | (simp <;> omega))) | (with_reducible refine below_viap (by assumption) ?_ ?_; (first | omega | (simp <;> omega)))))).mono ?_; rintro e v ⟨rfl, rfl⟩)
          | (at_builtin; refine wpList_append_own_at _ rfl (.tmp 18) (.tmp 20) 29 rfl w.heap.size 3 i0 _ 1 8 Try.underlying29 hi hz0 hz1 hz2 rfl (by decide) u5 Q.length (cellsI Q) rfl ?_ ⟨wr.heap.size, 0, none⟩ 1 1 [.int .i64 x] rfl rfl ?_ (one1 _) ?_ ?_ ?_ ?_; exact own_alloc hown; exact cells1 (Blk.new _ _ _); (unfold maxLen; omega); omega; (simp; omega); intro x2 w2 hown2 hg3 _ hloc))
        have hb2 : Below w.heap.size w w2 := below_grown (own_ge hown) (by simp; omega) hg3 (by repeat (first | with_reducible exact Below.refl _ _ | with_reducible assumption | with_reducible apply Below.drew | with_reducible apply below_drewN | (with_reducible apply below_setp; (first | omega | (simp <;> omega))) | (with_reducible apply below_allocp; (first | omega | (simp <;> omega))) | (with_reducible refine below_viap (by assumption) ?_ ?_; (first | omega | (simp <;> omega)))))
        have ho2 := own_snocI hx.out hown2
        clear hg3 hown2 hown hbel hloc
        go_wp2
        go_roundw
        case rel => exact ⟨k + 1, rfl, hlt, ho2, hb2⟩
        case measure => simp [intOf]; omega
      | false =>
        have hx := Lib.hid (Hft.out.trans (by rw [if_neg (by rw [hp]; decide), List.append_nil]))
        have hC := Lib.hid (fun w' h => Hc.out x Hfm.out w' h)
        rw [hp] at hC
        clear hp Hft
        go_wp2_with (go_at_call 26; refine (hC.out _ (by repeat (first | with_reducible exact Below.refl _ _ | with_reducible assumption | with_reducible apply Below.drew | with_reducible apply below_drewN | (with_reducible apply below_setp; (first | omega | (simp <;> omega))) | (with_reducible apply below_allocp; (first | omega | (simp <;> omega))) | (with_reducible refine below_viap (by assumption) ?_ ?_; (first | omega | (simp <;> omega)))))).mono ?_; rintro e v ⟨rfl, rfl⟩)
        go_roundw
        case rel => exact ⟨k + 1, rfl, hlt, by rw [hx.out]; exact hown, hbel⟩
        case measure => simp [intOf]; omega
    · have e : k = n := by omega
      have hx : (L.take k).filter p = L.filter p := by rw [List.take_of_length_le]; rw [Hn.out]; omega
      have Hx := Lib.hid hx
      clear hx
      subst e
      go_wp2
      go_ret
      exact ⟨_, rfl, by rw [← Hx.out]; exact hown, hbel⟩

/-- The places where the symbol is -1. -/
noncomputable def spL (a b : Int) (K : List Int) : List Int := K.filter fun x => decide (hlS a b x < 0)
/-- What SymbolPlaces gives. -/
def RetSp (a b : Int) (w : World) (e : Ending) (w' : World) : Prop := ∃ (K : List Int) (v : Value), K.Pairwise (· < ·) ∧ (∀ x, x ∈ K ↔ (x = 0 ∨ x = 2) ∨ ∃ n ∈ [a, b], x ∈ prims (n.natAbs : Int)) ∧ e = .returned (.tuple #[v, .bool true]) ∧ w'.ownsRow w.heap.size 3 1 v (spL a b K).length (cellsI (spL a b K)) ∧ Below w.heap.size w w'
theorem own_lit2 {w : World} {b : Nat} (x y : Int) (hb : b = w.heap.size) : ∀ j, j < 2 → (w.alloc (.cells #[.int .i64 x, .int .i64 y] 3)).cell? ⟨b, j, none⟩ = some (.int .i64 ([x, y].getD j 0)) := by
  subst hb
  intro j hj
  have h : Blk (w.alloc (.cells #[.int .i64 x, .int .i64 y] 3)) w.heap.size 3 #[.int .i64 x, .int .i64 y] := Blk.new _ _ _
  rw [h.cell]
  match j, hj with
  | 0, _ => rfl
  | 1, _ => rfl

set_option maxRecDepth 100000 in
set_option maxHeartbeats 6400000 in
theorem symPl_any (a b : Int) (w : World) (a0 : a ≠ 0) (a1 : -160000 ≤ a ∧ a ≤ 160000) (b0 : b ≠ 0) (b1 : -160000 ≤ b ∧ b ≤ 160000) :
    Calls Try.prog 8 #[.int .i64 a, .int .i64 b] w (RetSp a b w) := by
  have hmf : ∀ (fn : Fn) (first cap : Array Value) (w : World), (Instr.makeFunc fn first cap).run Try.prog w = .ok (.func fn first cap) w := fun _ _ _ _ => rfl
  have hx : ∀ x ∈ [a, b], x ≠ 0 ∧ -160000 ≤ x ∧ x ≤ 160000 := by
    intro x hx
    simp only [List.mem_cons, List.not_mem_nil, or_false] at hx
    rcases hx with rfl | rfl
    · exact ⟨a0, a1⟩
    · exact ⟨b0, b1⟩
  have hO := Lib.hid (fun C w (hc : ∀ j, j < 2 → w.cell? ⟨C, j, none⟩ = some (.int .i64 ([a, b].getD j 0))) => areOther_any C 2 2 [a, b] w rfl (by omega) (fun x h => by obtain ⟨h1, h2⟩ := hx x h; exact ⟨h1, by omega⟩) hc)
  have hP := Lib.hid (fun C w (hC : C < w.heap.size) (hc : ∀ j (h : j < [a, b].length), w.cell? ⟨C, j, none⟩ = some (.int .i64 [a, b][j])) => placesOf_any C 2 2 [a, b] w hC rfl (by omega) hc (fun x h => by obtain ⟨h1, h2⟩ := hx x h; exact ⟨h1, by omega⟩))
  have hHb := Lib.hid (fun (K : List Int) (hm : ∀ x, x ∈ K ↔ (x = 0 ∨ x = 2) ∨ ∃ n ∈ [a, b], x ∈ prims (n.natAbs : Int)) x (h : x ∈ K) => (by
    refine ⟨a0, b0, by omega, by omega, ?_⟩
    rcases (hm x).1 h with (h | h) | ⟨n, hn, h⟩
    · exact .inl h
    · subst h; exact .inr ⟨pr_two, by omega⟩
    · obtain ⟨n0, n1⟩ := hx n hn
      have h1 := (mem_prims (n := (n.natAbs : Int)) (by omega) (by omega)).1 h
      exact .inr ⟨h1.1, by have := Int.le_of_dvd (by omega) h1.2; omega⟩ : HbD a b x))
  have hKl := Lib.hid (fun (K : List Int) (hk : K.Pairwise (· < ·)) (hm : ∀ x, x ∈ K ↔ (x = 0 ∨ x = 2) ∨ ∃ n ∈ [a, b], x ∈ prims (n.natAbs : Int)) => (by
    have hnd : K.Nodup := hk.imp (fun h => Int.ne_of_lt h)
    have hsub : K ⊆ pkL [a, b] := fun x h => pk_mem.2 ((hm x).1 h)
    have h1 := hnd.length_le_of_subset hsub
    have h2 := pk_len (xs := [a, b]) (fun x h => by obtain ⟨h1, h2⟩ := hx x h; exact ⟨h1, by omega⟩)
    simp at h2
    omega : K.length ≤ 1000000))
  clear hx a0 a1 b0 b1
  go_enter Try.func8, Try.ntmps8
  go_wp2_with fail
  refine (hO.out (w.heap.size + 1 + 1) _ ?_).mono ?_
  · exact own_lit2 a b (by simp)
  rintro e v ⟨rfl, rfl⟩
  have hA3 : Blk (((w.alloc (.cells #[.int .i64 a] 3)).alloc (.cells #[.int .i64 b] 3)).alloc (.cells #[.int .i64 a, .int .i64 b] 3)) w.heap.size 3 #[.int .i64 a] := by (repeat (first | with_reducible assumption | (with_reducible apply Blk.new_at; (first | rfl | (simp; done))) | with_reducible apply Blk.store3 | with_reducible apply Blk.store4 | (with_reducible apply Blk.farp; (first | omega | (simp <;> omega))) | with_reducible apply Blk.allocp | with_reducible apply Blk.drew | with_reducible apply Blk.drewN))
  have hB3 : Blk (((w.alloc (.cells #[.int .i64 a] 3)).alloc (.cells #[.int .i64 b] 3)).alloc (.cells #[.int .i64 a, .int .i64 b] 3)) (w.heap.size + 1) 3 #[.int .i64 b] := by (repeat (first | with_reducible assumption | (with_reducible apply Blk.new_at; (first | rfl | (simp; done))) | with_reducible apply Blk.store3 | with_reducible apply Blk.store4 | (with_reducible apply Blk.farp; (first | omega | (simp <;> omega))) | with_reducible apply Blk.allocp | with_reducible apply Blk.drew | with_reducible apply Blk.drewN))
  have hb3 : Below w.heap.size w (((w.alloc (.cells #[.int .i64 a] 3)).alloc (.cells #[.int .i64 b] 3)).alloc (.cells #[.int .i64 a, .int .i64 b] 3)) := (by repeat (first | with_reducible exact Below.refl _ _ | with_reducible assumption | with_reducible apply Below.drew | with_reducible apply below_drewN | (with_reducible apply below_setp; (first | omega | (simp <;> omega))) | (with_reducible apply below_allocp; (first | omega | (simp <;> omega))) | (with_reducible refine below_viap (by assumption) ?_ ?_; (first | omega | (simp <;> omega)))))
  have hz3 : (((w.alloc (.cells #[.int .i64 a] 3)).alloc (.cells #[.int .i64 b] 3)).alloc (.cells #[.int .i64 a, .int .i64 b] 3)).heap.size = w.heap.size + 1 + 1 + 1 := by simp
  generalize (((w.alloc (.cells #[.int .i64 a] 3)).alloc (.cells #[.int .i64 b] 3)).alloc (.cells #[.int .i64 a, .int .i64 b] 3)) = w3 at *
  have cA3 := hA3.cell; have fA3 := hA3.frozen; have lA3 := hA3.lt
  have cB3 := hB3.cell; have fB3 := hB3.frozen; have lB3 := hB3.lt
  go_wp2_with fail
  refine (hP.out (w.heap.size + 1 + 1 + 1) _ ?_ ?_).mono ?_
  · simp; omega
  · intro j hj
    have h2 := own_lit2 (w := w3) a b hz3.symm j hj
    match j, hj with
    | 0, _ => exact h2
    | 1, _ => exact h2
  rintro e v4 ⟨K, hK1, hK2, vk, rfl, hok, hB4⟩
  have hZ4 := hB4.size
  simp at hZ4
  obtain ⟨base, cap, rfl⟩ := own_shape hok
  have hA4 : Blk v4 w.heap.size 3 #[.int .i64 a] := Blk.call (by (repeat (first | with_reducible assumption | (with_reducible apply Blk.new_at; (first | rfl | (simp; done))) | with_reducible apply Blk.store3 | with_reducible apply Blk.store4 | (with_reducible apply Blk.farp; (first | omega | (simp <;> omega))) | with_reducible apply Blk.allocp | with_reducible apply Blk.drew | with_reducible apply Blk.drewN))) hB4
  have hB4' : Blk v4 (w.heap.size + 1) 3 #[.int .i64 b] := Blk.call (by (repeat (first | with_reducible assumption | (with_reducible apply Blk.new_at; (first | rfl | (simp; done))) | with_reducible apply Blk.store3 | with_reducible apply Blk.store4 | (with_reducible apply Blk.farp; (first | omega | (simp <;> omega))) | with_reducible apply Blk.allocp | with_reducible apply Blk.drew | with_reducible apply Blk.drewN))) hB4
  have hb4 : Below w.heap.size w v4 := below_via (show Below w.heap.size w _ from (by repeat (first | with_reducible exact Below.refl _ _ | with_reducible assumption | with_reducible apply Below.drew | with_reducible apply below_drewN | (with_reducible apply below_setp; (first | omega | (simp <;> omega))) | (with_reducible apply below_allocp; (first | omega | (simp <;> omega))) | (with_reducible refine below_viap (by assumption) ?_ ?_; (first | omega | (simp <;> omega)))))) hB4 (by simp; omega)
  have hL := Lib.hid (fun w' (h : Below v4.heap.size v4 w') x (hx : x ∈ K) => spFn_any x a b w.heap.size (w.heap.size + 1) w' (hHb.out K hK2 x hx) ((Blk.call hA4 h).cell 0) ((Blk.call hB4' h).cell 0))
  have hKl2 := hKl.out K hK1 hK2
  have cA4 := hA4.cell; have fA4 := hA4.frozen; have lA4 := hA4.lt
  have cB4 := hB4'.cell; have fB4 := hB4'.frozen; have lB4 := hB4'.lt
  clear hB4 hA3 hB3 cA3 fA3 lA3 cB3 fB3 lB3 hb3
  go_wp2_with fail
  refine (placesLike_any _ _ _ _ K (fun x => decide (hlS a b x < 0)) _ hKl2 hok (fun x hx w' h => hL.out w' h x hx)).mono ?_
  rintro e v5 ⟨vl, rfl, ho5, hB5⟩
  go_wp2
  go_ret2
  exact ⟨K, vl, hK1, hK2, rfl, own_base (by omega) ho5, below_via hb4 hB5 (by omega)⟩
end Go.Proofs.Ytdhennlanngjgaa
