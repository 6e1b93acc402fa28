/- Contracts: the assigned characters. -/
import Derived.Test.YtononfokhdmofaaN8
namespace Go.Proofs.Ytononfokhdmofaa
open Go.RowKit

def cellsC (L : List (Int × Int)) : List Value := L.flatMap fun s => [.int .i64 s.1, .int .i64 s.2]
theorem cellsC_append (L K : List (Int × Int)) : cellsC (L ++ K) = cellsC L ++ cellsC K := by simp [cellsC]
theorem cellsC_get : ∀ (L : List (Int × Int)) (i : Nat) (h : i < L.length), (cellsC L)[2 * i]? = some (.int .i64 L[i].1) ∧ (cellsC L)[2 * i + 1]? = some (.int .i64 L[i].2)
  | f :: L, 0, _ => by simp [cellsC]
  | f :: L, i + 1, h => by
    have ih := cellsC_get L i (by simpa using h)
    have e : cellsC (f :: L) = .int .i64 f.1 :: .int .i64 f.2 :: cellsC L := by simp [cellsC]
    rw [e, show 2 * (i + 1) = 2 * i + 2 by omega]
    simpa using ih
theorem infoChar : (Try.prog.info? 119).map (fun i => (i.zero, i.size, i.bytes)) = some (some (.agg #[.int .i64 0, .int .i64 0]), 2, 16) := by kernel_rfl
theorem cellsB {w : World} {g : Nat} {t : TypeId} {cs : Array Value} (h : Blk w g t cs) : ∀ j u, cs.toList[j]? = some u → w.cell? ((⟨g, 0, none⟩ : Addr).add j) = some u := by
  intro j u hu
  have e : (⟨g, 0, none⟩ : Addr).add j = ⟨g, j, none⟩ := by unfold Addr.add; split <;> simp_all
  rw [e, h.cell j]
  simpa using hu
theorem one4 (x y z u : Int) : ∀ q ∈ ([.int .i64 x, .int .i64 y, .int .i64 z, .int .i64 u] : List Value), q.oneCell' = true := by
  intro q hq; simp at hq; rcases hq with rfl | rfl | rfl | rfl <;> rfl
/-- The element k of an owned list of characters. -/
theorem own_elemC {w : World} {B : Nat} {e : TypeId} {base : Option Addr} {n cap : Nat} {L : List (Int × Int)} (h : w.ownsRow B e 2 (.slice base n cap) L.length (cellsC L)) {k : Nat} (hk : k < L.length) :
    ∃ g, base = some ⟨g, 0, none⟩ ∧ g < w.heap.size ∧ w.cell? ⟨g, k * 2, none⟩ = some (.int .i64 L[k].1) ∧ w.cell? ⟨g, k * 2 + 1, none⟩ = some (.int .i64 L[k].2) := by
  rcases own_form h with ⟨hv, h0⟩ | ⟨g, c, hv, h1, h2, h3⟩
  · omega
  · injection hv with e1 e2 e3
    obtain ⟨c1, c2⟩ := cellsC_get L k hk
    rw [show k * 2 = 2 * k by omega]
    exact ⟨g, e1, h2, h3 _ _ c1, h3 _ _ c2⟩
def RetC (L : List (Int × Int)) (w : World) (e : Ending) (w' : World) : Prop := ∃ v, e = .returned v ∧ w'.ownsRow w.heap.size 119 2 v L.length (cellsC L) ∧ Below w.heap.size w w'

/-- The characters of odd primes. -/
def chP (P : List Int) : List (Int × Int) := (P.filter fun p => decide (2 < p)).map fun p => (1, p)
theorem chP_take {P : List Int} {k : Nat} (h : k < P.length) : chP (P.take (k + 1)) = chP (P.take k) ++ if 2 < P[k] then [(1, P[k])] else [] := by
  unfold chP
  rw [List.take_succ_eq_append_getElem h, List.filter_append, List.map_append]
  congr 1
  by_cases h2 : 2 < P[k] <;> simp [h2]
theorem chP_len (P : List Int) : (chP P).length ≤ P.length := by unfold chP; rw [List.length_map]; exact List.length_filter_le _ _
/-- The characters of two. -/
def tailC (m : Int) : List (Int × Int) := if m % 2 = 1 then [] else if m / 4 % 8 = 1 ∨ m / 4 % 8 = 5 ∨ m / 4 % 8 = 4 then [(2, 0)] else if m / 4 % 8 = 2 then [(4, 0)] else if m / 4 % 8 = 6 then [(3, 0)] else if m / 4 % 8 = 0 then [(2, 0), (3, 0)] else []
/-- The assigned characters of -m. -/
def chars (m : Int) : List (Int × Int) := chP (prims m) ++ tailC m
theorem prims_len (m : Int) (h : m ≤ 200000) : (prims m).length ≤ 900000 := by
  have h1 := fold_len (facL m) []
  have h2 := fac_len (4 * m + 20000).toNat false 2 m
  unfold prims; unfold facL at *; simp at h1; omega
theorem tailC_len (m : Int) : (tailC m).length ≤ 2 := by 
  unfold tailC
  repeat' split
  all_goals simp
theorem chars_len (m : Int) (h : m ≤ 200000) : (chars m).length ≤ 900002 := by
  have h1 := chP_len (prims m)
  have h2 := prims_len m h
  have h3 := tailC_len m
  unfold chars; rw [List.length_append]; omega
theorem chars_ok {m : Int} (h1 : 1 ≤ m) (h2 : m ≤ 200000) : ∀ x ∈ chars m, ChOK x := by
  intro x hx
  unfold chars at hx
  rw [List.mem_append] at hx
  rcases hx with hx | hx
  · unfold chP at hx
    simp only [List.mem_map, List.mem_filter, decide_eq_true_eq] at hx
    obtain ⟨p, ⟨hp, hp2⟩, rfl⟩ := hx
    obtain ⟨_, hpm, _⟩ := prims_mem h1 p hp
    exact .inl ⟨rfl, by simp only; omega, by simp only; omega, prims_odd h1 hp hp2⟩
  · unfold tailC at hx
    repeat' split at hx
    all_goals simp at hx
    all_goals unfold ChOK
    all_goals (try (rcases hx with rfl | rfl)) <;> simp_all

/-- The state of the loop. -/
def ChSt (P : List Int) (B : Nat) (vl : Value) (w : World) (v vi : Value) (wr : World) : Prop :=
  ∃ k : Nat, vi = .int .i64 k ∧ k ≤ P.length ∧ wr.ownsRow w.heap.size 119 2 v (chP (P.take k)).length (cellsC (chP (P.take k))) ∧ wr.ownsRow B 3 1 vl P.length (cellsI P) ∧ Apart v vl ∧ Below w.heap.size w wr
theorem own_snocC {w : World} {B : Nat} {e : TypeId} {v : Value} {L K : List (Int × Int)} {r s : Int} (hx : K = L ++ [(r, s)]) (h : w.ownsRow B e 2 v (L.length + 1) (cellsC L ++ [.int .i64 r, .int .i64 s])) :
    w.ownsRow B e 2 v K.length (cellsC K) := by
  subst hx
  rw [List.length_append, cellsC_append]
  exact h
theorem own_snocC2 {w : World} {B : Nat} {e : TypeId} {v : Value} {L K : List (Int × Int)} {r s p q : Int} (hx : K = L ++ [(r, s), (p, q)]) (h : w.ownsRow B e 2 v (L.length + 2) (cellsC L ++ [.int .i64 r, .int .i64 s, .int .i64 p, .int .i64 q])) :
    w.ownsRow B e 2 v K.length (cellsC K) := by
  subst hx
  rw [List.length_append, cellsC_append]
  exact h

set_option maxRecDepth 100000 in
set_option maxHeartbeats 6400000 in
theorem assigned_any (m : Int) (w : World) (h1 : 1 ≤ m) (h2 : m ≤ 200000) : Calls Try.prog 97 #[.int .i64 (-m)] w (RetC (chars m) w) := by
  obtain ⟨i0, hi, hz0, hz1, hz2⟩ := info_parts infoChar
  have hl := prims_len m h2
  have hF := Lib.hid (fun w => primesOf_any m w h1 h2)
  obtain ⟨K, hK⟩ : ∃ K, chars m = K := ⟨_, rfl⟩
  rw [hK]
  unfold chars at hK
  generalize prims m = P at *
  have HK := Lib.hid hK
  clear hK
  go_enter Try.func97, Try.ntmps97
  go_wp2_with (go_at_call 138; refine (hF.out _).mono ?_; rintro e w1 ⟨vl, rfl, howl, hb1⟩; obtain ⟨base, cap, rfl⟩ := own_shape howl)
  obtain ⟨B, hB⟩ : ∃ B : Nat, B = (w.alloc (.cells #[] 119)).heap.size := ⟨_, rfl⟩
  rw [← hB] at howl
  have hz1' := hb1.size
  go_loopw [3, 15] (fun v i wr => ChSt P B (.slice base P.length cap) w v i wr) (fun _ i _ => P.length - (intOf i).toNat)
  case atStart => exact ⟨0, rfl, Nat.zero_le _, own_call hb1 (own_empty (Nat.le_refl _)), howl, apart_below howl (by simp [hB]), (by repeat (first | with_reducible exact Below.refl _ _ | with_reducible assumption | with_reducible apply Below.drew | with_reducible apply below_drewN | (with_reducible apply below_setp; (first | omega | (simp <;> omega))) | (with_reducible apply below_allocp; (first | omega | (simp <;> omega))) | (with_reducible refine below_viap (by assumption) ?_ ?_; (first | omega | (simp <;> omega)))))⟩
  case round =>
    clear howl hb1 hz1'
    obtain ⟨k, rfl, hk, hown, howl, hap, hbel⟩ := hrel
    by_cases hlt : k < P.length
    · obtain ⟨g, rfl, hg2, d1⟩ := own_elemI howl hlt
      have hft := chP_take hlt
      have hPl : (chP (P.take k)).length ≤ 900000 := by have := chP_len (P.take k); rw [List.length_take] at this; omega
      obtain ⟨f, hf⟩ : ∃ f, P[k] = f := ⟨_, rfl⟩
      rw [hf] at d1 hft
      generalize hQ : chP (P.take k) = Q at *
      have hz := hbel.size
      by_cases h3 : 2 < f
      · have hx := Lib.hid (hft.trans (by rw [if_pos h3]))
        clear hft hf hQ
        go_wp2_with (at_builtin; refine wpList_append_own_at _ rfl (.tmp 21) (.tmp 24) 97 rfl w.heap.size 119 i0 _ 2 16 Try.underlying97 hi hz0 hz1 hz2 rfl (by decide) u3 Q.length (cellsC Q) rfl ?_ ⟨wr.heap.size, 0, none⟩ 1 1 [.int .i64 1, .int .i64 f] rfl rfl ?_ (one2 _ _) ?_ ?_ ?_ ?_; exact (by repeat (first | with_reducible assumption | with_reducible apply own_alloc | with_reducible apply own_drew | with_reducible apply own_drewN | (with_reducible refine own_setp (by assumption) ?_ ?_; (first | omega | (simp <;> omega))) | (with_reducible refine own_call (by assumption) ?_))); exact cellsB (Blk.new_at (by simp)); (unfold maxLen; omega); omega; (simp; omega); intro x2 w2 hown2 hg3 _ hloc)
        have hb2 : Below w.heap.size w w2 := below_grown (own_ge hown) (by simp; omega) hg3 (by repeat (first | with_reducible exact Below.refl _ _ | with_reducible assumption | with_reducible apply Below.drew | with_reducible apply below_drewN | (with_reducible apply below_setp; (first | omega | (simp <;> omega))) | (with_reducible apply below_allocp; (first | omega | (simp <;> omega))) | (with_reducible refine below_viap (by assumption) ?_ ?_; (first | omega | (simp <;> omega)))))
        have ho2 : w2.ownsRow w.heap.size 119 2 x2 (chP (P.take (k + 1))).length (cellsC (chP (P.take (k + 1)))) := own_snocC hx.out hown2
        have hol1 : (wr.alloc (Obj.cells #[Value.int IntKind.i64 1, Value.int IntKind.i64 f] 119)).ownsRow B 3 1 (.slice (some ⟨g, 0, none⟩) P.length cap) P.length (cellsI P) := own_alloc howl
        have hol2 := hol1.kept hg3 hap
        have hap2 := apart_next hap hol1 (Nat.le_refl _) hloc
        clear hg3 hown2 hown hbel howl hap hol1 hloc
        go_wp2
        go_roundw
        case rel => exact ⟨k + 1, rfl, hlt, ho2, hol2, hap2, hb2⟩
        case measure => simp [intOf]; omega
      · have hx := Lib.hid (hft.trans (by rw [if_neg h3, List.append_nil]))
        clear hft hf hQ
        go_wp2
        go_roundw
        case rel => exact ⟨k + 1, rfl, hlt, by rw [hx.out]; exact hown, howl, hap, hbel⟩
        case measure => simp [intOf]; omega
    · have e : k = P.length := by omega
      have hx : chP (P.take k) = chP P := by rw [e, List.take_length]
      rw [hx] at hown
      have hz := hbel.size
      have hPl := Nat.le_trans (chP_len P) hl
      clear hx howl hap
      subst e
      generalize chP P = Q at *
      by_cases hodd : m % 2 = 1
      · have e1 : (m.tmod 2 != 0) = true := by rw [bne_iff_ne, Int.tmod_eq_emod_of_nonneg (by omega)]; omega
        have e2 : (m % 2 != 0) = true := by rw [bne_iff_ne]; omega
        have hq := Lib.hid (show K = Q by rw [← HK.out]; unfold tailC; rw [if_pos hodd, List.append_nil])
        have e3 : ((-(m % 2)) != 0) = true := by rw [bne_iff_ne]; omega
        clear hodd
        go_wp2
        go_ret
        exact ⟨_, rfl, by rw [hq.out]; exact hown, hbel⟩
      · have e2 : m % 2 = 0 := by omega
        obtain ⟨n, hn⟩ : ∃ n, m / 4 = n := ⟨_, rfl⟩
        have hn0 : 0 ≤ n := by omega
        have hr : n % 8 = 0 ∨ n % 8 = 1 ∨ n % 8 = 2 ∨ n % 8 = 3 ∨ n % 8 = 4 ∨ n % 8 = 5 ∨ n % 8 = 6 ∨ n % 8 = 7 := by omega
        have hT : K = Q ++ (if n % 8 = 1 ∨ n % 8 = 5 ∨ n % 8 = 4 then [(2, 0)] else if n % 8 = 2 then [(4, 0)] else if n % 8 = 6 then [(3, 0)] else if n % 8 = 0 then [(2, 0), (3, 0)] else []) := by
          rw [← HK.out]; unfold tailC; rw [if_neg hodd, hn]
        clear hodd
        rcases hr with hr | hr | hr | hr | hr | hr | hr | hr
        · have hx := Lib.hid (show K = Q ++ [(2, 0), (3, 0)] by rw [hT, hr]; simp)
          have hr4 : n % 4 = 0 := by omega
          clear hT
          go_wp2_with (at_builtin; refine wpList_append_own_at _ rfl (.tmp 61) (.tmp 64) 97 rfl w.heap.size 119 i0 _ 2 16 Try.underlying97 hi hz0 hz1 hz2 rfl (by decide) u3 Q.length (cellsC Q) rfl ?_ ⟨wr.heap.size + 1 + 1 + 1, 0, none⟩ 2 2 [.int .i64 2, .int .i64 0, .int .i64 3, .int .i64 0] rfl rfl ?_ (one4 _ _ _ _) ?_ ?_ ?_ ?_; exact (by repeat (first | with_reducible assumption | with_reducible apply own_alloc | with_reducible apply own_drew | with_reducible apply own_drewN | (with_reducible refine own_setp (by assumption) ?_ ?_; (first | omega | (simp <;> omega))) | (with_reducible refine own_call (by assumption) ?_))); exact cellsB (Blk.new_at (by simp)); (unfold maxLen; omega); omega; (simp; omega); intro x2 w2 hown2 hg3 _ hloc)
          have hb2 : Below w.heap.size w w2 := below_grown (own_ge hown) (by simp; omega) hg3 (by repeat (first | with_reducible exact Below.refl _ _ | with_reducible assumption | with_reducible apply Below.drew | with_reducible apply below_drewN | (with_reducible apply below_setp; (first | omega | (simp <;> omega))) | (with_reducible apply below_allocp; (first | omega | (simp <;> omega))) | (with_reducible refine below_viap (by assumption) ?_ ?_; (first | omega | (simp <;> omega)))))
          have ho2 := own_snocC2 hx.out hown2
          clear hg3 hown2 hown hbel
          go_wp2
          go_ret
          exact ⟨_, rfl, ho2, hb2⟩
        · have hx := Lib.hid (show K = Q ++ [(2, 0)] by rw [hT, hr]; simp)
          have hr4 : n % 4 = 1 := by omega
          clear hT
          go_wp2_with (at_builtin; refine wpList_append_own_at _ rfl (.tmp 43) (.tmp 45) 97 rfl w.heap.size 119 i0 _ 2 16 Try.underlying97 hi hz0 hz1 hz2 rfl (by decide) u3 Q.length (cellsC Q) rfl ?_ ⟨wr.heap.size + 1 + 1 + 1, 0, none⟩ 1 1 [.int .i64 2, .int .i64 0] rfl rfl ?_ (one2 _ _) ?_ ?_ ?_ ?_; exact (by repeat (first | with_reducible assumption | with_reducible apply own_alloc | with_reducible apply own_drew | with_reducible apply own_drewN | (with_reducible refine own_setp (by assumption) ?_ ?_; (first | omega | (simp <;> omega))) | (with_reducible refine own_call (by assumption) ?_))); exact cellsB (Blk.new_at (by simp)); (unfold maxLen; omega); omega; (simp; omega); intro x2 w2 hown2 hg3 _ hloc)
          have hb2 : Below w.heap.size w w2 := below_grown (own_ge hown) (by simp; omega) hg3 (by repeat (first | with_reducible exact Below.refl _ _ | with_reducible assumption | with_reducible apply Below.drew | with_reducible apply below_drewN | (with_reducible apply below_setp; (first | omega | (simp <;> omega))) | (with_reducible apply below_allocp; (first | omega | (simp <;> omega))) | (with_reducible refine below_viap (by assumption) ?_ ?_; (first | omega | (simp <;> omega)))))
          have ho2 := own_snocC hx.out hown2
          clear hg3 hown2 hown hbel
          go_wp2
          go_ret
          exact ⟨_, rfl, ho2, hb2⟩
        · have hx := Lib.hid (show K = Q ++ [(4, 0)] by rw [hT, hr]; simp)
          have hr4 : n % 4 = 2 := by omega
          clear hT
          go_wp2_with (at_builtin; refine wpList_append_own_at _ rfl (.tmp 49) (.tmp 51) 97 rfl w.heap.size 119 i0 _ 2 16 Try.underlying97 hi hz0 hz1 hz2 rfl (by decide) u3 Q.length (cellsC Q) rfl ?_ ⟨wr.heap.size + 1 + 1 + 1, 0, none⟩ 1 1 [.int .i64 4, .int .i64 0] rfl rfl ?_ (one2 _ _) ?_ ?_ ?_ ?_; exact (by repeat (first | with_reducible assumption | with_reducible apply own_alloc | with_reducible apply own_drew | with_reducible apply own_drewN | (with_reducible refine own_setp (by assumption) ?_ ?_; (first | omega | (simp <;> omega))) | (with_reducible refine own_call (by assumption) ?_))); exact cellsB (Blk.new_at (by simp)); (unfold maxLen; omega); omega; (simp; omega); intro x2 w2 hown2 hg3 _ hloc)
          have hb2 : Below w.heap.size w w2 := below_grown (own_ge hown) (by simp; omega) hg3 (by repeat (first | with_reducible exact Below.refl _ _ | with_reducible assumption | with_reducible apply Below.drew | with_reducible apply below_drewN | (with_reducible apply below_setp; (first | omega | (simp <;> omega))) | (with_reducible apply below_allocp; (first | omega | (simp <;> omega))) | (with_reducible refine below_viap (by assumption) ?_ ?_; (first | omega | (simp <;> omega)))))
          have ho2 := own_snocC hx.out hown2
          clear hg3 hown2 hown hbel
          go_wp2
          go_ret
          exact ⟨_, rfl, ho2, hb2⟩
        · have hx := Lib.hid (show K = Q ++ [] by rw [hT, hr]; simp)
          have hr4 : n % 4 = 3 := by omega
          clear hT
          go_wp2
          go_ret
          exact ⟨_, rfl, by rw [hx.out, List.append_nil]; exact own_alloc (own_alloc (own_alloc hown)), (by repeat (first | with_reducible exact Below.refl _ _ | with_reducible assumption | with_reducible apply Below.drew | with_reducible apply below_drewN | (with_reducible apply below_setp; (first | omega | (simp <;> omega))) | (with_reducible apply below_allocp; (first | omega | (simp <;> omega))) | (with_reducible refine below_viap (by assumption) ?_ ?_; (first | omega | (simp <;> omega)))))⟩
        · have hx := Lib.hid (show K = Q ++ [(2, 0)] by rw [hT, hr]; simp)
          have hr4 : n % 4 = 0 := by omega
          clear hT
          go_wp2_with (at_builtin; refine wpList_append_own_at _ rfl (.tmp 43) (.tmp 45) 97 rfl w.heap.size 119 i0 _ 2 16 Try.underlying97 hi hz0 hz1 hz2 rfl (by decide) u3 Q.length (cellsC Q) rfl ?_ ⟨wr.heap.size + 1 + 1 + 1, 0, none⟩ 1 1 [.int .i64 2, .int .i64 0] rfl rfl ?_ (one2 _ _) ?_ ?_ ?_ ?_; exact (by repeat (first | with_reducible assumption | with_reducible apply own_alloc | with_reducible apply own_drew | with_reducible apply own_drewN | (with_reducible refine own_setp (by assumption) ?_ ?_; (first | omega | (simp <;> omega))) | (with_reducible refine own_call (by assumption) ?_))); exact cellsB (Blk.new_at (by simp)); (unfold maxLen; omega); omega; (simp; omega); intro x2 w2 hown2 hg3 _ hloc)
          have hb2 : Below w.heap.size w w2 := below_grown (own_ge hown) (by simp; omega) hg3 (by repeat (first | with_reducible exact Below.refl _ _ | with_reducible assumption | with_reducible apply Below.drew | with_reducible apply below_drewN | (with_reducible apply below_setp; (first | omega | (simp <;> omega))) | (with_reducible apply below_allocp; (first | omega | (simp <;> omega))) | (with_reducible refine below_viap (by assumption) ?_ ?_; (first | omega | (simp <;> omega)))))
          have ho2 := own_snocC hx.out hown2
          clear hg3 hown2 hown hbel
          go_wp2
          go_ret
          exact ⟨_, rfl, ho2, hb2⟩
        · have hx := Lib.hid (show K = Q ++ [(2, 0)] by rw [hT, hr]; simp)
          have hr4 : n % 4 = 1 := by omega
          clear hT
          go_wp2_with (at_builtin; refine wpList_append_own_at _ rfl (.tmp 43) (.tmp 45) 97 rfl w.heap.size 119 i0 _ 2 16 Try.underlying97 hi hz0 hz1 hz2 rfl (by decide) u3 Q.length (cellsC Q) rfl ?_ ⟨wr.heap.size + 1 + 1 + 1, 0, none⟩ 1 1 [.int .i64 2, .int .i64 0] rfl rfl ?_ (one2 _ _) ?_ ?_ ?_ ?_; exact (by repeat (first | with_reducible assumption | with_reducible apply own_alloc | with_reducible apply own_drew | with_reducible apply own_drewN | (with_reducible refine own_setp (by assumption) ?_ ?_; (first | omega | (simp <;> omega))) | (with_reducible refine own_call (by assumption) ?_))); exact cellsB (Blk.new_at (by simp)); (unfold maxLen; omega); omega; (simp; omega); intro x2 w2 hown2 hg3 _ hloc)
          have hb2 : Below w.heap.size w w2 := below_grown (own_ge hown) (by simp; omega) hg3 (by repeat (first | with_reducible exact Below.refl _ _ | with_reducible assumption | with_reducible apply Below.drew | with_reducible apply below_drewN | (with_reducible apply below_setp; (first | omega | (simp <;> omega))) | (with_reducible apply below_allocp; (first | omega | (simp <;> omega))) | (with_reducible refine below_viap (by assumption) ?_ ?_; (first | omega | (simp <;> omega)))))
          have ho2 := own_snocC hx.out hown2
          clear hg3 hown2 hown hbel
          go_wp2
          go_ret
          exact ⟨_, rfl, ho2, hb2⟩
        · have hx := Lib.hid (show K = Q ++ [(3, 0)] by rw [hT, hr]; simp)
          have hr4 : n % 4 = 2 := by omega
          clear hT
          go_wp2_with (at_builtin; refine wpList_append_own_at _ rfl (.tmp 55) (.tmp 57) 97 rfl w.heap.size 119 i0 _ 2 16 Try.underlying97 hi hz0 hz1 hz2 rfl (by decide) u3 Q.length (cellsC Q) rfl ?_ ⟨wr.heap.size + 1 + 1 + 1, 0, none⟩ 1 1 [.int .i64 3, .int .i64 0] rfl rfl ?_ (one2 _ _) ?_ ?_ ?_ ?_; exact (by repeat (first | with_reducible assumption | with_reducible apply own_alloc | with_reducible apply own_drew | with_reducible apply own_drewN | (with_reducible refine own_setp (by assumption) ?_ ?_; (first | omega | (simp <;> omega))) | (with_reducible refine own_call (by assumption) ?_))); exact cellsB (Blk.new_at (by simp)); (unfold maxLen; omega); omega; (simp; omega); intro x2 w2 hown2 hg3 _ hloc)
          have hb2 : Below w.heap.size w w2 := below_grown (own_ge hown) (by simp; omega) hg3 (by repeat (first | with_reducible exact Below.refl _ _ | with_reducible assumption | with_reducible apply Below.drew | with_reducible apply below_drewN | (with_reducible apply below_setp; (first | omega | (simp <;> omega))) | (with_reducible apply below_allocp; (first | omega | (simp <;> omega))) | (with_reducible refine below_viap (by assumption) ?_ ?_; (first | omega | (simp <;> omega)))))
          have ho2 := own_snocC hx.out hown2
          clear hg3 hown2 hown hbel
          go_wp2
          go_ret
          exact ⟨_, rfl, ho2, hb2⟩
        · have hx := Lib.hid (show K = Q ++ [] by rw [hT, hr]; simp)
          have hr4 : n % 4 = 3 := by omega
          clear hT
          go_wp2
          go_ret
          exact ⟨_, rfl, by rw [hx.out, List.append_nil]; exact own_alloc (own_alloc (own_alloc hown)), (by repeat (first | with_reducible exact Below.refl _ _ | with_reducible assumption | with_reducible apply Below.drew | with_reducible apply below_drewN | (with_reducible apply below_setp; (first | omega | (simp <;> omega))) | (with_reducible apply below_allocp; (first | omega | (simp <;> omega))) | (with_reducible refine below_viap (by assumption) ?_ ?_; (first | omega | (simp <;> omega)))))⟩

set_option maxRecDepth 100000 in
set_option maxHeartbeats 6400000 in
theorem chAll_any (m : Int) (w : World) (h1 : 1 ≤ m) (h2 : m ≤ 200000) : Calls Try.prog 96 #[.int .i64 (-m)] w (RetC (chars m) w) := by
  obtain ⟨i0, hi, hz0, hz1, hz2⟩ := info_parts infoChar
  have hl := prims_len m h2
  have hF := Lib.hid (fun w => nuPrimes_any m w h1 h2)
  obtain ⟨K, hK⟩ : ∃ K, chars m = K := ⟨_, rfl⟩
  rw [hK]
  unfold chars at hK
  generalize prims m = P at *
  have HK := Lib.hid hK
  clear hK
  go_enter Try.func96, Try.ntmps96
  go_wp2_with (go_at_call 137; refine (hF.out _).mono ?_; rintro e w1 ⟨vl, rfl, howl, hb1⟩; obtain ⟨base, cap, rfl⟩ := own_shape howl)
  obtain ⟨B, hB⟩ : ∃ B : Nat, B = w.heap.size := ⟨_, rfl⟩
  rw [← hB] at howl
  have hz1' := hb1.size
  go_loopw [3, 11] (fun v i wr => ChSt P B (.slice base P.length cap) w v i wr) (fun _ i _ => P.length - (intOf i).toNat)
  case atStart => exact ⟨0, rfl, Nat.zero_le _, World.ownsRow_nil _ _ _ _, howl, apart_nil, (by repeat (first | with_reducible exact Below.refl _ _ | with_reducible assumption | with_reducible apply Below.drew | with_reducible apply below_drewN | (with_reducible apply below_setp; (first | omega | (simp <;> omega))) | (with_reducible apply below_allocp; (first | omega | (simp <;> omega))) | (with_reducible refine below_viap (by assumption) ?_ ?_; (first | omega | (simp <;> omega)))))⟩
  case round =>
    clear howl hb1 hz1'
    obtain ⟨k, rfl, hk, hown, howl, hap, hbel⟩ := hrel
    by_cases hlt : k < P.length
    · obtain ⟨g, rfl, hg2, d1⟩ := own_elemI howl hlt
      have hft := chP_take hlt
      have hPl : (chP (P.take k)).length ≤ 900000 := by have := chP_len (P.take k); rw [List.length_take] at this; omega
      obtain ⟨f, hf⟩ : ∃ f, P[k] = f := ⟨_, rfl⟩
      rw [hf] at d1 hft
      generalize hQ : chP (P.take k) = Q at *
      have hz := hbel.size
      by_cases h3 : 2 < f
      · have hx := Lib.hid (hft.trans (by rw [if_pos h3]))
        clear hft hf hQ
        go_wp2_with (at_builtin; refine wpList_append_own_at _ rfl (.tmp 17) (.tmp 20) 97 rfl w.heap.size 119 i0 _ 2 16 Try.underlying97 hi hz0 hz1 hz2 rfl (by decide) u3 Q.length (cellsC Q) rfl ?_ ⟨wr.heap.size, 0, none⟩ 1 1 [.int .i64 1, .int .i64 f] rfl rfl ?_ (one2 _ _) ?_ ?_ ?_ ?_; exact (by repeat (first | with_reducible assumption | with_reducible apply own_alloc | with_reducible apply own_drew | with_reducible apply own_drewN | (with_reducible refine own_setp (by assumption) ?_ ?_; (first | omega | (simp <;> omega))) | (with_reducible refine own_call (by assumption) ?_))); exact cellsB (Blk.new_at (by simp)); (unfold maxLen; omega); omega; (simp; omega); intro x2 w2 hown2 hg3 _ hloc)
        have hb2 : Below w.heap.size w w2 := below_grown (own_ge hown) (by simp; omega) hg3 (by repeat (first | with_reducible exact Below.refl _ _ | with_reducible assumption | with_reducible apply Below.drew | with_reducible apply below_drewN | (with_reducible apply below_setp; (first | omega | (simp <;> omega))) | (with_reducible apply below_allocp; (first | omega | (simp <;> omega))) | (with_reducible refine below_viap (by assumption) ?_ ?_; (first | omega | (simp <;> omega)))))
        have ho2 : w2.ownsRow w.heap.size 119 2 x2 (chP (P.take (k + 1))).length (cellsC (chP (P.take (k + 1)))) := own_snocC hx.out hown2
        have hol1 : (wr.alloc (Obj.cells #[Value.int IntKind.i64 1, Value.int IntKind.i64 f] 119)).ownsRow B 3 1 (.slice (some ⟨g, 0, none⟩) P.length cap) P.length (cellsI P) := own_alloc howl
        have hol2 := hol1.kept hg3 hap
        have hap2 := apart_next hap hol1 (Nat.le_refl _) hloc
        clear hg3 hown2 hown hbel howl hap hol1 hloc
        go_wp2
        go_roundw
        case rel => exact ⟨k + 1, rfl, hlt, ho2, hol2, hap2, hb2⟩
        case measure => simp [intOf]; omega
      · have hx := Lib.hid (hft.trans (by rw [if_neg h3, List.append_nil]))
        clear hft hf hQ
        go_wp2
        go_roundw
        case rel => exact ⟨k + 1, rfl, hlt, by rw [hx.out]; exact hown, howl, hap, hbel⟩
        case measure => simp [intOf]; omega
    · have e : k = P.length := by omega
      have hx : chP (P.take k) = chP P := by rw [e, List.take_length]
      rw [hx] at hown
      have hz := hbel.size
      have hPl := Nat.le_trans (chP_len P) hl
      clear hx howl hap
      subst e
      generalize chP P = Q at *
      by_cases hodd : m % 2 = 1
      · have e1 : (m.tmod 2 != 0) = true := by rw [bne_iff_ne, Int.tmod_eq_emod_of_nonneg (by omega)]; omega
        have e2 : (m % 2 != 0) = true := by rw [bne_iff_ne]; omega
        have hq := Lib.hid (show K = Q by rw [← HK.out]; unfold tailC; rw [if_pos hodd, List.append_nil])
        have e3 : ((-(m % 2)) != 0) = true := by rw [bne_iff_ne]; omega
        clear hodd
        go_wp2
        go_ret
        exact ⟨_, rfl, by rw [hq.out]; exact hown, hbel⟩
      · have e2 : m % 2 = 0 := by omega
        obtain ⟨n, hn⟩ : ∃ n, m / 4 = n := ⟨_, rfl⟩
        have hn0 : 0 ≤ n := by omega
        have hr : n % 8 = 0 ∨ n % 8 = 1 ∨ n % 8 = 2 ∨ n % 8 = 3 ∨ n % 8 = 4 ∨ n % 8 = 5 ∨ n % 8 = 6 ∨ n % 8 = 7 := by omega
        have hT : K = Q ++ (if n % 8 = 1 ∨ n % 8 = 5 ∨ n % 8 = 4 then [(2, 0)] else if n % 8 = 2 then [(4, 0)] else if n % 8 = 6 then [(3, 0)] else if n % 8 = 0 then [(2, 0), (3, 0)] else []) := by
          rw [← HK.out]; unfold tailC; rw [if_neg hodd, hn]
        clear hodd
        rcases hr with hr | hr | hr | hr | hr | hr | hr | hr
        · have hx := Lib.hid (show K = Q ++ [(2, 0), (3, 0)] by rw [hT, hr]; simp)
          have hr4 : n % 4 = 0 := by omega
          clear hT
          go_wp2_with (at_builtin; refine wpList_append_own_at _ rfl (.tmp 64) (.tmp 67) 97 rfl w.heap.size 119 i0 _ 2 16 Try.underlying97 hi hz0 hz1 hz2 rfl (by decide) u3 Q.length (cellsC Q) rfl ?_ ⟨wr.heap.size, 0, none⟩ 2 2 [.int .i64 2, .int .i64 0, .int .i64 3, .int .i64 0] rfl rfl ?_ (one4 _ _ _ _) ?_ ?_ ?_ ?_; exact (by repeat (first | with_reducible assumption | with_reducible apply own_alloc | with_reducible apply own_drew | with_reducible apply own_drewN | (with_reducible refine own_setp (by assumption) ?_ ?_; (first | omega | (simp <;> omega))) | (with_reducible refine own_call (by assumption) ?_))); exact cellsB (Blk.new_at (by simp)); (unfold maxLen; omega); omega; (simp; omega); intro x2 w2 hown2 hg3 _ hloc)
          have hb2 : Below w.heap.size w w2 := below_grown (own_ge hown) (by simp; omega) hg3 (by repeat (first | with_reducible exact Below.refl _ _ | with_reducible assumption | with_reducible apply Below.drew | with_reducible apply below_drewN | (with_reducible apply below_setp; (first | omega | (simp <;> omega))) | (with_reducible apply below_allocp; (first | omega | (simp <;> omega))) | (with_reducible refine below_viap (by assumption) ?_ ?_; (first | omega | (simp <;> omega)))))
          have ho2 := own_snocC2 hx.out hown2
          clear hg3 hown2 hown hbel
          go_wp2
          go_ret
          exact ⟨_, rfl, ho2, hb2⟩
        · have hx := Lib.hid (show K = Q ++ [(2, 0)] by rw [hT, hr]; simp)
          have hr4 : n % 4 = 1 := by omega
          clear hT
          go_wp2_with (at_builtin; refine wpList_append_own_at _ rfl (.tmp 44) (.tmp 46) 97 rfl w.heap.size 119 i0 _ 2 16 Try.underlying97 hi hz0 hz1 hz2 rfl (by decide) u3 Q.length (cellsC Q) rfl ?_ ⟨wr.heap.size, 0, none⟩ 1 1 [.int .i64 2, .int .i64 0] rfl rfl ?_ (one2 _ _) ?_ ?_ ?_ ?_; exact (by repeat (first | with_reducible assumption | with_reducible apply own_alloc | with_reducible apply own_drew | with_reducible apply own_drewN | (with_reducible refine own_setp (by assumption) ?_ ?_; (first | omega | (simp <;> omega))) | (with_reducible refine own_call (by assumption) ?_))); exact cellsB (Blk.new_at (by simp)); (unfold maxLen; omega); omega; (simp; omega); intro x2 w2 hown2 hg3 _ hloc)
          have hb2 : Below w.heap.size w w2 := below_grown (own_ge hown) (by simp; omega) hg3 (by repeat (first | with_reducible exact Below.refl _ _ | with_reducible assumption | with_reducible apply Below.drew | with_reducible apply below_drewN | (with_reducible apply below_setp; (first | omega | (simp <;> omega))) | (with_reducible apply below_allocp; (first | omega | (simp <;> omega))) | (with_reducible refine below_viap (by assumption) ?_ ?_; (first | omega | (simp <;> omega)))))
          have ho2 := own_snocC hx.out hown2
          clear hg3 hown2 hown hbel
          go_wp2
          go_ret
          exact ⟨_, rfl, ho2, hb2⟩
        · have hx := Lib.hid (show K = Q ++ [(4, 0)] by rw [hT, hr]; simp)
          have hr4 : n % 4 = 2 := by omega
          clear hT
          go_wp2_with (at_builtin; refine wpList_append_own_at _ rfl (.tmp 52) (.tmp 54) 97 rfl w.heap.size 119 i0 _ 2 16 Try.underlying97 hi hz0 hz1 hz2 rfl (by decide) u3 Q.length (cellsC Q) rfl ?_ ⟨wr.heap.size, 0, none⟩ 1 1 [.int .i64 4, .int .i64 0] rfl rfl ?_ (one2 _ _) ?_ ?_ ?_ ?_; exact (by repeat (first | with_reducible assumption | with_reducible apply own_alloc | with_reducible apply own_drew | with_reducible apply own_drewN | (with_reducible refine own_setp (by assumption) ?_ ?_; (first | omega | (simp <;> omega))) | (with_reducible refine own_call (by assumption) ?_))); exact cellsB (Blk.new_at (by simp)); (unfold maxLen; omega); omega; (simp; omega); intro x2 w2 hown2 hg3 _ hloc)
          have hb2 : Below w.heap.size w w2 := below_grown (own_ge hown) (by simp; omega) hg3 (by repeat (first | with_reducible exact Below.refl _ _ | with_reducible assumption | with_reducible apply Below.drew | with_reducible apply below_drewN | (with_reducible apply below_setp; (first | omega | (simp <;> omega))) | (with_reducible apply below_allocp; (first | omega | (simp <;> omega))) | (with_reducible refine below_viap (by assumption) ?_ ?_; (first | omega | (simp <;> omega)))))
          have ho2 := own_snocC hx.out hown2
          clear hg3 hown2 hown hbel
          go_wp2
          go_ret
          exact ⟨_, rfl, ho2, hb2⟩
        · have hx := Lib.hid (show K = Q ++ [] by rw [hT, hr]; simp)
          have hr4 : n % 4 = 3 := by omega
          clear hT
          go_wp2
          go_ret
          exact ⟨_, rfl, by rw [hx.out, List.append_nil]; exact hown, (by repeat (first | with_reducible exact Below.refl _ _ | with_reducible assumption | with_reducible apply Below.drew | with_reducible apply below_drewN | (with_reducible apply below_setp; (first | omega | (simp <;> omega))) | (with_reducible apply below_allocp; (first | omega | (simp <;> omega))) | (with_reducible refine below_viap (by assumption) ?_ ?_; (first | omega | (simp <;> omega)))))⟩
        · have hx := Lib.hid (show K = Q ++ [(2, 0)] by rw [hT, hr]; simp)
          have hr4 : n % 4 = 0 := by omega
          clear hT
          go_wp2_with (at_builtin; refine wpList_append_own_at _ rfl (.tmp 44) (.tmp 46) 97 rfl w.heap.size 119 i0 _ 2 16 Try.underlying97 hi hz0 hz1 hz2 rfl (by decide) u3 Q.length (cellsC Q) rfl ?_ ⟨wr.heap.size, 0, none⟩ 1 1 [.int .i64 2, .int .i64 0] rfl rfl ?_ (one2 _ _) ?_ ?_ ?_ ?_; exact (by repeat (first | with_reducible assumption | with_reducible apply own_alloc | with_reducible apply own_drew | with_reducible apply own_drewN | (with_reducible refine own_setp (by assumption) ?_ ?_; (first | omega | (simp <;> omega))) | (with_reducible refine own_call (by assumption) ?_))); exact cellsB (Blk.new_at (by simp)); (unfold maxLen; omega); omega; (simp; omega); intro x2 w2 hown2 hg3 _ hloc)
          have hb2 : Below w.heap.size w w2 := below_grown (own_ge hown) (by simp; omega) hg3 (by repeat (first | with_reducible exact Below.refl _ _ | with_reducible assumption | with_reducible apply Below.drew | with_reducible apply below_drewN | (with_reducible apply below_setp; (first | omega | (simp <;> omega))) | (with_reducible apply below_allocp; (first | omega | (simp <;> omega))) | (with_reducible refine below_viap (by assumption) ?_ ?_; (first | omega | (simp <;> omega)))))
          have ho2 := own_snocC hx.out hown2
          clear hg3 hown2 hown hbel
          go_wp2
          go_ret
          exact ⟨_, rfl, ho2, hb2⟩
        · have hx := Lib.hid (show K = Q ++ [(2, 0)] by rw [hT, hr]; simp)
          have hr4 : n % 4 = 1 := by omega
          clear hT
          go_wp2_with (at_builtin; refine wpList_append_own_at _ rfl (.tmp 44) (.tmp 46) 97 rfl w.heap.size 119 i0 _ 2 16 Try.underlying97 hi hz0 hz1 hz2 rfl (by decide) u3 Q.length (cellsC Q) rfl ?_ ⟨wr.heap.size, 0, none⟩ 1 1 [.int .i64 2, .int .i64 0] rfl rfl ?_ (one2 _ _) ?_ ?_ ?_ ?_; exact (by repeat (first | with_reducible assumption | with_reducible apply own_alloc | with_reducible apply own_drew | with_reducible apply own_drewN | (with_reducible refine own_setp (by assumption) ?_ ?_; (first | omega | (simp <;> omega))) | (with_reducible refine own_call (by assumption) ?_))); exact cellsB (Blk.new_at (by simp)); (unfold maxLen; omega); omega; (simp; omega); intro x2 w2 hown2 hg3 _ hloc)
          have hb2 : Below w.heap.size w w2 := below_grown (own_ge hown) (by simp; omega) hg3 (by repeat (first | with_reducible exact Below.refl _ _ | with_reducible assumption | with_reducible apply Below.drew | with_reducible apply below_drewN | (with_reducible apply below_setp; (first | omega | (simp <;> omega))) | (with_reducible apply below_allocp; (first | omega | (simp <;> omega))) | (with_reducible refine below_viap (by assumption) ?_ ?_; (first | omega | (simp <;> omega)))))
          have ho2 := own_snocC hx.out hown2
          clear hg3 hown2 hown hbel
          go_wp2
          go_ret
          exact ⟨_, rfl, ho2, hb2⟩
        · have hx := Lib.hid (show K = Q ++ [(3, 0)] by rw [hT, hr]; simp)
          have hr4 : n % 4 = 2 := by omega
          clear hT
          go_wp2_with (at_builtin; refine wpList_append_own_at _ rfl (.tmp 60) (.tmp 62) 97 rfl w.heap.size 119 i0 _ 2 16 Try.underlying97 hi hz0 hz1 hz2 rfl (by decide) u3 Q.length (cellsC Q) rfl ?_ ⟨wr.heap.size, 0, none⟩ 1 1 [.int .i64 3, .int .i64 0] rfl rfl ?_ (one2 _ _) ?_ ?_ ?_ ?_; exact (by repeat (first | with_reducible assumption | with_reducible apply own_alloc | with_reducible apply own_drew | with_reducible apply own_drewN | (with_reducible refine own_setp (by assumption) ?_ ?_; (first | omega | (simp <;> omega))) | (with_reducible refine own_call (by assumption) ?_))); exact cellsB (Blk.new_at (by simp)); (unfold maxLen; omega); omega; (simp; omega); intro x2 w2 hown2 hg3 _ hloc)
          have hb2 : Below w.heap.size w w2 := below_grown (own_ge hown) (by simp; omega) hg3 (by repeat (first | with_reducible exact Below.refl _ _ | with_reducible assumption | with_reducible apply Below.drew | with_reducible apply below_drewN | (with_reducible apply below_setp; (first | omega | (simp <;> omega))) | (with_reducible apply below_allocp; (first | omega | (simp <;> omega))) | (with_reducible refine below_viap (by assumption) ?_ ?_; (first | omega | (simp <;> omega)))))
          have ho2 := own_snocC hx.out hown2
          clear hg3 hown2 hown hbel
          go_wp2
          go_ret
          exact ⟨_, rfl, ho2, hb2⟩
        · have hx := Lib.hid (show K = Q ++ [] by rw [hT, hr]; simp)
          have hr4 : n % 4 = 3 := by omega
          clear hT
          go_wp2
          go_ret
          exact ⟨_, rfl, by rw [hx.out, List.append_nil]; exact hown, (by repeat (first | with_reducible exact Below.refl _ _ | with_reducible assumption | with_reducible apply Below.drew | with_reducible apply below_drewN | (with_reducible apply below_setp; (first | omega | (simp <;> omega))) | (with_reducible apply below_allocp; (first | omega | (simp <;> omega))) | (with_reducible refine below_viap (by assumption) ?_ ?_; (first | omega | (simp <;> omega)))))⟩

end Go.Proofs.Ytononfokhdmofaa
