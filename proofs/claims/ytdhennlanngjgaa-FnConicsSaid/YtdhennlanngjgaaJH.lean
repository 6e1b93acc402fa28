/- Contract: the place that forbids, of the reference. -/
import Derived.Test.YtdhennlanngjgaaJG
namespace Go.Proofs.Ytdhennlanngjgaa
open Go.RowKit

def badP (a b c : Int) (p : Int) : Bool := decide (2 < p) && !rtB p (kkE a b c p)
theorem plE_od (a b c : Int) (T : List Int) : plE a b c (odP T) = (T.find? (badP a b c)).getD (-1) := by
  unfold plE odP
  rw [List.find?_filter]
  congr 2
  funext x
  unfold badP
  cases rtB x (kkE a b c x) <;> simp
def noBad (a b c : Int) (T : List Int) (k : Nat) : Prop := ∀ j (h : j < T.length), j < k → badP a b c T[j] = false
theorem bad_none {a b c : Int} {T : List Int} {k : Nat} (hk : T.length ≤ k) (h : noBad a b c T k) : plE a b c (odP T) = -1 := by
  rw [plE_od, List.find?_eq_none.2]
  · rfl
  · intro x hx
    obtain ⟨j, hj, rfl⟩ := List.getElem_of_mem hx
    rw [h j hj (by omega)]
    simp
theorem bad_hit {a b c : Int} {T : List Int} {k : Nat} (hk : k < T.length) (h : noBad a b c T k) (hn : badP a b c T[k] = true) : plE a b c (odP T) = T[k] := by
  rw [plE_od, List.find?_eq_some_iff_getElem.2 ⟨hn, k, hk, rfl, fun j hj => by rw [h j (by omega) hj]; rfl⟩]
  rfl
theorem bad_next {a b c : Int} {T : List Int} {k : Nat} (hk : k < T.length) (h : noBad a b c T k) (hy : badP a b c T[k] = false) : noBad a b c T (k + 1) := fun j hj hjk => by
  by_cases e : j = k
  · subst e; exact hy
  · exact h j hj (by omega)
theorem plF_nf {a b c : Int} (h : TrI a b c) : plF a b c = plG (nfE a b c a) (nfE a b c b) (nfE a b c c) := by
  unfold plF plG
  rw [h.nsign, h.nsign, h.nsign]

set_option maxRecDepth 100000 in
set_option maxHeartbeats 12800000 in
theorem cnPlace_any (a b c : Int) (w : World) (h : TrI a b c) (hn : TrI (nfE a b c a) (nfE a b c b) (nfE a b c c)) :
    Calls Try.prog 22 #[.agg #[.int .i64 a, .int .i64 b, .int .i64 c]] w fun e w' => e = .returned (.int .i64 (plF a b c)) ∧ Below w.heap.size w w' := by
  have hS := Lib.hid (fun x w => l1Sign_any x w)
  have hMk := Lib.hid (fun w => cnMake_any a b c w h)
  have hF0 : Hid (a.sign = b.sign ∧ b.sign = c.sign → plF a b c = 0) := Lib.hid (fun e => by unfold plF; rw [if_pos ⟨e.1, e.1.trans e.2⟩])
  have hF1 : Hid (¬ (a.sign = b.sign ∧ b.sign = c.sign) → plF a b c = plE (nfE a b c a) (nfE a b c b) (nfE a b c c) (odP (prT (nfE a b c a) (nfE a b c b) (nfE a b c c)))) :=
    Lib.hid (fun e => by unfold plF; rw [if_neg (fun h => e ⟨h.1, h.1.symm.trans h.2⟩)])
  generalize nfE a b c a = x at *
  generalize nfE a b c b = y at *
  generalize nfE a b c c = z at *
  clear h
  obtain ⟨⟨xy1, xy2⟩, ⟨yz1, yz2⟩, ⟨xz1, xz2⟩, xyz1, xyz2⟩ := hn.pb
  have hAb := Lib.hid (fun w => l1Abs_any (x * y * z) w (by omega) (by omega))
  have hPr := Lib.hid (fun w => nuPrimes_any ((x * y * z).natAbs : Int) w hn.prod.1 hn.prod.2)
  obtain ⟨T, hT⟩ : ∃ T, prT x y z = T := ⟨_, rfl⟩
  have hT' : prims ((x * y * z).natAbs : Int) = T := hT
  rw [hT'] at hPr
  have hTl : T.length ≤ 100 := by rw [← hT]; exact hn.len
  have hTp := Lib.hid (fun q (hx : q ∈ T) => (⟨hn.ge q (by rw [hT]; exact hx), by
    rw [← hT] at hx
    have h1 := ((hn.pr q).1 hx)
    have h2 := Int.le_of_dvd (by have := hn.prod.1; omega) (Int.dvd_natAbs.2 h1.2)
    have := hn.prod.2
    omega⟩ : 2 ≤ q ∧ q ≤ 64000000))
  rw [hT] at hF1
  generalize ((x * y * z).natAbs : Int) = u at hAb hPr
  clear hT hT'
  obtain ⟨x0, ⟨x1, x2⟩, y0, ⟨y1, y2⟩, z0, z1, z2⟩ := hn
  by_cases e0 : a.sign = b.sign ∧ b.sign = c.sign
  · have hR := Lib.hid (hF0.out e0)
    have k1 : (a.sign == b.sign) = true := by rw [beq_iff_eq]; exact e0.1
    have k2 : (b.sign == c.sign) = true := by rw [beq_iff_eq]; exact e0.2
    clear e0 hF0 hF1
    go_enter Try.func22, Try.ntmps22
    go_wp2
    refine wp_region_calm 16 (Below (w.heap.size + 1) _) (by kernel_rfl) (by kernel_rfl) ((Below.refl _ _).drew) ?_
    simp only [List.take_succ_cons, List.take_zero, List.drop_succ_cons, List.drop_zero]
    repeat (first | (apply wpCalm_go; go_simp; (intro w' hw' hcc hff; go_simp; first | exact rfl | (refine (hS.out _ _).mono ?_; rintro e w1 ⟨rfl, hb⟩; exact ⟨rfl, calm_call_same hw' hb⟩)); (intro K hK; go_simp; refine hK _ ?_; clear hK K)) | (apply wpCalm_skip; go_simp; (try (focus (simp [undef]; done))); (intro K hK; go_simp; refine hK _ ?_; clear hK K)))
    refine wpCalm_nil ?_
    intro w1 hw1
    have hcc := (calm_cells hw1).1
    have hff := (calm_cells hw1).2
    have hss := calm_size hw1
    have hsz := hw1.size
    (try simp at hsz)
    go_wp2
    go_ret
    exact ⟨ret_int hR.out.symm, (by repeat (first | with_reducible exact Below.refl _ _ | with_reducible assumption | with_reducible apply Below.drew | with_reducible apply below_drewN | (with_reducible apply below_setp; (first | omega | (simp <;> omega))) | (with_reducible apply below_allocp; (first | omega | (simp <;> omega))) | (with_reducible refine below_viap (by assumption) ?_ ?_; (first | omega | (simp <;> omega)))))⟩
  · have hR := Lib.hid (hF1.out e0)
    have hk : ((a.sign == b.sign) && (b.sign == c.sign)) = false := by
      rw [← Bool.not_eq_true, Bool.and_eq_true, beq_iff_eq, beq_iff_eq]; exact e0
    clear e0 hF0 hF1
    obtain ⟨t1, k1⟩ : ∃ t, (a.sign == b.sign) = t := ⟨_, rfl⟩
    obtain ⟨t2, k2⟩ : ∃ t, (b.sign == c.sign) = t := ⟨_, rfl⟩
    rw [k1, k2] at hk
    cases t1 <;> cases t2
    case neg.true.true => cases hk
    all_goals
      clear hk
      go_enter Try.func22, Try.ntmps22
      go_wp2
      refine wp_region_calm 16 (Below (w.heap.size + 1) _) (by kernel_rfl) (by kernel_rfl) ((Below.refl _ _).drew) ?_
      simp only [List.take_succ_cons, List.take_zero, List.drop_succ_cons, List.drop_zero]
      repeat (first | (apply wpCalm_go; go_simp; (intro w' hw' hcc hff; go_simp; first | exact rfl | (refine (hS.out _ _).mono ?_; rintro e w1 ⟨rfl, hb⟩; exact ⟨rfl, calm_call_same hw' hb⟩)); (intro K hK; go_simp; refine hK _ ?_; clear hK K)) | (apply wpCalm_skip; go_simp; (try (focus (simp [undef]; done))); (intro K hK; go_simp; refine hK _ ?_; clear hK K)))
      refine wpCalm_nil ?_
      intro w1 hw1
      have hcc := (calm_cells hw1).1
      have hff := (calm_cells hw1).2
      have hss := calm_size hw1
      have hsz := hw1.size
      (try simp at hsz)
      have hA1 : Blk w1 w.heap.size 25 #[.int .i64 a, .int .i64 b, .int .i64 c] := Blk.below (by (repeat (first | with_reducible assumption | (with_reducible apply Blk.new_at; (first | rfl | (simp; done))) | with_reducible apply Blk.store3 | with_reducible apply Blk.store4 | (with_reducible apply Blk.farp; (first | omega | (simp <;> omega))) | with_reducible apply Blk.allocp | with_reducible apply Blk.drew | with_reducible apply Blk.drewN))) hw1 (by omega)
      have hb1 : Below w.heap.size w w1 := below_via (show Below w.heap.size w _ from (by repeat (first | with_reducible exact Below.refl _ _ | with_reducible assumption | with_reducible apply Below.drew | with_reducible apply below_drewN | (with_reducible apply below_setp; (first | omega | (simp <;> omega))) | (with_reducible apply below_allocp; (first | omega | (simp <;> omega))) | (with_reducible refine below_viap (by assumption) ?_ ?_; (first | omega | (simp <;> omega)))))) hw1 (by omega)
      have cA1 := hA1.cell; have fA1 := hA1.frozen; have lA1 := hA1.lt
      clear hcc hff hss hw1 k1 k2
      go_wp2_with (first
        | (go_at_call 21; (with_reducible refine (hMk.out _).mono ?_); rintro e v2 ⟨rfl, hB2⟩; have hZ2 := hB2.size; (try simp at hZ2))
        | (go_at_call 35; (with_reducible refine (hAb.out _).mono ?_); rintro e v ⟨rfl, rfl⟩)
        | (go_at_call 47; refine (hPr.out _).mono ?_; rintro e w3 ⟨vt, rfl, hot, hB3⟩; obtain ⟨bt, ct, rfl⟩ := own_shape hot; have hZ3 := hB3.size; (try simp at hZ3)))
      have hN3 : Blk w3 v2.heap.size 25 #[.int .i64 x, .int .i64 y, .int .i64 z] := Blk.call (by (repeat (first | with_reducible assumption | (with_reducible apply Blk.new_at; (first | rfl | (simp; done))) | with_reducible apply Blk.store3 | with_reducible apply Blk.store4 | (with_reducible apply Blk.farp; (first | omega | (simp <;> omega))) | with_reducible apply Blk.allocp | with_reducible apply Blk.drew | with_reducible apply Blk.drewN))) hB3
      have hb3 : Below w.heap.size w w3 := (by repeat (first | with_reducible exact Below.refl _ _ | with_reducible assumption | with_reducible apply Below.drew | with_reducible apply below_drewN | (with_reducible apply below_setp; (first | omega | (simp <;> omega))) | (with_reducible apply below_allocp; (first | omega | (simp <;> omega))) | (with_reducible refine below_viap (by assumption) ?_ ?_; (first | omega | (simp <;> omega)))))
      obtain ⟨C, hC⟩ : ∃ C, v2.heap.size = C := ⟨_, rfl⟩
      rw [hC] at hN3 ⊢
      obtain ⟨B, hot'⟩ : ∃ B, w3.ownsRow B 3 1 (.slice bt T.length ct) T.length (cellsI T) := ⟨_, hot⟩
      clear hot hB3 hZ3 hB2 hZ2 hA1 cA1 fA1 lA1 hb1 hC hS hMk hAb hPr hsz
      obtain ⟨m, hm⟩ : ∃ m, T.length = m := ⟨_, rfl⟩
      have Hm := Lib.hid hm
      rw [hm] at hTl hot' ⊢
      clear hm
      have HO := Lib.hid hot'
      have hlO := own_lt hot'
      clear hot'
      go_loopw [36] (fun vi wr => ∃ k : Nat, vi = .int .i64 k ∧ k ≤ m ∧ Hid (noBad x y z T k) ∧ wr = w3) (fun vi _ => m - (intOf vi).toNat)
      case atStart => exact ⟨0, rfl, Nat.zero_le _, Lib.hid (fun j hj h0 => absurd h0 (Nat.not_lt_zero _)), rfl⟩
      case round =>
        obtain ⟨k, rfl, hk, hall, rfl⟩ := hrel
        by_cases hlt : k < m
        · have hkT : k < T.length := by rw [Hm.out]; exact hlt
          obtain ⟨g, rfl, hg, e1⟩ := own_elemI (by rw [Hm.out]; exact HO.out) hkT
          obtain ⟨p2, p3⟩ := hTp.out _ (List.getElem_mem hkT)
          have hhit := Lib.hid (fun hn => bad_hit hkT hall.out hn)
          have hnxt := Lib.hid (fun hn => bad_next hkT hall.out hn)
          generalize T[k] = p at *
          have hp0 : ¬ p = 0 := by omega
          have hp1 : (p == 0) = false := by rw [beq_eq_false_iff_ne]; exact hp0
          have cN := hN3.cell; have fN := hN3.frozen; have lN := hN3.lt
          unfold badP at hhit hnxt
          by_cases d1 : p ∣ x
          case' pos =>
            rw [kk1 d1] at hhit hnxt
            have t1 := tmod_dvd d1
            have hCr := Lib.hid (fun w => cnRoot_any p (y * z) w (by omega) (by omega) (by omega))
            generalize rtB p (y * z) = rt at *
          case' neg =>
            by_cases d2 : p ∣ y
            case' pos =>
              rw [kk2 d1 d2] at hhit hnxt
              have t1 := tmod_ndvd d1
              have t2 := tmod_dvd d2
              have hCr := Lib.hid (fun w => cnRoot_any p (x * z) w (by omega) (by omega) (by omega))
              generalize rtB p (x * z) = rt at *
            case' neg =>
              rw [kk3 d1 d2] at hhit hnxt
              have t1 := tmod_ndvd d1
              have t2 := tmod_ndvd d2
              have hCr := Lib.hid (fun w => cnRoot_any p (x * y) w (by omega) (by omega) (by omega))
              generalize rtB p (x * y) = rt at *
          all_goals
            by_cases hp : 2 < p
            · cases rt
              · have hH := Lib.hid (hhit.out (by rw [decide_eq_true hp]; rfl))
                clear hhit hnxt hall
                go_wp2_with (go_at_call 49; refine (hCr.out _).mono ?_; rintro e v5 ⟨⟨r, rfl, hr⟩, rfl⟩; have hr2 : r < 0 := of_decide_eq_true hr)
                go_ret
                exact ⟨ret_int (hR.out.trans hH.out).symm, hb3⟩
              · have hX := Lib.hid (hnxt.out (by rw [decide_eq_true hp]; rfl))
                clear hhit hnxt hall
                go_wp2_with (go_at_call 49; refine (hCr.out _).mono ?_; rintro e v5 ⟨⟨r, rfl, hr⟩, rfl⟩; have hr2 : ¬ r < 0 := of_decide_eq_false hr)
                go_roundw
                case rel => exact ⟨k + 1, by go_num, hlt, hX, by first | rfl | trivial⟩
                case measure => simp [intOf]; omega
            · have hX := Lib.hid (hnxt.out (by rw [decide_eq_false hp]; rfl))
              clear hhit hnxt hall
              go_wp2
              go_roundw
              case rel => exact ⟨k + 1, by go_num, hlt, hX, by first | rfl | trivial⟩
              case measure => simp [intOf]; omega
        · have Hpl := Lib.hid (bad_none (k := k) (by rw [Hm.out]; omega) hall.out)
          go_wp2
          go_ret
          exact ⟨ret_int (hR.out.trans Hpl.out).symm, hb3⟩
end Go.Proofs.Ytdhennlanngjgaa
