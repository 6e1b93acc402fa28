/- FnCosets returns true: for every drawn list of class forms with one discriminant, the cosets of the subgroup that they generate have one size and contain each class once, and the order of each generated class divides that size. Conditions: none. -/
import Derived.Test.YteehcjjhkphdnaaGreatDK
import Derived.Test.YteehcjjhkphdnaaGreatRY
import Derived.Test.YteehcjjhkphdnaaGreatDF
import Derived.Test.YteehcjjhkphdnaaGreatGT
import Derived.Test.YteehcjjhkphdnaaGreatDA
import Derived.Test.YteehcjjhkphdnaaGreatW2
namespace Go.Proofs.YteehcjjhkphdnaaGreat
open Go.RowKit Go.ChangeShapes Go.WideShapes Go.ChangeAt Go.Joins

theorem flat_row {K : List (List Int)} {m : Nat} (hnd : K.flatten.Nodup) (hr : ∀ x ∈ K.flatten, 0 ≤ x ∧ x < m) {t : Nat} (ht : t < K.length) :
    (K.take (t + 1)).flatten = (K.take t).flatten ++ K[t] ∧ ∀ s (h : s < K[t].length), (∀ i (hi : i < ((K.take t).flatten ++ K[t].take s).length), ¬ ((K.take t).flatten ++ K[t].take s)[i] = K[t][s]) ∧ 0 ≤ K[t][s] ∧ K[t][s] < m ∧ K[t].take (s + 1) = K[t].take s ++ [K[t][s]] := by
  have e1 : (K.take (t + 1)).flatten = (K.take t).flatten ++ K[t] := by
    rw [List.take_succ_eq_append_getElem ht, List.flatten_append]
    simp
  refine ⟨e1, fun s hs => ?_⟩
  have e2 : K.flatten = (K.take t).flatten ++ K[t] ++ (K.drop (t + 1)).flatten := by
    rw [← e1, ← List.flatten_append, List.take_append_drop]
  rw [e2] at hnd
  have h1 := (List.nodup_append.1 hnd).1
  have e3 : (K.take t).flatten ++ K[t] = ((K.take t).flatten ++ K[t].take s) ++ (K[t][s] :: K[t].drop (s + 1)) := by
    rw [List.append_assoc, ← List.drop_eq_getElem_cons hs, List.take_append_drop]
  rw [e3] at h1
  have h2 := (List.nodup_append.1 h1).2.2
  have h3 := hr K[t][s] (List.mem_flatten.2 ⟨K[t], List.getElem_mem ht, List.getElem_mem hs⟩)
  exact ⟨fun i hi he => h2 _ (List.getElem_mem hi) _ List.mem_cons_self he, h3.1, h3.2, List.take_succ_eq_append_getElem hs⟩
theorem NestW.row_ {B cap : Nat} {ob : Option Addr} {G : List (List Int)} {vs : List Value} {w : World} (h : NestW B G (.slice ob G.length cap) vs w) {i : Nat} (hi : i < G.length) :
    ∃ O bu cu, ob = some ⟨O, 0, none⟩ ∧ O < w.heap.size ∧ w.cell? ⟨O, i, none⟩ = some (.slice bu G[i].length cu) ∧ w.ownsRow B 3 1 (.slice bu G[i].length cu) G[i].length (cellsI G[i]) := by
  obtain ⟨u, hu, ho, _⟩ := h.2.1 i hi
  obtain ⟨O, hO, l1, e1⟩ := ownV_at h.1 hi hu
  obtain ⟨bu, cu, rfl⟩ := own_shape ho
  exact ⟨O, bu, cu, hO, l1, e1, ho⟩
/-- The loop over the cosets. -/
def CoSt (K : List (List Int)) (v9 : World) (vs vi : Value) (wr : World) : Prop :=
  ∃ t : Nat, vi = .int .i64 t ∧ t ≤ K.length ∧ wr.ownsRow v9.heap.size 3 1 vs ((K.take t).flatten).length (cellsI (K.take t).flatten) ∧ Below v9.heap.size v9 wr
/-- The loop over one coset. -/
def CoIn (A c : List Int) (v9 : World) (vs vj : Value) (wr : World) : Prop :=
  ∃ s : Nat, vj = .int .i64 s ∧ s ≤ c.length ∧ wr.ownsRow v9.heap.size 3 1 vs (A ++ c.take s).length (cellsI (A ++ c.take s)) ∧ Below v9.heap.size v9 wr
def CoLp (n : Nat) (v9 : World) (vi : Value) (wr : World) : Prop := ∃ t : Nat, vi = .int .i64 t ∧ t ≤ n ∧ Below v9.heap.size v9 wr

set_option maxRecDepth 100000 in
set_option maxHeartbeats 12800000 in
theorem walk_FnCosets (zs es : List Int) (v u : Value) (w : World) (hz : ReB zs v w) (he : ReB es u w) :
    Calls Tryz.prog 6 #[v, u] w fun e w' => e = .returned (.bool true) ∧ Below w.heap.size w w' := by
  obtain ⟨i0, iz, iz0, iz1, iz2⟩ := info_parts infoInt
  have HZ := Lib.hid hz
  obtain ⟨A, c1, rfl⟩ := hz.shape
  obtain ⟨A2, c2, rfl⟩ := he.shape
  clear hz he
  by_cases hbig : zs.length ≤ 1048576 ∧ es.length ≤ 1048576 - zs.length
  · have Hb := Lib.hid (fun w => big_no A A2 zs.length es.length c1 c2 w hbig.1 hbig.2)
    have HR := Lib.hid (HZ.out.rd hbig.1)
    clear HZ hbig
    go_enter Tryz.func6, Tryz.ntmps6
    go_wp2_with (go_at_call 10; (with_reducible refine (Hb.out _).mono ?_); rintro e v ⟨rfl, rfl⟩)
    refine (drawCos_any zs _ _ _ HR.out (Nat.le_refl _)).mono ?_
    rintro e v1 ⟨d, Z, vl, rfl, hl1, hZl, hb1⟩
    have hz1' := hb1.size
    cases hc : SgS d Z with
    | false =>
      have HS := Lib.hid (fun B2 w ho => specCs_any d vl B2 Z [] false w (by omega) (.inl ⟨hc, rfl, rfl⟩) ho)
      have HI := Lib.hid (fun B2 w ho => implCs_any d vl B2 Z [] false w (by omega) (.inl ⟨hc, rfl, rfl⟩) ho)
      clear hc
      go_wp2_with fail
      refine (HI.out _ _ hl1).mono ?_
      rintro e v2 ⟨vk, rfl, hk2, hc2⟩
      have hz2 := hc2.size
      (try simp at hz2)
      have hl2 := own_call hc2 hl1
      have hb2 : Below w.heap.size w v2 := (by repeat (first | with_reducible exact Below.refl _ _ | with_reducible assumption | with_reducible apply Below.drew | with_reducible apply below_drewN | (with_reducible apply below_setp; (first | omega | (simp <;> omega))) | (with_reducible apply below_allocp; (first | omega | (simp <;> omega))) | (with_reducible refine below_viap (by assumption) ?_ ?_; (first | omega | (simp <;> omega)))))
      clear hl1
      go_wp2_with fail
      refine (HS.out _ _ hl2).mono ?_
      rintro e v3 ⟨vw, rfl, hw3, hc3⟩
      have hz3 := hc3.size
      (try simp at hz3)
      have hl3 := own_call hc3 hl2
      have hb3 : Below w.heap.size w v3 := (by repeat (first | with_reducible exact Below.refl _ _ | with_reducible assumption | with_reducible apply Below.drew | with_reducible apply below_drewN | (with_reducible apply below_setp; (first | omega | (simp <;> omega))) | (with_reducible apply below_allocp; (first | omega | (simp <;> omega))) | (with_reducible refine below_viap (by assumption) ?_ ?_; (first | omega | (simp <;> omega)))))
      clear hl2
      have hk3 := hk2.call hc3
      go_wp2_with (go_at_call 44; refine (sameLists_same vk vw _ _ [] _ (by simp) (by simp) hk3 hw3).mono ?_; rintro e v4 ⟨rfl, hc4⟩)
      go_ret
      exact ⟨rfl, (by repeat (first | with_reducible exact Below.refl _ _ | with_reducible assumption | with_reducible apply Below.drew | with_reducible apply below_drewN | (with_reducible apply below_setp; (first | omega | (simp <;> omega))) | (with_reducible apply below_allocp; (first | omega | (simp <;> omega))) | (with_reducible refine below_viap (by assumption) ?_ ?_; (first | omega | (simp <;> omega)))))⟩
    | true =>
      obtain ⟨P, K, hrow⟩ := co_row hc
      have HS := Lib.hid (fun B2 w ho => specCs_any d vl B2 Z K true w (by omega) hrow.cs ho)
      have HI := Lib.hid (fun B2 w ho => implCs_any d vl B2 Z K true w (by omega) hrow.cs ho)
      have HG := Lib.hid (fun B2 w ho => implGd_any d vl B2 Z P true w (by omega) hrow.gd ho)
      have HC := Lib.hid (fun w => implCN_any d ((clsL d).length : Nat) true w (.inr ⟨hrow.ds, rfl, rfl⟩))
      obtain ⟨bP, bK, bZ⟩ := hrow.bd
      have D := dsc_of hrow.ds
      have HF := Lib.hid (fun f (hf : f ∈ Z) w => implReduce_d f.a f.b f.c w (cls_fm (hrow.gen f hf).1).2 (cls_def6 (hrow.gen f hf).1))
      have HM := Lib.hid (fun f (hf : f ∈ Z) => hasF_mem.1 (hrow.gen f hf).2)
      have HO := Lib.hid (fun f (hf : f ∈ P) w => implOrd_c f.a f.b f.c f d w (cls_isCls D (hrow.ord f hf).1) (CF.of_mem D (hrow.ord f hf).1))
      have HV := Lib.hid (fun f (hf : f ∈ P) => (⟨(D.ordm (hrow.ord f hf).1).1.1, (hrow.ord f hf).2⟩ : 0 < ordF d f ∧ ordF d f ∣ P.length))
      have HT := Lib.hid (fun t (ht : t < K.length) => flat_row hrow.nd hrow.rng ht)
      have HL := Lib.hid (fun t (ht : t < K.length) => hrow.len K[t] (List.getElem_mem ht))
      have hKl : ∀ c ∈ K, c.length ≤ 100000 := fun c h => by rw [hrow.len c h]; omega
      have HTl := Lib.hid (fun t => (show ((K.take t).flatten).length ≤ 2689600 from by
        rw [flat_len _ (fun c h => hrow.len c (List.mem_of_mem_take h))]
        exact Nat.mul_le_mul bP (show (List.take t K).length ≤ 1640 from by rw [List.length_take]; omega)))
      have hmul : wrap64 ((P.length : Int) * (K.length : Int)) = ((clsL d).length : Int) := by
        have h1 := hrow.num
        have h2 : P.length * K.length ≤ 1640 * 1640 := Nat.mul_le_mul bP bK
        rw [← Int.natCast_mul]
        rw [IntWalk.wrap64_in _ (by omega), h1]
      generalize (clsL d).length = m at HC HT hmul
      clear hc hrow
      go_wp2_with fail
      refine (HI.out _ _ hl1).mono ?_
      rintro e v2 ⟨vk, rfl, hk2, hc2⟩
      have hz2 := hc2.size
      (try simp at hz2)
      have hl2 := own_call hc2 hl1
      have hb2 : Below w.heap.size w v2 := (by repeat (first | with_reducible exact Below.refl _ _ | with_reducible assumption | with_reducible apply Below.drew | with_reducible apply below_drewN | (with_reducible apply below_setp; (first | omega | (simp <;> omega))) | (with_reducible apply below_allocp; (first | omega | (simp <;> omega))) | (with_reducible refine below_viap (by assumption) ?_ ?_; (first | omega | (simp <;> omega)))))
      clear hl1
      go_wp2_with fail
      refine (HS.out _ _ hl2).mono ?_
      rintro e v3 ⟨vw, rfl, hw3, hc3⟩
      have hz3 := hc3.size
      (try simp at hz3)
      have hl3 := own_call hc3 hl2
      have hb3 : Below w.heap.size w v3 := (by repeat (first | with_reducible exact Below.refl _ _ | with_reducible assumption | with_reducible apply Below.drew | with_reducible apply below_drewN | (with_reducible apply below_setp; (first | omega | (simp <;> omega))) | (with_reducible apply below_allocp; (first | omega | (simp <;> omega))) | (with_reducible refine below_viap (by assumption) ?_ ?_; (first | omega | (simp <;> omega)))))
      clear hl2
      have hk3 := hk2.call hc3
      go_wp2_with fail
      refine (sameLists_same vk vw _ _ K _ (by omega) hKl hk3 hw3).mono ?_
      rintro e v4 ⟨rfl, hc4⟩
      have hz4 := hc4.size
      (try simp at hz4)
      have hl4 := own_call hc4 hl3
      have hb4 : Below w.heap.size w v4 := (by repeat (first | with_reducible exact Below.refl _ _ | with_reducible assumption | with_reducible apply Below.drew | with_reducible apply below_drewN | (with_reducible apply below_setp; (first | omega | (simp <;> omega))) | (with_reducible apply below_allocp; (first | omega | (simp <;> omega))) | (with_reducible refine below_viap (by assumption) ?_ ?_; (first | omega | (simp <;> omega)))))
      clear hl3 hw3
      have hk4 := hk3.call hc4
      go_wp2_with fail
      refine (HG.out _ _ hl4).mono ?_
      rintro e v5 ⟨vp, rfl, hp5, hc5⟩
      have hz5 := hc5.size
      (try simp at hz5)
      have hl5 := own_call hc5 hl4
      have hb5 : Below w.heap.size w v5 := (by repeat (first | with_reducible exact Below.refl _ _ | with_reducible assumption | with_reducible apply Below.drew | with_reducible apply below_drewN | (with_reducible apply below_setp; (first | omega | (simp <;> omega))) | (with_reducible apply below_allocp; (first | omega | (simp <;> omega))) | (with_reducible refine below_viap (by assumption) ?_ ?_; (first | omega | (simp <;> omega)))))
      clear hl4
      have hk5 := hk4.call hc5
      obtain ⟨bp, cp, rfl⟩ := own_shape hp5
      go_wp2_with fail
      refine (HC.out _).mono ?_
      rintro e v6 ⟨rfl, hc6⟩
      have hz6 := hc6.size
      (try simp at hz6)
      have hl6 := own_call hc6 hl5
      have hp6 := own_call hc6 hp5
      have hb6 : Below w.heap.size w v6 := (by repeat (first | with_reducible exact Below.refl _ _ | with_reducible assumption | with_reducible apply Below.drew | with_reducible apply below_drewN | (with_reducible apply below_setp; (first | omega | (simp <;> omega))) | (with_reducible apply below_allocp; (first | omega | (simp <;> omega))) | (with_reducible refine below_viap (by assumption) ?_ ?_; (first | omega | (simp <;> omega)))))
      clear hl5 hp5
      have hk6 := hk5.call hc6
      obtain ⟨bl, cl, rfl⟩ := own_shape hl6
      obtain ⟨bk, ck, rfl⟩ := hk6.shape
      obtain ⟨kv, nk⟩ := hk6
      have HK := Lib.hid nk
      obtain ⟨p, hp⟩ : ∃ p, P.length = p := ⟨_, rfl⟩
      simp only [hp] at hp6 hmul HV HL bP ⊢
      have HP := Lib.hid hp
      have HOP := Lib.hid hp6
      have HOL := Lib.hid hl6
      clear hp nk hk2 hk3 hk4 hk5 hp6 hl6 HI HS HG HC hc2 hc3 hc4 hc5 hc6 hKl
      go_wp2
      go_loopw [15, 88] (fun vs vi wr => CoSt K v6 vs vi wr) (fun _ vi _ => K.length - (intOf vi).toNat)
      case atStart => exact ⟨0, rfl, Nat.zero_le _, World.ownsRow_nil _ _ _ _, (by repeat (first | with_reducible exact Below.refl _ _ | with_reducible assumption | with_reducible apply Below.drew | with_reducible apply below_drewN | (with_reducible apply below_setp; (first | omega | (simp <;> omega))) | (with_reducible apply below_allocp; (first | omega | (simp <;> omega))) | (with_reducible refine below_viap (by assumption) ?_ ?_; (first | omega | (simp <;> omega)))))⟩
      case round =>
        clear hmul
        obtain ⟨t, rfl, ht, hown, hbel⟩ := hrel
        have hzr := hbel.size
        by_cases hlt : t < K.length
        · obtain ⟨O, bc, cc, rfl, lO, cO, hco⟩ := HK.out.row_ hlt
          have hcl := HL.out t hlt
          have hrow := HT.out t hlt
          have hAl := HTl.out t
          generalize K[t] = c at cO hco hcl hrow
          obtain ⟨hA1, hrow2⟩ := hrow
          have HA1 := Lib.hid hA1
          clear hA1
          generalize (K.take t).flatten = A at hown HA1 hrow2 hAl
          have HC2 := Lib.hid hrow2
          have hcb : c.length ≤ 1640 := by omega
          rw [hcl] at cO hco
          have cOr := (hbel.cell (p := ⟨O, t, none⟩) lO).trans cO
          have HCL := Lib.hid hcl
          have HCO := Lib.hid hco
          have lO2 : O < wr.heap.size := by omega
          clear hcl hco hrow2 cO
          go_wp2
          obtain ⟨wo, rfl⟩ : ∃ wo : World, wo = wr := ⟨_, rfl⟩
          go_loopw [15, 99] (fun vs vj wr => CoIn A c v6 vs vj wr) (fun _ vj _ => p - (intOf vj).toNat)
          case atStart => exact ⟨0, rfl, Nat.zero_le _, by simpa using hown, hbel⟩
          case round =>
            clear hown cOr
            obtain ⟨s, rfl, hs, hown, hbel2⟩ := hrel
            have hzr2 := hbel2.size
            by_cases hls : s < p
            · have hsc : s < c.length := by rw [HCL.out]; exact hls
              have hco2 : wr.ownsRow v1.heap.size 3 1 (.slice bc p cc) c.length (cellsI c) := by rw [HCL.out]; exact own_call hbel2 HCO.out
              obtain ⟨g, rfl, lg, e1⟩ := own_elemI hco2 hsc
              obtain ⟨q1, q2, q3, q4⟩ := HC2.out s hsc
              have HN := Lib.hid q1
              have H4 := Lib.hid q4
              have hlen : (A ++ c.take s).length ≤ 3000000 := by rw [List.length_append, List.length_take]; omega
              clear hco2 q1 q4
              generalize c[s] = x at e1 HN q2 q3 H4
              go_wp2_with (first
                | (go_at_call 46; refine (pIn_no _ _ (A ++ c.take s) x _ (by omega) hown HN.out).mono ?_; rintro e v7 ⟨rfl, hc7⟩; have hz7 := hc7.size; have ho7 := own_call hc7 hown)
                | (at_builtin; refine wpList_append_own _ rfl (.tmp 115) (.tmp 117) 32 rfl v6.heap.size 3 i0 _ 1 8 Tryz.underlying32 iz iz0 iz1 iz2 rfl (by decide) u15 (A ++ c.take s).length (cellsI (A ++ c.take s)) rfl ?_ ⟨v7.heap.size, 0, none⟩ 1 1 [.int .i64 x] rfl rfl ?_ (one1 _) ?_ ?_ ?_ ?_; exact (by repeat (first | with_reducible assumption | with_reducible apply own_alloc | with_reducible apply own_drew | with_reducible apply own_drewN | (with_reducible refine own_setp (by assumption) ?_ ?_; (first | omega | (simp <;> omega))) | (with_reducible refine own_call (by assumption) ?_))); exact cells1 (Blk.new_at (by simp)); (unfold maxLen; omega); omega; (simp; omega); intro u8 w8 hown8 hg8 _))
              have hb8 : Below v6.heap.size v6 w8 := below_grown (own_ge ho7) (by simp; omega) hg8 (by repeat (first | with_reducible exact Below.refl _ _ | with_reducible assumption | with_reducible apply Below.drew | with_reducible apply below_drewN | (with_reducible apply below_setp; (first | omega | (simp <;> omega))) | (with_reducible apply below_allocp; (first | omega | (simp <;> omega))) | (with_reducible refine below_viap (by assumption) ?_ ?_; (first | omega | (simp <;> omega)))))
              have ho8 := own_snocI (L := A ++ c.take s) (K := A ++ c.take (s + 1)) (by rw [H4.out, List.append_assoc]) hown8
              go_roundw
              case rel => exact ⟨s + 1, by simp, by omega, ho8, hb8⟩
              case measure => simp [intOf]; omega
            · have e : (K.take (t + 1)).flatten = A ++ c.take s := by rw [HA1.out, List.take_of_length_le (by rw [HCL.out]; omega)]
              rw [← e] at hown
              go_wp2
              go_roundw
              case rel => exact ⟨t + 1, by simp, by omega, hown, hbel2⟩
              case measure => simp [intOf]; omega
        · clear hown
          go_wp2
          obtain ⟨wo, rfl⟩ : ∃ wo : World, wo = wr := ⟨_, rfl⟩
          go_loopw [123] (fun vi wr => CoLp Z.length v6 vi wr) (fun vi _ => Z.length - (intOf vi).toNat)
          case atStart => exact ⟨0, rfl, Nat.zero_le _, hbel⟩
          case round =>
            clear hbel hzr
            obtain ⟨s, rfl, hs, hbel⟩ := hrel
            have hzr := hbel.size
            by_cases hls : s < Z.length
            · obtain ⟨g, rfl, lg, d1, d2, d3⟩ := own_elem (own_call hbel HOL.out) hls
              have HFx := Lib.hid (HF.out Z[s] (List.getElem_mem hls))
              have HMx : red ⟨Z[s].a, Z[s].b, Z[s].c⟩ ∈ P := HM.out Z[s] (List.getElem_mem hls)
              generalize Z[s] = f at d1 d2 d3 HFx HMx
              generalize redM ⟨f.a, f.b, f.c⟩ M4.one = mm at HFx
              generalize red ⟨f.a, f.b, f.c⟩ = r at HFx HMx
              go_wp2_with fail
              refine (HFx.out _).mono ?_
              rintro e v12 ⟨rfl, hc12⟩
              have hz12 := hc12.size
              (try simp at hz12)
              have hb12 : Below v6.heap.size v6 v12 := (by repeat (first | with_reducible exact Below.refl _ _ | with_reducible assumption | with_reducible apply Below.drew | with_reducible apply below_drewN | (with_reducible apply below_setp; (first | omega | (simp <;> omega))) | (with_reducible apply below_allocp; (first | omega | (simp <;> omega))) | (with_reducible refine below_viap (by assumption) ?_ ?_; (first | omega | (simp <;> omega)))))
              clear d1 d2 d3
              go_wp2_with fail
              refine (pHas_yes (.slice bp p cp) _ P r _ (by rw [HP.out]; omega) (by rw [HP.out]; exact own_call (w := v6) (by repeat (first | with_reducible exact Below.refl _ _ | with_reducible assumption | with_reducible apply Below.drew | with_reducible apply below_drewN | (with_reducible apply below_setp; (first | omega | (simp <;> omega))) | (with_reducible apply below_allocp; (first | omega | (simp <;> omega))) | (with_reducible refine below_viap (by assumption) ?_ ?_; (first | omega | (simp <;> omega))))) HOP.out) HMx).mono ?_
              rintro e v13 ⟨rfl, hc13⟩
              have hz13 := hc13.size
              (try simp at hz13)
              have hb13 : Below v6.heap.size v6 v13 := (by repeat (first | with_reducible exact Below.refl _ _ | with_reducible assumption | with_reducible apply Below.drew | with_reducible apply below_drewN | (with_reducible apply below_setp; (first | omega | (simp <;> omega))) | (with_reducible apply below_allocp; (first | omega | (simp <;> omega))) | (with_reducible refine below_viap (by assumption) ?_ ?_; (first | omega | (simp <;> omega)))))
              go_wp2
              go_roundw
              case rel => exact ⟨s + 1, by simp, by omega, hb13⟩
              case measure => simp [intOf]; omega
            · go_wp2
              obtain ⟨wo2, rfl⟩ : ∃ wo : World, wo = wr := ⟨_, rfl⟩
              go_loopw [144] (fun vi wr => CoLp p v6 vi wr) (fun vi _ => p - (intOf vi).toNat)
              case atStart => exact ⟨0, rfl, Nat.zero_le _, hbel⟩
              case round =>
                clear hbel hzr
                obtain ⟨q, rfl, hq, hbel⟩ := hrel
                have hzr := hbel.size
                by_cases hlq : q < p
                · have hqP : q < P.length := by rw [HP.out]; exact hlq
                  obtain ⟨g, rfl, lg, d1, d2, d3⟩ := own_elem (L := P) (by rw [HP.out]; exact own_call hbel HOP.out) hqP
                  have HOx := Lib.hid (HO.out P[q] (List.getElem_mem hqP))
                  obtain ⟨n1, n2⟩ := HV.out P[q] (List.getElem_mem hqP)
                  generalize P[q] = f at d1 d2 d3 HOx n1 n2
                  generalize ordF d f = N at HOx n1 n2
                  have hmod : (p : Int).tmod (N : Int) = 0 := Int.tmod_eq_zero_of_dvd (Int.natCast_dvd_natCast.2 n2)
                  have hmod2 : (p : Int) % (N : Int) = 0 := Int.emod_eq_zero_of_dvd (Int.natCast_dvd_natCast.2 n2)
                  have hN0 : ¬ (N : Int) = 0 := by omega
                  have hN1 : ((N : Int) == 0) = false := by rw [beq_eq_false_iff_ne]; exact hN0
                  have hN2 : ¬ (N : Int) < 1 := by omega
                  have hN3 : 1 ≤ N := n1
                  clear n2 n1
                  go_wp2_with fail
                  refine (HOx.out _).mono ?_
                  rintro e v14 ⟨rfl, hc14⟩
                  have hz14 := hc14.size
                  (try simp at hz14)
                  have hb14 : Below v6.heap.size v6 v14 := (by repeat (first | with_reducible exact Below.refl _ _ | with_reducible assumption | with_reducible apply Below.drew | with_reducible apply below_drewN | (with_reducible apply below_setp; (first | omega | (simp <;> omega))) | (with_reducible apply below_allocp; (first | omega | (simp <;> omega))) | (with_reducible refine below_viap (by assumption) ?_ ?_; (first | omega | (simp <;> omega)))))
                  clear d1 d2 d3
                  go_wp2
                  go_roundw
                  case rel => exact ⟨q + 1, by simp, by omega, hb14⟩
                  case measure => simp [intOf]; omega
                · go_wp2
                  go_ret
                  exact ⟨rfl, (by repeat (first | with_reducible exact Below.refl _ _ | with_reducible assumption | with_reducible apply Below.drew | with_reducible apply below_drewN | (with_reducible apply below_setp; (first | omega | (simp <;> omega))) | (with_reducible apply below_allocp; (first | omega | (simp <;> omega))) | (with_reducible refine below_viap (by assumption) ?_ ?_; (first | omega | (simp <;> omega)))))⟩
  · have Hb := Lib.hid (fun w => big_yes A A2 zs.length es.length c1 c2 w hbig)
    clear HZ hbig
    go_enter Tryz.func6, Tryz.ntmps6
    go_wp2_with (go_at_call 10; (with_reducible refine (Hb.out _).mono ?_); rintro e v ⟨rfl, rfl⟩)
    go_ret
    exact ⟨rfl, (by repeat (first | with_reducible exact Below.refl _ _ | with_reducible assumption | with_reducible apply Below.drew | with_reducible apply below_drewN | (with_reducible apply below_setp; (first | omega | (simp <;> omega))) | (with_reducible apply below_allocp; (first | omega | (simp <;> omega))) | (with_reducible refine below_viap (by assumption) ?_ ?_; (first | omega | (simp <;> omega)))))⟩
theorem own_FnCosets : ownKnob Tryz.prog.godebug = none := by kernel_rfl

set_option maxRecDepth 100000 in
theorem lifted_FnCosets (os : Os) (started : os.Started) (H : Type) (enc : TypeId × Value → H) :
    ReturnsInHanded {} Tryz.checked os 6 .any (Rows.fnCosetsSpec.pre6 enc Tryz.prog Tryz.f6 Rows.fnCosetsRow.domain false) (Rows.fnCosetsSpec.post enc Tryz.prog Tryz.f6 false true false false) := by
  refine returnsInHanded_of_change (C := Tryz.checked) own_FnCosets started (by kernel_rfl) Tryz.func6
    (ChangeSpec.witness6 (enc := enc) (C := Tryz.checked) false ⟨#[], #[.slice none 0 0, .slice none 0 0], []⟩ 8 (by kernel_rfl) (by kernel_rfl) (by kernel_rfl) (by kernel_rfl)) ?_
  intro W base args ds gs before hval0 hW hcnd _
  have hval : ∀ (j : Nat) t v, Tryz.f6.params[j]? = some t → args[j]? = some v → Value.okWide Tryz.prog W .any base t v := hval0
  have hW' := hW
  obtain ⟨p, q, hA0, hV, rfl, hfz, hnd⟩ := hW
  have hA : DataW.TrodAll enc Tryz.prog W 0 (fun _ => true) true Tryz.f6.params.toList args.toList ds p := hA0
  rw [Tryz.params6] at hA hval
  obtain ⟨v1, vs1, d1, ds1, p1, q1, hargs, rfl, rfl, h1, r1⟩ := trodAll_cons hA
  obtain ⟨v2, vs2, d2, ds2, p2, q2, rfl, rfl, rfl, h2, r2⟩ := trodAll_cons r1
  obtain ⟨rfl, rfl, rfl⟩ := trodAll_nil r2
  obtain rfl : args = #[v1, v2] := by cases args; simp_all
  obtain ⟨rfl, rfl⟩ := trodVars_none hV
  obtain ⟨zs, hrd⟩ := open_reB (hval 0 22 v1 rfl rfl) h1
  obtain ⟨es, hre⟩ := open_reB (hval 1 22 v2 rfl rfl) h2
  have hlt1 : ∀ x ∈ p1, x.block < W.heap.size := fun x hx => hW'.lt x (by simp [hx])
  have hlt2 : ∀ x ∈ p2, x.block < W.heap.size := fun x hx => hW'.lt x (by simp [hx])
  clear hA0 hval0
  refine (walk_FnCosets zs es v1 v2 W hrd hre).mono fun e W' ⟨he, hg⟩ => ?_
  subst he
  exact ⟨_, rfl, post_of_below (pa := p1 ++ (p2 ++ [])) (pv := []) hW' (fun _ _ _ => (trodAll_cons_mk (shut_bool Tryz.underlying4 _) trodAll_mk0)) (fun sp hsp => (trodAll_cons_mk (WideElems.Trod_stays laid_D3 (by kernel_rfl) (of_decide_eq_true (by kernel_rfl)) h1 (fun x hx => hg.same (hlt1 x hx)) (fun x hx => hsp x (by simp [hx]))) (trodAll_cons_mk (WideElems.Trod_stays laid_D3 (by kernel_rfl) (of_decide_eq_true (by kernel_rfl)) h2 (fun x hx => hg.same (hlt2 x hx)) (fun x hx => hsp x (by simp [hx]))) trodAll_mk0))) (fun _ _ => rfl) rfl
    hg (ok_one (by kernel_rfl) rfl (okWide_bool_mk Tryz.underlying4 _))⟩

/-- The statement. -/
theorem holds_FnCosets : Rows.FnCosetsSaid :=
  OpenClaim.holds_of_wide 6 Tryz.f6 rfl rfl rfl rfl rfl rfl rfl ⟨rfl, rfl, rfl, rfl, rfl⟩ rfl rfl rfl rfl rfl (by kernel_rfl) Tryz.func6 (by kernel_rfl)
    (of_decide_eq_true (by kernel_rfl)) (by unfold Func.isWrapper; first | (rw [if_pos (by decide +kernel)]; kernel_rfl) | (rw [if_neg (by decide +kernel)]; exact ⟨rfl, rfl⟩))
    (fun os started H enc _ => lifted_FnCosets os started H enc)
#print axioms holds_FnCosets
end Go.Proofs.YteehcjjhkphdnaaGreat
