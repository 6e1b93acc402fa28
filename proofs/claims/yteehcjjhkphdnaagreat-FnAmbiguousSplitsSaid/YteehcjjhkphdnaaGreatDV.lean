/- Contracts: divisors from classes, of the program. -/
import Derived.Test.YteehcjjhkphdnaaGreatSO
import Derived.Test.YteehcjjhkphdnaaGreatCA
import Derived.Test.YteehcjjhkphdnaaGreatG5
namespace Go.Proofs.YteehcjjhkphdnaaGreat
open Go.RowKit Go.Maps

def oddB (n : Int) : Bool := decide (3 ≤ n) && (decide (n ≤ 499) && decide (n % 2 = 1))
def dvD (n : Int) : Int := if n % 4 = 3 then -n else -4 * n
def gcF (n : Int) (f : Fm) : Int := (Int.gcd n (splR f.a f.b f.c) : Nat)
def dvT (n : Int) : List Int := ((clsL (dvD n)).filter ambB).map (gcF n)
/-- What DivisorsFromClasses gives. -/
def DvL (n : Int) (R : List Int) (ok : Bool) : Prop := (oddB n = false ∧ R = [] ∧ ok = false) ∨ (oddB n = true ∧ R = (dvT n).foldl putI [] ∧ ok = true)
theorem oddB_bd {n : Int} (h : oddB n = true) : 3 ≤ n ∧ n ≤ 499 ∧ n % 2 = 1 := by
  unfold oddB at h
  simp only [Bool.and_eq_true, decide_eq_true_eq] at h
  exact h
theorem dvD_dsc {n : Int} (h : oddB n = true) : Dsc (dvD n) := by
  obtain ⟨h1, h2, h3⟩ := oddB_bd h
  unfold dvD
  split
  · exact ⟨by omega, by omega, by omega⟩
  · exact ⟨by omega, by omega, by omega⟩
set_option maxHeartbeats 400000 in
theorem isSplitNumber_any (n : Int) (w : World) : Calls Tryz.prog 156 #[.int .i64 n] w fun e w' => e = .returned (.bool (oddB n)) ∧ w = w' := by
  unfold oddB
  by_cases h1 : 3 ≤ n
  · have e := Int.tmod_eq_emod_of_nonneg (b := 2) (show 0 ≤ n by omega)
    by_cases h2 : n ≤ 499
    · go_enter Tryz.func156, Tryz.ntmps156
      go_wp2
      go_ret
      exact ⟨ret_bool (by rw [decide_eq_true h1, decide_eq_true h2, Bool.true_and, Bool.true_and, Bool.eq_iff_iff]; simp), rfl⟩
    · go_enter Tryz.func156, Tryz.ntmps156
      go_wp2
      go_ret
      exact ⟨ret_bool (by first | (simp; done) | (simp; omega) | (rw [Bool.eq_iff_iff]; simp; omega) | (simp_all; done) | (simp_all; omega)), rfl⟩
  · go_enter Tryz.func156, Tryz.ntmps156
    go_wp2
    go_ret
    exact ⟨ret_bool (by first | (simp; done) | (simp; omega) | (rw [Bool.eq_iff_iff]; simp; omega) | (simp_all; done) | (simp_all; omega)), rfl⟩
set_option maxHeartbeats 400000 in
theorem discFor_any (n : Int) (w : World) (h : oddB n = true) : Calls Tryz.prog 157 #[.int .i64 n] w fun e w' => e = .returned (.int .i64 (dvD n)) ∧ w = w' := by
  obtain ⟨h1, h2, h3⟩ := oddB_bd h
  clear h
  unfold dvD
  by_cases h4 : n % 4 = 3
  · have e4 : (n % 4 == 3) = true := by rw [beq_iff_eq]; exact h4
    rw [if_pos h4]
    clear h4
    go_enter Tryz.func157, Tryz.ntmps157
    go_wp2
    go_ret
    exact ⟨ret_int (by simp), rfl⟩
  · have e4 : (n % 4 == 3) = false := by rw [beq_eq_false_iff_ne]; exact h4
    rw [if_neg h4]
    clear h4
    go_enter Tryz.func157, Tryz.ntmps157
    go_wp2
    go_ret
    exact ⟨ret_int (by simp), rfl⟩
theorem one_amb (d : Int) : ambB (oneF d) = true := by
  unfold ambB isAmb oneF
  have h1 := Int.emod_nonneg d (show (2 : Int) ≠ 0 by omega)
  have h2 := Int.emod_lt_of_pos d (show (0 : Int) < 2 by omega)
  simp only [Bool.or_eq_true, decide_eq_true_eq]
  omega
theorem own_map {w w2 : World} {e : TypeId} {sz k B2 M : Nat} {u : Value} {xs : List Value} (ho : w.ownsRow B2 e sz u k xs) (hM : M < B2) (hg : w.grownBy w2 (some M)) : w2.ownsRow B2 e sz u k xs :=
  ho.kept hg (by
    cases hq : u.ownBlock with
    | none => exact .inl rfl
    | some q => exact .inr (fun he => by injection he with he; have := own_ge ho q hq; omega))
/-- The state of the loop: the list, the map in block M. -/
def DvSt (T : List Int) (A : List Fm) (M : Nat) (B : Nat) (vl : Value) (w : World) (v vi : Value) (wr : World) : Prop :=
  ∃ (k : Nat) (D : DataW Unit), vi = .int .i64 k ∧ k ≤ A.length ∧ Hid (wr.ownsMap Tryz.prog 3 (plainElem Tryz.prog 4) M ((T.take k).foldl addN []).length D) ∧ Hid (SetI D (fun x => decide (x ∈ (T.take k).foldl addN []))) ∧
    wr.ownsRow (w.heap.size + 1) 3 1 v ((T.take k).foldl addN []).length (cellsI ((T.take k).foldl addN [])) ∧ wr.ownsRow B 36 3 vl A.length (cellsF A) ∧ Apart v vl ∧ Below w.heap.size w wr

set_option maxRecDepth 100000 in
set_option maxHeartbeats 6400000 in
theorem implDv_any (n : Int) (R : List Int) (ok : Bool) (w : World) (h : DvL n R ok) :
    Calls Tryz.prog 69 #[.int .i64 n] w fun e w' => ∃ v, e = .returned (.tuple #[v, .bool ok]) ∧ w'.ownsRow w.heap.size 3 1 v R.length (cellsI R) ∧ Below w.heap.size w w' := by
  obtain ⟨i0, hi, hz0, hz1, hz2⟩ := info_parts infoInt
  have hS := Lib.hid (fun w => isSplitNumber_any n w)
  rcases h with ⟨hc, rfl, rfl⟩ | ⟨hc, hR, rfl⟩
  · rw [hc] at hS
    clear hc
    go_enter Tryz.func69, Tryz.ntmps69
    go_wp2_with (go_at_call 156; (with_reducible refine (hS.out _).mono ?_); rintro e v ⟨rfl, rfl⟩)
    go_ret2
    exact ⟨_, rfl, own_empty (by omega), (by repeat (first | with_reducible exact Below.refl _ _ | with_reducible assumption | with_reducible apply Below.drew | with_reducible apply below_drewN | (with_reducible apply below_setp; (first | omega | (simp <;> omega))) | (with_reducible apply below_allocp; (first | omega | (simp <;> omega))) | (with_reducible refine below_viap (by assumption) ?_ ?_; (first | omega | (simp <;> omega)))))⟩
  · rw [hc] at hS
    have hD := Lib.hid (fun w => discFor_any n w hc)
    have D := dvD_dsc hc
    obtain ⟨b1, b2, _⟩ := oddB_bd hc
    have hAm := Lib.hid (fun w => ambiguous_any (dvD n) w D.lo D.hi)
    have hmm := @run_makeMap Tryz.prog
    have hfd : ∀ (a b : Int) (w : World), (Instr.field 78 (.agg #[.int .i64 a, .int .i64 b]) 0).run Tryz.prog w = .ok (.int .i64 a) w := fun _ _ _ => by kernel_rfl
    have hT0 : 0 < (dvT n).length := by
      unfold dvT
      rw [List.length_map]
      exact List.length_pos_of_mem (List.mem_filter.2 ⟨D.one, one_amb _⟩)
    have hTl : (dvT n).length ≤ 1640 := by
      unfold dvT
      rw [List.length_map]
      exact Nat.le_trans (List.length_filter_le _ _) (clsL_len _)
    have hTk := Lib.hid (fun k (h : k < ((clsL (dvD n)).filter ambB).length) => (⟨by unfold dvT; rw [List.length_map]; exact h, by unfold dvT; simp⟩ : ∃ h2 : k < (dvT n).length, (dvT n)[k] = gcF n ((clsL (dvD n)).filter ambB)[k]))
    have hTe : (dvT n).length = ((clsL (dvD n)).filter ambB).length := by unfold dvT; rw [List.length_map]
    have hdf := Lib.hid (fun f (hf : f ∈ (clsL (dvD n)).filter ambB) => def_near (cls_def0 D (List.mem_filter.1 hf).1))
    rw [← srt_put] at hR
    have HR := Lib.hid hR
    clear hR
    generalize (clsL (dvD n)).filter ambB = A at *
    generalize dvT n = T at *
    generalize dvD n = d at *
    clear hc D
    have HTe := Lib.hid hTe
    clear hTe
    go_enter Tryz.func69, Tryz.ntmps69
    go_wp2_with (first
      | (go_at_call 156; (with_reducible refine (hS.out _).mono ?_); rintro e v ⟨rfl, rfl⟩)
      | (go_at_call 157; (with_reducible refine (hD.out _).mono ?_); rintro e v ⟨rfl, rfl⟩)
      | (go_at_call 80; refine (hAm.out _).mono ?_; rintro e w1 ⟨vl, rfl, howl, hb1⟩; obtain ⟨base, cap, rfl⟩ := own_shape howl))
    have hz1' := hb1.size
    (try simp at hz1')
    have hM := World.ownsMap_made (H := Unit) w Tryz.prog 3 (plainElem Tryz.prog 4)
    have hM1 := ownsMap_below (hM.alloc (.cells #[] 3)) hb1 (by simp; omega)
    have hE0 : ((w.alloc (.map #[] 0)).alloc (.cells #[] 3)).ownsRow (w.heap.size + 1) 3 1 (.slice (some ⟨w.heap.size + 1, 0, none⟩) 0 0) 0 [] := by
      have := own_empty (w := w.alloc (.map #[] 0)) (B := w.heap.size + 1) (e := 3) (sz := 1) (by simp)
      simpa using this
    have hE1 := own_call hb1 hE0
    have hap0 : Apart (.slice (some ⟨w.heap.size + 1, 0, none⟩) 0 0) (.slice base A.length cap) := apart_below howl (by simp)
    obtain ⟨B, hB⟩ : ∃ B : Nat, B = w.heap.size + 1 + 1 := ⟨_, rfl⟩
    have howl' : w1.ownsRow B 36 3 (.slice base A.length cap) A.length (cellsF A) := by rw [hB]; simpa using howl
    have hb1' : Below w.heap.size w w1 := (by repeat (first | with_reducible exact Below.refl _ _ | with_reducible assumption | with_reducible apply Below.drew | with_reducible apply below_drewN | (with_reducible apply below_setp; (first | omega | (simp <;> omega))) | (with_reducible apply below_allocp; (first | omega | (simp <;> omega))) | (with_reducible refine below_viap (by assumption) ?_ ?_; (first | omega | (simp <;> omega)))))
    clear hb1 hM hE0 howl
    go_loopw [5, 19] (fun v vi wr => DvSt T A w.heap.size B (.slice base A.length cap) w v vi wr) (fun _ vi _ => A.length - (intOf vi).toNat)
    case atStart => exact ⟨0, _, rfl, Nat.zero_le _, Lib.hid hM1, Lib.hid (by simpa using SetI.made), hE1, howl', hap0, hb1'⟩
    case round =>
      clear howl' hM1 hE1 hap0 hb1'
      obtain ⟨k, D, rfl, hk, hmap, hset, hown, howl, hap, hbel⟩ := hrel
      have hz := hbel.size
      have hml := hmap.out.lt
      have hPl := foldN_len (T.take k) []
      simp only [List.length_nil, Nat.zero_add] at hPl
      have hTkl : (T.take k).length ≤ 1640 := by rw [List.length_take]; omega
      by_cases hlt : k < A.length
      · obtain ⟨g, rfl, hg2, d1, d2, d3⟩ := own_elem howl hlt
        obtain ⟨hkT, hTx⟩ := hTk.out k hlt
        have hnx := foldN_take hkT
        rw [hTx] at hnx
        obtain ⟨n1, n2, n3⟩ := hdf.out A[k] (List.getElem_mem hlt)
        generalize A[k] = f at d1 d2 d3 hnx n1 n2 n3
        have hSp := Lib.hid (fun w => split_any f.a f.b f.c w n1 n2 n3)
        have hsb : -4000000000000000000 ≤ splR f.a f.b f.c ∧ splR f.a f.b f.c ≤ 4000000000000000000 := by
          obtain ⟨a1, a2⟩ := n1; obtain ⟨b1, b2⟩ := n2
          unfold splR
          split
          · omega
          · split <;> omega
        have hGc := Lib.hid (fun w => gcd_any n (splR f.a f.b f.c) w (by omega) (by omega) hsb.1 hsb.2)
        have hxb : 0 ≤ gcF n f ∧ gcF n f ≤ 1000000 := by
          unfold gcF
          have h1 : Int.gcd n (splR f.a f.b f.c) ≤ n.natAbs := Nat.le_of_dvd (by omega) (Nat.gcd_dvd_left _ _)
          omega
        have hwf := wf_small (n := gcF n f) (by omega) (by omega)
        have hkey := keyOf_int_mk Tryz.underlying3 hwf
        have hat := hset.out.2 (gcF n f) hwf
        dsimp only at hat
        have hset2 := Lib.hid (hset.out.put hwf)
        unfold gcF at hnx hkey hat hset2
        generalize ((Int.gcd n (splR f.a f.b f.c) : Nat) : Int) = x at hGc hnx hkey hat hset2
        generalize (T.take k).foldl addN [] = P at *
        have Hnx := Lib.hid hnx
        clear hTx hnx hsb hxb hwf n1 n2 n3
        by_cases hx : x ∈ P
        · rw [decide_eq_true hx] at hat
          have e : addN P x = P := by unfold addN; rw [if_pos hx]
          have Hn2 := Lib.hid (Hnx.out.trans e)
          clear hx e
          go_wp2_with (first
            | (go_at_call 152; refine (hSp.out _).mono ?_; rintro e v1 ⟨rfl, hB1⟩; have hZ1 := hB1.size; (try simp at hZ1))
            | (go_at_call 158; refine (hGc.out _).mono ?_; rintro e v2 ⟨rfl, nq, rfl⟩)
            | (at_lookup; refine wpList_lookup_bool _ rfl _ _ 143 rfl 3 4 law_SO Tryz.underlying143 Tryz.underlying4 (zeroBool_K1 _) w.heap.size P.length D rfl (ownsMap_below (B := wr.heap.size) hmap.out (by repeat (first | with_reducible exact Below.refl _ _ | with_reducible assumption | with_reducible apply Below.drew | with_reducible apply below_drewN | (with_reducible apply below_setp; (first | omega | (simp <;> omega))) | (with_reducible apply below_allocp; (first | omega | (simp <;> omega))) | (with_reducible refine below_viap (by assumption) ?_ ?_; (first | omega | (simp <;> omega))))) hml) _ (.int .i64 x) rfl hkey true hat ?_))
          have hbw : Below wr.heap.size wr (v1.drewN nq) := (by repeat (first | with_reducible exact Below.refl _ _ | with_reducible assumption | with_reducible apply Below.drew | with_reducible apply below_drewN | (with_reducible apply below_setp; (first | omega | (simp <;> omega))) | (with_reducible apply below_allocp; (first | omega | (simp <;> omega))) | (with_reducible refine below_viap (by assumption) ?_ ?_; (first | omega | (simp <;> omega)))))
          go_roundw
          case rel => exact ⟨k + 1, D, by simp, hlt, by rw [Hn2.out]; exact Lib.hid (ownsMap_below hmap.out hbw hml), by rw [Hn2.out]; exact hset, by rw [Hn2.out]; exact own_call hbw hown, own_call hbw howl, hap, below_via hbel hbw hz⟩
          case measure => simp [intOf]; omega
        · rw [decide_eq_false hx] at hat
          have e : addN P x = P ++ [x] := by unfold addN; rw [if_neg hx]
          have Hn2 := Lib.hid (Hnx.out.trans e)
          have hne : ∀ q, u5.ownBlock = some q → some w.heap.size ≠ some q := fun q hq he => by have := own_ge hown q hq; injection he with he; omega
          clear hx e
          go_wp2_with (first
            | (go_at_call 152; refine (hSp.out _).mono ?_; rintro e v1 ⟨rfl, hB1⟩; have hZ1 := hB1.size; (try simp at hZ1))
            | (go_at_call 158; refine (hGc.out _).mono ?_; rintro e v2 ⟨rfl, nq, rfl⟩)
            | (at_lookup; refine wpList_lookup_bool _ rfl _ _ 143 rfl 3 4 law_SO Tryz.underlying143 Tryz.underlying4 (zeroBool_K1 _) w.heap.size P.length D rfl (ownsMap_below (B := wr.heap.size) hmap.out (by repeat (first | with_reducible exact Below.refl _ _ | with_reducible assumption | with_reducible apply Below.drew | with_reducible apply below_drewN | (with_reducible apply below_setp; (first | omega | (simp <;> omega))) | (with_reducible apply below_allocp; (first | omega | (simp <;> omega))) | (with_reducible refine below_viap (by assumption) ?_ ?_; (first | omega | (simp <;> omega))))) hml) _ (.int .i64 x) rfl hkey false hat ?_)
            | (at_mapUpdate; refine wpList_mapUpdate_own _ rfl _ _ _ 143 rfl 3 4 law_SO Tryz.underlying143 (plainElem Tryz.prog 4) w.heap.size P.length D rfl (ownsMap_below (B := wr.heap.size) hmap.out (by repeat (first | with_reducible exact Below.refl _ _ | with_reducible assumption | with_reducible apply Below.drew | with_reducible apply below_drewN | (with_reducible apply below_setp; (first | omega | (simp <;> omega))) | (with_reducible apply below_allocp; (first | omega | (simp <;> omega))) | (with_reducible refine below_viap (by assumption) ?_ ?_; (first | omega | (simp <;> omega))))) hml) (by unfold maxLen; omega) _ _ (.int .i64 x) rfl rfl hkey (.lit (.bool true)) [] (plainElem_bool Tryz.underlying4 true) ?_; intro w2 hown2 hgrow2
               have hbw : Below wr.heap.size wr (v1.drewN nq) := (by repeat (first | with_reducible exact Below.refl _ _ | with_reducible assumption | with_reducible apply Below.drew | with_reducible apply below_drewN | (with_reducible apply below_setp; (first | omega | (simp <;> omega))) | (with_reducible apply below_allocp; (first | omega | (simp <;> omega))) | (with_reducible refine below_viap (by assumption) ?_ ?_; (first | omega | (simp <;> omega)))))
               have hol2 := own_map (own_call hbw hown) (by omega) hgrow2
               have hoA2 := own_map (own_call hbw howl) (by omega) hgrow2
               have hZ2 := hgrow2.size; (try simp at hZ2))
            | (at_builtin; refine wpList_append_own_at _ rfl (.tmp 34) (.tmp 36) 32 rfl (w.heap.size + 1) 3 i0 _ 1 8 Tryz.underlying32 hi hz0 hz1 hz2 rfl (by decide) u5 P.length (cellsI P) rfl ?_ ⟨w2.heap.size, 0, none⟩ 1 1 [.int .i64 x] rfl rfl ?_ (one1 _) ?_ ?_ ?_ ?_; exact (by repeat (first | with_reducible assumption | with_reducible apply own_alloc | with_reducible apply own_drew | with_reducible apply own_drewN | (with_reducible refine own_setp (by assumption) ?_ ?_; (first | omega | (simp <;> omega))) | (with_reducible refine own_call (by assumption) ?_))); exact cells1 (Blk.new_at (by simp)); (unfold maxLen; omega); omega; (simp; omega); intro v3 w3 hown3 hg3 _ hloc))
          have hb2 : Below w.heap.size w w2 := (below_via hbel hbw hz).grown hgrow2 (by simp; omega) (fun q hq => by injection hq with hq; omega)
          have hb3 : Below w.heap.size w w3 := below_grown (fun q hq => Nat.le_trans (by omega) (own_ge hol2 q hq)) (by simp; omega) hg3 (by repeat (first | with_reducible exact Below.refl _ _ | with_reducible assumption | with_reducible apply Below.drew | with_reducible apply below_drewN | (with_reducible apply below_setp; (first | omega | (simp <;> omega))) | (with_reducible apply below_allocp; (first | omega | (simp <;> omega))) | (with_reducible refine below_viap (by assumption) ?_ ?_; (first | omega | (simp <;> omega)))))
          have hmap3 := World.ownsMap.kept (row := u5.ownBlock) (hown2.alloc _) hg3 (fun he => by have := own_ge hol2 _ he.symm; omega)
          have hA3 := (own_alloc (o := .cells #[.int .i64 x] 3) hoA2).kept hg3 hap
          have hap3 := apart_next hap (own_alloc (o := .cells #[.int .i64 x] 3) hoA2) (Nat.le_refl _) hloc
          have hset3 : SetI (D.put (.int .i64 x) (.lit (.bool true))) (fun y => decide (y ∈ (T.take (k + 1)).foldl addN [])) := by
            have e : (fun y => decide (y ∈ (T.take (k + 1)).foldl addN [])) = fun y => decide (y ∈ P) || decide (y = x) := by
              funext y
              rw [Hn2.out, Bool.eq_iff_iff]
              simp
            rw [e]; exact hset2.out
          have hl3 : ((T.take (k + 1)).foldl addN []).length = P.length + 1 := by rw [Hn2.out]; simp
          refine ⟨⟨k + 1, _, by simp, hlt, Lib.hid (by rw [hl3]; exact hmap3), Lib.hid hset3, own_snocI Hn2.out hown3, hA3, hap3, hb3⟩, by simp [intOf]; omega⟩
      · have e : k = A.length := by omega
        have hxk : T.take k = T := by rw [List.take_of_length_le]; rw [HTe.out]; omega
        rw [hxk] at hown hPl
        have hP0 : 0 < (T.foldl addN []).length := by
          obtain ⟨x0, hx0⟩ := List.exists_mem_of_length_pos hT0
          exact List.length_pos_of_mem (((foldN_ok T [] List.nodup_nil).2 x0).2 (.inr hx0))
        generalize T.foldl addN [] = P at *
        clear hset hmap howl hap hxk
        subst e
        go_wp2_with (go_at_call 159; refine (sortInts_any P _ (w.heap.size + 1) _ (by omega) (by omega) hP0 hown).mono ?_; rintro e w5 ⟨rfl, hs5, hb5⟩)
        go_ret2
        refine ⟨_, rfl, ?_, ?_⟩
        · have h6 := own_base (B := w.heap.size + 1) (B' := w.heap.size) (by omega) hs5
          rw [HR.out, srt_len]
          exact h6
        · exact hbel.trans ⟨hb5.os, hb5.tape, hb5.output, hb5.size, fun q hq => hb5.block q (by omega)⟩
end Go.Proofs.YteehcjjhkphdnaaGreat
