/- Contracts of PowerClasses by the program: the powers as a map, the classes that are powers. -/
import Derived.Test.YteehcjjhkphdnaaGreatK1
import Derived.Test.YteehcjjhkphdnaaGreatGG
namespace Go.Proofs.YteehcjjhkphdnaaGreat
open Go.RowKit

/-- The f that are an n-th power of a class in L. -/
noncomputable def powP (d : Int) (n : Nat) (L : List Fm) (f : Fm) : Bool := L.any fun g => fmEq f (pw d g n)
theorem powP_next {d : Int} {n k : Nat} {L : List Fm} (h : k < L.length) (f : Fm) : powP d n (L.take (k + 1)) f = (powP d n (L.take k) f || fmEq f (pw d L[k] n)) := by
  unfold powP
  rw [List.take_succ_eq_append_getElem h, List.any_append]
  simp
theorem cls_wf {d : Int} {f : Fm} (h1 : -2000 ≤ d) (hf : f ∈ clsL d) : WfF f := by
  obtain ⟨⟨a1, a2⟩, ⟨b1, b2⟩, ⟨c1, c2⟩⟩ := cls_bd h1 hf
  exact ⟨wf_small (by omega) (by omega), wf_small (by omega) (by omega), wf_small (by omega) (by omega)⟩
theorem cls_pw {d : Int} {f : Fm} (D : Dsc d) (hf : f ∈ clsL d) (n : Nat) : pw d f n ∈ clsL d := D.pwm hf n

theorem apart_new {w : World} {B : Nat} {e : TypeId} {sz n m c : Nat} {vl : Value} {xs : List Value} (h : w.ownsRow B e sz vl n xs) : Apart (.slice (some ⟨w.heap.size, 0, none⟩) m c) vl := by
  unfold Apart
  cases h2 : vl.ownBlock with
  | none => exact .inl rfl
  | some b =>
    refine .inr (fun he => ?_)
    have := (h.lt b h2).2
    simp [Value.ownBlock] at he
    omega
/-- The state of the first loop: the map in block M. -/
def Pc1 (d : Int) (n : Nat) (L : List Fm) (M B : Nat) (vl : Value) (w : World) (vi : Value) (wr : World) : Prop :=
  ∃ (k : Nat) (D : DataW Unit), vi = .int .i64 k ∧ k ≤ L.length ∧ Hid (wr.ownsMap Tryz.prog 36 (plainElem Tryz.prog 4) M k D) ∧ Hid (SetF D (powP d n (L.take k))) ∧
    wr.ownsRow B 36 3 vl L.length (cellsF L) ∧ Below w.heap.size w wr
/-- The state of the second loop. -/
def Pc2 (p : Fm → Bool) (L : List Fm) (M B N0 : Nat) (D : DataW Unit) (vl : Value) (w : World) (v vi : Value) (wr : World) : Prop :=
  ∃ k : Nat, vi = .int .i64 k ∧ k ≤ L.length ∧ wr.ownsRow N0 36 3 v ((L.take k).filter p).length (cellsF ((L.take k).filter p)) ∧ wr.ownsRow B 36 3 vl L.length (cellsF L) ∧ Apart v vl ∧
    Hid (wr.ownsMap Tryz.prog 36 (plainElem Tryz.prog 4) M L.length D) ∧ N0 ≤ wr.heap.size ∧ Below w.heap.size w wr

set_option maxRecDepth 100000 in
set_option maxHeartbeats 3200000 in
theorem powerClasses_any (d : Int) (n : Nat) (w : World) (hD : Dsc d) (hn : (n : Int) ≤ 100) :
    Calls Tryz.prog 108 #[.int .i64 d, .int .i64 n] w (RetF ((clsL d).filter (powP d n (clsL d))) w) := by
  obtain ⟨i0, hi, hz0, hz1, hz2⟩ := info_parts infoForm
  have hl : (clsL d).length ≤ 100000 := Nat.le_trans (clsL_len d) (by decide)
  have Hr := Lib.hid (fun w => reducedForms_any d w hD.lo hD.hi)
  have hwf := Lib.hid (fun f (h : f ∈ clsL d) => cls_wf hD.lo h)
  have hpm := Lib.hid (fun f (h : f ∈ clsL d) => cls_pw hD h n)
  have hcm := Lib.hid (fun f (h : f ∈ clsL d) => CF.of_mem hD h)
  have hmm := @run_makeMap Tryz.prog
  generalize clsL d = L at *
  go_enter Tryz.func108, Tryz.ntmps108
  go_wp2_with (go_at_call 107; refine (Hr.out _).mono ?_; rintro e w1 ⟨vl, rfl, howl, hb1⟩; obtain ⟨base, cap, rfl⟩ := own_shape howl)
  have hz1' := hb1.size
  have hMw : w.heap.size ≤ w1.heap.size := hz1'
  have hM := World.ownsMap_made (H := Unit) w1 Tryz.prog 36 (plainElem Tryz.prog 4)
  obtain ⟨B, hB⟩ : ∃ B : Nat, B = w.heap.size := ⟨_, rfl⟩
  rw [← hB] at howl
  have hap0 : (Value.slice base L.length cap).ownBlock = none ∨ (Value.slice base L.length cap).ownBlock ≠ some w1.heap.size := by
    cases h3 : (Value.slice base L.length cap).ownBlock with
    | none => exact .inl rfl
    | some b => exact .inr (fun he => by have := (howl.lt b h3).2; injection he with he; omega)
  go_loopw [17] (fun i wr => Pc1 d n L w1.heap.size B (.slice base L.length cap) w i wr) (fun i _ => L.length - (intOf i).toNat)
  case atStart => exact ⟨0, _, rfl, Nat.zero_le _, Lib.hid hM, Lib.hid (by have e : powP d n (L.take 0) = fun _ => false := funext fun _ => rfl; rw [e]; exact SetF.made), own_alloc howl, (by repeat (first | with_reducible exact Below.refl _ _ | with_reducible assumption | with_reducible apply Below.drew | with_reducible apply below_drewN | (with_reducible apply below_setp; (first | omega | (simp <;> omega))) | (with_reducible apply below_allocp; (first | omega | (simp <;> omega))) | (with_reducible refine below_viap (by assumption) ?_ ?_; (first | omega | (simp <;> omega)))))⟩
  case round =>
    clear howl hb1 hz1' hM
    obtain ⟨k, D, rfl, hk, hmap, hset, howl, hbel⟩ := hrel
    have hz := hbel.size
    have hml := hmap.out.lt
    by_cases hlt : k < L.length
    · obtain ⟨g, rfl, hg2, d1, d2, d3⟩ := own_elem howl hlt
      have hnx := Lib.hid (powP_next (d := d) (n := n) hlt)
      have hfm := List.getElem_mem hlt
      generalize L[k] = f at d1 d2 d3 hnx hfm
      obtain ⟨P, hP⟩ : ∃ P, pw d f n = P := ⟨_, rfl⟩
      have hW := Lib.hid (fun w => powerForm_any d f f P n w (hcm.out f hfm) (by omega) hP)
      have hPw : WfF P := hwf.out P (hP ▸ hpm.out f hfm)
      have hkey := key_klF hPw
      have hset2 := Lib.hid (hset.out.put hPw)
      rw [hP] at hnx
      clear hfm hP
      go_wp2_with (first
        | (go_at_call 131; (with_reducible refine (hW.out _).mono ?_); rintro e v1 ⟨rfl, hB1⟩; have hZ1 := hB1.size; (try simp at hZ1); (try have zl1 : w.heap.size < v1.heap.size := by omega); (try have ze1 : w.heap.size ≤ v1.heap.size := by omega); (try have zn1 : ¬ w.heap.size = v1.heap.size := by omega); (try have zm1 : ¬ v1.heap.size = w.heap.size := by omega); have hC1_0 := fun o => (calm_cells hB1).1 (wr.heap.size) o (by first | omega | (simp <;> omega)); have hF1_0 := fun o => (calm_cells hB1).2 (wr.heap.size) o (by first | omega | (simp <;> omega)); (try have hl1_0 : wr.heap.size < v1.heap.size := by omega); (try have hm1_0 : ¬ wr.heap.size = v1.heap.size := by omega); (try have hn1_0 : ¬ v1.heap.size = wr.heap.size := by omega))
        | (at_mapUpdate; refine wpList_mapUpdate_own _ rfl _ _ _ 150 rfl 36 4 law_K1 Tryz.underlying150 (plainElem Tryz.prog 4) w1.heap.size k D rfl (ownsMap_below (hmap.out.alloc _) hB1 (by simp; omega)) (by unfold maxLen; omega) _ _ (klF P) rfl rfl hkey (.lit (.bool true)) [] (plainElem_bool Tryz.underlying4 true) ?_; intro w2 hown2 hgrow2))
      have hol1 : v1.ownsRow B 36 3 (.slice (some ⟨g, 0, none⟩) L.length cap) L.length (cellsF L) := (by repeat (first | with_reducible assumption | with_reducible apply own_alloc | with_reducible apply own_drew | with_reducible apply own_drewN | (with_reducible refine own_setp (by assumption) ?_ ?_; (first | omega | (simp <;> omega))) | (with_reducible refine own_call (by assumption) ?_)))
      have hol2 := hol1.kept hgrow2 hap0
      have hbel1 : Below w.heap.size w v1 := (by repeat (first | with_reducible exact Below.refl _ _ | with_reducible assumption | with_reducible apply Below.drew | with_reducible apply below_drewN | (with_reducible apply below_setp; (first | omega | (simp <;> omega))) | (with_reducible apply below_allocp; (first | omega | (simp <;> omega))) | (with_reducible refine below_viap (by assumption) ?_ ?_; (first | omega | (simp <;> omega)))))
      have hbel2 : Below w.heap.size w w2 := hbel1.grown hgrow2 hbel1.size (fun q hq => by injection hq with hq; omega)
      have hset3 : SetF (D.put (klF P) (.lit (.bool true))) (powP d n (L.take (k + 1))) := by
        have e : powP d n (L.take (k + 1)) = fun f => powP d n (L.take k) f || fmEq f P := funext hnx.out
        rw [e]; exact hset2.out
      have Hset3 := Lib.hid hset3
      have Hown2 := Lib.hid hown2
      clear hset3 hown2 hset hset2 hmap hgrow2 hol1 howl hbel hbel1
      go_wp2
      go_roundw
      case rel => exact ⟨k + 1, _, rfl, hlt, Hown2, Hset3, hol2, hbel2⟩
      case measure => simp [intOf]; omega
    · have e : k = L.length := by omega
      have hpe : powP d n (L.take k) = powP d n L := by rw [e, List.take_length]
      rw [hpe] at hset
      generalize powP d n L = p at *
      have Hmap := Lib.hid (show wr.ownsMap Tryz.prog 36 (plainElem Tryz.prog 4) w1.heap.size L.length D from e ▸ hmap.out)
      clear hmap hpe
      subst e
      go_wp2
      obtain ⟨N0, hN0⟩ : ∃ N0 : Nat, N0 = wr.heap.size := ⟨_, rfl⟩
      have hap3 : Apart (.slice (some ⟨wr.heap.size, 0, none⟩) 0 0) (.slice base L.length cap) := apart_new howl
      have hw0 : w.heap.size ≤ N0 := by rw [hN0]; exact hz
      go_loopw [9, 29] (fun v i wx => Pc2 p L w1.heap.size B N0 D (.slice base L.length cap) w v i wx) (fun _ i _ => L.length - (intOf i).toNat)
      case atStart => exact ⟨0, rfl, Nat.zero_le _, own_empty (by omega), own_alloc howl, hap3, Lib.hid (Hmap.out.alloc _), by simp; omega, (by repeat (first | with_reducible exact Below.refl _ _ | with_reducible assumption | with_reducible apply Below.drew | with_reducible apply below_drewN | (with_reducible apply below_setp; (first | omega | (simp <;> omega))) | (with_reducible apply below_allocp; (first | omega | (simp <;> omega))) | (with_reducible refine below_viap (by assumption) ?_ ?_; (first | omega | (simp <;> omega)))))⟩
      case round =>
        clear howl hbel hap3
        obtain ⟨k, rfl, hk, hown, howl, hap, hmap, hN1, hbel⟩ := hrel
        by_cases hlt : k < L.length
        · obtain ⟨g, rfl, hg2, d1, d2, d3⟩ := own_elem howl hlt
          have hft := filter_take (p := p) hlt
          have hfm := List.getElem_mem hlt
          generalize L[k] = f at d1 d2 d3 hft hfm
          have Hft := Lib.hid hft
          have hkey := key_klF (hwf.out f hfm)
          have hat := hset.out.2 f (hwf.out f hfm)
          clear hft hfm
          have hz := hbel.size
          have hlf := filter_len (p := p) L k hl
          by_cases hp : p f = true
          · have hx := Lib.hid (Hft.out.trans (by rw [if_pos hp]))
            rw [hp] at hat
            clear hp
            go_wp2_with (first
              | (at_lookup; refine wpList_lookup_bool _ rfl _ _ 150 rfl 36 4 law_K1 Tryz.underlying150 Tryz.underlying4 (zeroBool_K1 _) w1.heap.size L.length D rfl (hmap.out.alloc _) _ (klF f) rfl hkey true hat ?_)
              | (at_builtin; refine wpList_append_own_at _ rfl (.tmp 36) (.tmp 38) 25 rfl N0 36 i0 _ 3 24 Tryz.underlying25 hi hz0 hz1 hz2 rfl (by decide) u9 ((L.take k).filter p).length (cellsF ((L.take k).filter p)) rfl ?_ ⟨wr.heap.size + 1, 0, none⟩ 1 1 [.int .i64 f.a, .int .i64 f.b, .int .i64 f.c] rfl rfl ?_ (one3 _ _ _) ?_ ?_ ?_ ?_; exact (by repeat (first | with_reducible assumption | with_reducible apply own_alloc | with_reducible apply own_drew | with_reducible apply own_drewN | (with_reducible refine own_setp (by assumption) ?_ ?_; (first | omega | (simp <;> omega))) | (with_reducible refine own_call (by assumption) ?_))); exact cells3 (Blk.new_at (by simp)); (unfold maxLen; omega); omega; (simp; omega); intro v2 w2 hown2 hg2 _ hloc))
            have hs2 := hg2.size
            (try simp at hs2)
            have hb2 : Below w.heap.size w w2 := below_grown (fun q hq => Nat.le_trans hw0 (own_ge hown q hq)) (by simp; omega) hg2 (by repeat (first | with_reducible exact Below.refl _ _ | with_reducible assumption | with_reducible apply Below.drew | with_reducible apply below_drewN | (with_reducible apply below_setp; (first | omega | (simp <;> omega))) | (with_reducible apply below_allocp; (first | omega | (simp <;> omega))) | (with_reducible refine below_viap (by assumption) ?_ ?_; (first | omega | (simp <;> omega)))))
            have ho2 := own_snoc hx.out hown2
            have hol1 : ((wr.alloc (Obj.cells #[Value.int IntKind.i64 f.a, Value.int IntKind.i64 f.b, Value.int IntKind.i64 f.c] 36)).alloc (Obj.cells #[Value.int IntKind.i64 f.a, Value.int IntKind.i64 f.b, Value.int IntKind.i64 f.c] 36)).ownsRow B 36 3 (.slice (some ⟨g, 0, none⟩) L.length cap) L.length (cellsF L) := (by repeat (first | with_reducible assumption | with_reducible apply own_alloc | with_reducible apply own_drew | with_reducible apply own_drewN | (with_reducible refine own_setp (by assumption) ?_ ?_; (first | omega | (simp <;> omega))) | (with_reducible refine own_call (by assumption) ?_)))
            have hol2 := hol1.kept hg2 hap
            have hap2 := apart_next hap hol1 (Nat.le_refl _) hloc
            have hmap2 := Lib.hid (World.ownsMap.kept (row := u9.ownBlock) ((hmap.out.alloc _).alloc _) hg2 (fun he => by have := own_ge hown _ he.symm; omega))
            clear hg2 hown2 hown hbel howl hap hol1 hloc hmap
            go_wp2
            go_roundw
            case rel => exact ⟨k + 1, rfl, hlt, ho2, hol2, hap2, hmap2, by omega, hb2⟩
            case measure => simp [intOf]; omega
          · have hx := Lib.hid (Hft.out.trans (by rw [if_neg hp, List.append_nil]))
            have hp2 : p f = false := by simpa using hp
            rw [hp2] at hat
            clear hp hp2
            go_wp2_with (at_lookup; refine wpList_lookup_bool _ rfl _ _ 150 rfl 36 4 law_K1 Tryz.underlying150 Tryz.underlying4 (zeroBool_K1 _) w1.heap.size L.length D rfl (hmap.out.alloc _) _ (klF f) rfl hkey false hat ?_)
            go_roundw
            case rel => exact ⟨k + 1, rfl, hlt, by rw [hx.out]; exact (by repeat (first | with_reducible assumption | with_reducible apply own_alloc | with_reducible apply own_drew | with_reducible apply own_drewN | (with_reducible refine own_setp (by assumption) ?_ ?_; (first | omega | (simp <;> omega))) | (with_reducible refine own_call (by assumption) ?_))), (by repeat (first | with_reducible assumption | with_reducible apply own_alloc | with_reducible apply own_drew | with_reducible apply own_drewN | (with_reducible refine own_setp (by assumption) ?_ ?_; (first | omega | (simp <;> omega))) | (with_reducible refine own_call (by assumption) ?_))), hap, Lib.hid (hmap.out.alloc _), by simp; omega, (by repeat (first | with_reducible exact Below.refl _ _ | with_reducible assumption | with_reducible apply Below.drew | with_reducible apply below_drewN | (with_reducible apply below_setp; (first | omega | (simp <;> omega))) | (with_reducible apply below_allocp; (first | omega | (simp <;> omega))) | (with_reducible refine below_viap (by assumption) ?_ ?_; (first | omega | (simp <;> omega)))))⟩
            case measure => simp [intOf]; omega
        · have e : k = L.length := by omega
          have hx : (L.take k).filter p = L.filter p := by rw [e, List.take_length]
          have Hx := Lib.hid hx
          clear hx
          subst e
          go_wp2
          go_ret
          exact ⟨_, rfl, own_base (B := N0) hw0 (by rw [← Hx.out]; exact hown), hbel⟩
end Go.Proofs.YteehcjjhkphdnaaGreat
