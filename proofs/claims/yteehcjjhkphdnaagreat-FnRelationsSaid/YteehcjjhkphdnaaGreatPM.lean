/- Contracts of LeastRelation, of the reference. -/
import Derived.Test.YteehcjjhkphdnaaGreatPL
namespace Go.Proofs.YteehcjjhkphdnaaGreat
open Go.RowKit

def LsSt (h : Nat → Option (List Int)) (R : List Int) (w1 : World) (vs : Value) (wr : World) : Prop :=
  ∃ s k : Nat, vs = .int .i64 s ∧ 1 ≤ s ∧ s + k = 1642 ∧ Hid (lsUp h k s = some R) ∧ Below w1.heap.size w1 wr
def LdSt (h : Nat → Option (List Int)) (o : Option (List Int)) (m : Nat) (w1 : World) (va : Value) (wr : World) : Prop :=
  ∃ k : Nat, va = .int .i64 ((k : Int) - 1) ∧ k ≤ m + 1 ∧ Hid (loopD h k = o) ∧ Below w1.heap.size w1 wr

set_option maxRecDepth 100000 in
set_option maxHeartbeats 6400000 in
theorem specLr_any (d : Int) (v : Value) (B : Nat) (Z R : List Int) (ok : Bool) (w : World) (hlz : Z.length ≤ 10000000) (h : LrP d Z R ok) (ho : w.ownsRow B 3 1 v Z.length (cellsI Z)) :
    Calls Tryz.prog 27 #[.int .i64 d, v] w (RetIc R ok w) := by
  have hP0 := fun w ho => amPrimes_any d Z v B w hlz ho
  have HO := Lib.hid ho
  obtain ⟨bz, cz, rfl⟩ := own_shape ho
  clear ho
  have hbad : pfsO d Z 3 = none → R = [] ∧ ok = false := fun hz => by
    rcases h with ⟨_, a, b⟩ | ⟨a, _⟩
    · exact ⟨a, b⟩
    · rw [lrO_none hz] at a; cases a
  cases hc : isDisc d with
  | false =>
    obtain ⟨rfl, rfl⟩ := hbad (by unfold pfsO; rw [hc]; rfl)
    clear hP0 hbad h
    go_enter Tryz.func27, Tryz.ntmps27
    go_wp2_with (go_at_call 74; (with_reducible refine (rDisc_eq d false _ hc).mono ?_); rintro e v ⟨rfl, rfl⟩)
    go_ret2
    exact ⟨_, rfl, World.ownsRow_nil _ _ _ _, (by repeat (first | with_reducible exact Below.refl _ _ | with_reducible assumption | with_reducible apply Below.drew | with_reducible apply below_drewN | (with_reducible apply below_setp; (first | omega | (simp <;> omega))) | (with_reducible apply below_allocp; (first | omega | (simp <;> omega))) | (with_reducible refine below_viap (by assumption) ?_ ?_; (first | omega | (simp <;> omega)))))⟩
  | true =>
    by_cases h13 : 1 ≤ (Z.length : Int) ∧ (Z.length : Int) ≤ 3
    · have hl13 : (decide (1 ≤ (Z.length : Int)) && decide ((Z.length : Int) ≤ 3)) = true := by rw [decide_eq_true h13.1, decide_eq_true h13.2]; rfl
      have hpo : pfsO d Z 3 = pfL d Z := by unfold pfsO; rw [if_pos ⟨hc, by omega, by omega⟩]
      cases hz : pfL d Z with
      | none =>
        obtain ⟨rfl, rfl⟩ := hbad (hpo.trans hz)
        have hP := Lib.hid (fun w ho => (show Calls Tryz.prog 91 #[.int .i64 d, .slice bz Z.length cz] w (fun e w' => e = .returned (.tuple #[.slice none 0 0, .bool false]) ∧ Below w.heap.size w w') from (hP0 w ho).mono (fun e w' h => by
          rcases h with ⟨_, a, b⟩ | ⟨L, v, a, _⟩
          · exact ⟨a, b⟩
          · rw [hz] at a; cases a)))
        clear hP0 hz hpo hbad h
        go_enter Tryz.func27, Tryz.ntmps27
        go_wp2_with (first
          | (go_at_call 74; (with_reducible refine (rDisc_eq d true _ hc).mono ?_); rintro e v ⟨rfl, rfl⟩)
          | (go_at_call 89; refine (l1In_any _ _ _ _).mono ?_; rw [hl13]; rintro e v1 ⟨rfl, rfl⟩)
          | (go_at_call 91; refine (hP.out _ HO.out).mono ?_; rintro e w1 ⟨rfl, hb1⟩))
        go_ret2
        exact ⟨_, rfl, World.ownsRow_nil _ _ _ _, hb1⟩
      | some L =>
        have hz3 := hpo.trans hz
        obtain ⟨E, hE1, hE2⟩ := lrO_some hz3
        obtain ⟨rfl, rfl⟩ : R = E ∧ ok = true := by
          rcases h with ⟨a, _⟩ | ⟨a, b⟩
          · rw [hE1] at a; cases a
          · rw [hE1] at a; injection a with a; exact ⟨a.symm, b⟩
        obtain ⟨_, hcf, hlen, hle, hl1⟩ := pfsO_cf hz3
        have D := dsc_of hc
        have hP := Lib.hid (fun w ho => (show Calls Tryz.prog 91 #[.int .i64 d, .slice bz Z.length cz] w (fun e w' => ∃ v, e = .returned (.tuple #[v, .bool true]) ∧ w'.ownsRow w.heap.size 36 3 v (L.map red).length (cellsF (L.map red)) ∧ Below w.heap.size w w') from (hP0 w ho).mono (fun e w' h => by
          rcases h with ⟨a, _⟩ | ⟨L, v, a, b⟩
          · rw [hz] at a; cases a
          · rw [hz] at a; injection a with a; subst a; exact ⟨v, b⟩)))
        have hKm : ∀ f ∈ L.map red, f ∈ clsL d := fun f hf => by
          obtain ⟨g, hg, rfl⟩ := List.mem_map.1 hf
          exact (hcf g hg).mem
        have hKl : (L.map red).length = Z.length := by rw [List.length_map]; exact hlen
        rw [hlen] at hE2
        generalize L.map red = K at *
        obtain ⟨o, ho1⟩ : ∃ o, oneF d = o := ⟨_, rfl⟩
        have hOn := Lib.hid (fun w => coOne_any d o w D ho1)
        obtain ⟨n, hn⟩ : ∃ n, Z.length = n := ⟨_, rfl⟩
        rw [hn] at hKl hE2 hl13 hP h13
        have hAm := Lib.hid (fun (x y z : Int) (v ve : Value) (B B2 : Nat) (w : World) (hx : 0 ≤ x ∧ x ≤ 2000) (hy : 0 ≤ y ∧ y ≤ 2000) (hz : 0 ≤ z ∧ z ≤ 2000) hoK hoE => amClass_any d K [x, y, z] v ve B B2 w D (by omega) (by simp; omega) (by intro e he; simp at he; rcases he with rfl | rfl | rfl <;> omega) hKm hoK hoE)
        have hG := Lib.hid (fun s a b (hs : s ≤ 1641) => (show gdB d K (trL n s a b) = fmEq (relK d K [(a : Int), (b : Int), ((s - a - b : Nat) : Int)] K.length) o from by
          unfold gdB trL
          rw [hKl, relK_take n n (Nat.le_refl _), ho1]))
        have hEq := Lib.hid (fun s => ref_eq (gdB d K) n s (by omega) (by omega))
        have HE2 : Hid (lsUp (fun s => loopD (haF (gdB d K) n s) (s + 1)) 1641 1 = some R) := Lib.hid (by
          rw [show (fun s => loopD (haF (gdB d K) n s) (s + 1)) = fun s => lastL (gdB d K) (n - 1) s [] from funext fun s => hEq.out s]
          exact hE2)
        generalize gdB d K = G at *
        rw [hn] at HO
        have hKl3 : K.length ≤ 3 := by omega
        have Hkl := Lib.hid hKl
        obtain ⟨n1, n3⟩ : 1 ≤ n ∧ n ≤ 3 := by omega
        clear hP0 hz hpo hbad h hE1 hE2 hcf hlen hle hl1 D hKm hz3 ho1 hEq h13
        rw [hn]
        clear hn hlz hKl
        go_enter Tryz.func27, Tryz.ntmps27
        go_wp2_with (first
          | (go_at_call 74; (with_reducible refine (rDisc_eq d true _ hc).mono ?_); rintro e v ⟨rfl, rfl⟩)
          | (go_at_call 89; refine (l1In_any _ _ _ _).mono ?_; rw [hl13]; rintro e v1 ⟨rfl, rfl⟩)
          | (go_at_call 91; refine (hP.out _ HO.out).mono ?_; rintro e w1 ⟨vk, rfl, hok, hb1⟩; have hz1' := hb1.size; obtain ⟨bk, ck, rfl⟩ := own_shape hok))
        have HK := Lib.hid hok
        clear hok hl13
        go_loopw [8] (fun vs wr => LsSt (fun s => loopD (haF G n s) (s + 1)) R w1 vs wr) (fun vs _ => 1642 - (intOf vs).toNat)
        case atStart => exact ⟨1, 1641, rfl, Nat.le_refl _, rfl, HE2, Below.refl _ _⟩
        case round =>
          clear HE2
          obtain ⟨s, k, rfl, s1, hsk, hst, hbel⟩ := hrel
          obtain ⟨k, rfl⟩ : ∃ j, k = j + 1 := by
            cases k with
            | zero => have := hst.out; rw [lsUp] at this; cases this
            | succ j => exact ⟨j, rfl⟩
          obtain ⟨os, hos⟩ : ∃ os, loopD (haF G n s) (s + 1) = os := ⟨_, rfl⟩
          have Hos := Lib.hid hos
          have Hsome : Hid (∀ E, os = some E → R = E) := Lib.hid (fun E hE => by
            have := hst.out
            rw [lsUp, hos, hE] at this
            injection this with this
            exact this.symm)
          have Hnone : Hid (os = none → lsUp (fun s => loopD (haF G n s) (s + 1)) k (s + 1) = some R) := Lib.hid (fun hE => by
            have := hst.out
            rw [lsUp, hos, hE] at this
            exact this)
          have s2 : s ≤ 1641 := by omega
          clear hst hos
          go_wp2
          go_loopw [9] (fun va wr => LdSt (haF G n s) os s w1 va wr) (fun va _ => (intOf va + 1).toNat)
          case atStart => exact ⟨s + 1, congrArg (Value.int .i64) (by omega), Nat.le_refl _, Hos, hbel⟩
          case round =>
            clear Hos hbel
            obtain ⟨ka, rfl, hka, hsa, hbel⟩ := hrel
            by_cases hka0 : 0 < ka
            · obtain ⟨a, rfl⟩ : ∃ a, ka = a + 1 := ⟨ka - 1, by omega⟩
              obtain ⟨A, hA⟩ : ∃ A : Int, ((a + 1 : Nat) : Int) - 1 = A := ⟨_, rfl⟩
              rw [hA]
              have hA0 : A = (a : Int) := by omega
              have a1 : 0 ≤ A := by omega
              have a2 : A ≤ s := by omega
              obtain ⟨oa, hoa⟩ : ∃ oa, haF G n s a = oa := ⟨_, rfl⟩
              have Hoa : Hid (loopD (hbF G n s a) (s - a + 1) = oa) := Lib.hid hoa
              have HaS : Hid (∀ E, oa = some E → os = some E) := Lib.hid (fun E hE => by rw [← hsa.out, loopD, hoa, hE])
              have HaN : Hid (oa = none → loopD (haF G n s) a = os) := Lib.hid (fun hE => by
                have := hsa.out
                rw [loopD, hoa, hE] at this
                exact this)
              have HA0 := Lib.hid hA0
              clear hsa hoa hA hA0
              go_wp2
              go_loopw [10] (fun vb wr => LdSt (hbF G n s a) oa (s - a) w1 vb wr) (fun vb _ => (intOf vb + 1).toNat)
              case atStart => exact ⟨s - a + 1, congrArg (Value.int .i64) (by have := HA0.out; omega), Nat.le_refl _, Hoa, hbel⟩
              case round =>
                clear Hoa hbel
                obtain ⟨kb, rfl, hkb, hsb, hbel⟩ := hrel
                have hz := hbel.size
                by_cases hkb0 : 0 < kb
                · obtain ⟨b, rfl⟩ : ∃ b, kb = b + 1 := ⟨kb - 1, by omega⟩
                  obtain ⟨Bb, hB⟩ : ∃ Bb : Int, ((b + 1 : Nat) : Int) - 1 = Bb := ⟨_, rfl⟩
                  rw [hB]
                  have hB0 : Bb = (b : Int) := by omega
                  have b1 : 0 ≤ Bb := by omega
                  have b2 : A + Bb ≤ s := by have := HA0.out; omega
                  obtain ⟨C, hC⟩ : ∃ C : Int, (s : Int) - A - Bb = C := ⟨_, rfl⟩
                  have hC0 : C = ((s - a - b : Nat) : Int) := by have := HA0.out; omega
                  have c1 : 0 ≤ C := by omega
                  have c2 : C ≤ 2000 := by omega
                  have HB0 := Lib.hid hB0
                  have HC : Hid ((s : Int) - A - Bb = C) := Lib.hid hC
                  obtain ⟨r, hr⟩ : ∃ r, relK d K [A, Bb, C] K.length = r := ⟨_, rfl⟩
                  have hGr : G (trL n s a b) = fmEq r o := by
                    rw [hG.out s a b s2, ← hr, HA0.out, hB0, hC0]
                  have hAm2 := Lib.hid (fun v ve B B2 w hoK hoE => hAm.out A Bb C v ve B B2 w ⟨a1, by omega⟩ ⟨b1, by omega⟩ ⟨c1, c2⟩ hoK hoE)
                  rw [hr] at hAm2
                  have htr : Hid (cellsI (trL n s a b) = ([.int .i64 A, .int .i64 Bb, .int .i64 C] : List Value).take n) := Lib.hid (by
                    unfold trL
                    rw [← cellsI_take, HA0.out, hB0, hC0]
                    rfl)
                  have htl : Hid ((trL n s a b).length = n) := Lib.hid (by unfold trL; rw [List.length_take]; simp; omega)
                  have HbY : Hid (skB n Bb C = false → fmEq r o = true → oa = some (trL n s a b)) := Lib.hid (fun h1 h2 => by
                    rw [← hsb.out, loopD, hbF, if_pos ⟨by rw [← hB0, ← hC0]; exact h1, by rw [hGr]; exact h2⟩])
                  have HbN : Hid (skB n Bb C = true ∨ fmEq r o = false → loopD (hbF G n s a) b = oa) := Lib.hid (fun h => by
                    have := hsb.out
                    rw [loopD, hbF, if_neg (fun h3 => by
                      rcases h with h | h
                      · rw [← hB0, ← hC0, h] at h3; cases h3.1
                      · rw [hGr, h] at h3; cases h3.2)] at this
                    exact this)
                  have hoe := World.ownsRow_lit (base := w1.heap.size) (e := 3) (size := 1) wr #[.int .i64 A, .int .i64 Bb, .int .i64 C] 3 hz (by unfold maxLen; omega) rfl
                  have ho3 : (wr.alloc (.cells #[.int .i64 A, .int .i64 Bb, .int .i64 C] 3)).ownsRow w1.heap.size 3 1 (.slice (some ⟨wr.heap.size, 0, none⟩) 3 3) [A, Bb, C].length (cellsI [A, Bb, C]) := by simpa [cellsI] using hoe
                  have hok3 := own_alloc (o := .cells #[.int .i64 A, .int .i64 Bb, .int .i64 C] 3) (own_call hbel HK.out)
                  have hwr1 : Hid (Bb - 1 = (b : Int) - 1) := Lib.hid (by omega)
                  have x1 : (s : Int) ≤ 2000 := by omega
                  clear hsb hB hB0 hC0 hr hGr hoe
                  by_cases hn3 : n = 3
                  · have g3 : ¬ (n : Int) < 3 := by omega
                    have g2 : ¬ (n : Int) < 2 := by omega
                    have g3' : ¬ n < 3 := by omega
                    have g2' : ¬ n < 2 := by omega
                    skip
                    have hsk : skB n Bb C = false := by simp [skB, *]
                    have hY := Lib.hid (fun h => HbY.out hsk h)
                    have hN := Lib.hid (fun h => HbN.out (.inr h))
                    clear hsk
                    (try clear hn3)
                    (try clear hc0)
                    (try clear hb0)
                    (try clear hn2)
                    (try clear g3' g2')
                    rcases fm_cases r o with ⟨rfl, hv⟩ | ⟨hv, e1⟩ | ⟨hv, e1, e2⟩ | ⟨hv, e1, e2, e3⟩
                    · have hR2 := Hsome.out _ (HaS.out _ (hY.out hv))
                      subst hR2
                      clear hv hY hN
                      go_wp2_with (first
                        | (go_at_call 92; refine (hAm2.out _ _ _ _ _ hok3 ho3).mono ?_; rintro e v2 ⟨rfl, hb2⟩; have hz2 := hb2.size; (try simp at hz2))
                        | (go_at_call 101; refine (hOn.out _).mono ?_; rintro e v3 ⟨rfl, hb3⟩; have hz3 := hb3.size))
                      go_ret2
                      have hoN := own_take (n := n) (own_call hb3 (own_call hb2 (show (wr.alloc (.cells #[.int .i64 A, .int .i64 Bb, .int .i64 C] 3)).ownsRow w1.heap.size 3 1 (.slice (some ⟨wr.heap.size, 0, none⟩) 3 3) 3 [.int .i64 A, .int .i64 Bb, .int .i64 C] from ho3))) (by omega)
                      refine ⟨_, rfl, own_base hz1' ?_, ?_⟩
                      · rw [htr.out, htl.out]; exact hoN
                      · have hbA : Below w1.heap.size w1 (wr.alloc (.cells #[.int .i64 A, .int .i64 Bb, .int .i64 C] 3)) := hbel.alloc hz _
                        have hbB : Below w1.heap.size w1 v2 := below_via hbA hb2 (by simp; omega)
                        exact below_via hb1 (below_via hbB hb3 (by omega)) hz1'
                    all_goals
                      have hl := Lib.hid (hN.out hv)
                      clear hv hY hN
                      go_wp2_with (first
                        | (go_at_call 92; refine (hAm2.out _ _ _ _ _ hok3 ho3).mono ?_; rintro e v2 ⟨rfl, hb2⟩; have hz2 := hb2.size; (try simp at hz2))
                        | (go_at_call 101; refine (hOn.out _).mono ?_; rintro e v3 ⟨rfl, hb3⟩; have hz3 := hb3.size))
                      have hbA : Below w1.heap.size w1 (wr.alloc (.cells #[.int .i64 A, .int .i64 Bb, .int .i64 C] 3)) := hbel.alloc hz _
                      have hbB : Below w1.heap.size w1 v2 := below_via hbA hb2 (by simp; omega)
                      have hbN : Below w1.heap.size w1 v3 := below_via hbB hb3 (by omega)
                      skip
                      go_roundw
                      case rel => exact ⟨b, congrArg (Value.int .i64) hwr1.out, by omega, hl, hbN⟩
                      case measure => have := HB0.out; simp only [intOf]; omega
                  · by_cases hc0 : C = 0
                    · by_cases hn2 : n = 2
                      · have g3 : (n : Int) < 3 := by omega
                        have g2 : ¬ (n : Int) < 2 := by omega
                        have g3' : n < 3 := by omega
                        have g2' : ¬ n < 2 := by omega
                        have q3 : (C != 0) = false := by rw [bne_eq_false_iff_eq]; exact hc0
                        skip
                        have hsk : skB n Bb C = false := by simp [skB, *]
                        have hY := Lib.hid (fun h => HbY.out hsk h)
                        have hN := Lib.hid (fun h => HbN.out (.inr h))
                        clear hsk
                        (try clear hn3)
                        (try clear hc0)
                        (try clear hb0)
                        (try clear hn2)
                        (try clear g3' g2')
                        rcases fm_cases r o with ⟨rfl, hv⟩ | ⟨hv, e1⟩ | ⟨hv, e1, e2⟩ | ⟨hv, e1, e2, e3⟩
                        · have hR2 := Hsome.out _ (HaS.out _ (hY.out hv))
                          subst hR2
                          clear hv hY hN
                          go_wp2_with (first
                            | (go_at_call 92; refine (hAm2.out _ _ _ _ _ hok3 ho3).mono ?_; rintro e v2 ⟨rfl, hb2⟩; have hz2 := hb2.size; (try simp at hz2))
                            | (go_at_call 101; refine (hOn.out _).mono ?_; rintro e v3 ⟨rfl, hb3⟩; have hz3 := hb3.size))
                          go_ret2
                          have hoN := own_take (n := n) (own_call hb3 (own_call hb2 (show (wr.alloc (.cells #[.int .i64 A, .int .i64 Bb, .int .i64 C] 3)).ownsRow w1.heap.size 3 1 (.slice (some ⟨wr.heap.size, 0, none⟩) 3 3) 3 [.int .i64 A, .int .i64 Bb, .int .i64 C] from ho3))) (by omega)
                          refine ⟨_, rfl, own_base hz1' ?_, ?_⟩
                          · rw [htr.out, htl.out]; exact hoN
                          · have hbA : Below w1.heap.size w1 (wr.alloc (.cells #[.int .i64 A, .int .i64 Bb, .int .i64 C] 3)) := hbel.alloc hz _
                            have hbB : Below w1.heap.size w1 v2 := below_via hbA hb2 (by simp; omega)
                            exact below_via hb1 (below_via hbB hb3 (by omega)) hz1'
                        all_goals
                          have hl := Lib.hid (hN.out hv)
                          clear hv hY hN
                          go_wp2_with (first
                            | (go_at_call 92; refine (hAm2.out _ _ _ _ _ hok3 ho3).mono ?_; rintro e v2 ⟨rfl, hb2⟩; have hz2 := hb2.size; (try simp at hz2))
                            | (go_at_call 101; refine (hOn.out _).mono ?_; rintro e v3 ⟨rfl, hb3⟩; have hz3 := hb3.size))
                          have hbA : Below w1.heap.size w1 (wr.alloc (.cells #[.int .i64 A, .int .i64 Bb, .int .i64 C] 3)) := hbel.alloc hz _
                          have hbB : Below w1.heap.size w1 v2 := below_via hbA hb2 (by simp; omega)
                          have hbN : Below w1.heap.size w1 v3 := below_via hbB hb3 (by omega)
                          skip
                          go_roundw
                          case rel => exact ⟨b, congrArg (Value.int .i64) hwr1.out, by omega, hl, hbN⟩
                          case measure => have := HB0.out; simp only [intOf]; omega
                      · by_cases hb0 : Bb = 0
                        · have g3 : (n : Int) < 3 := by omega
                          have g2 : (n : Int) < 2 := by omega
                          have g3' : n < 3 := by omega
                          have g2' : n < 2 := by omega
                          have q3 : (C != 0) = false := by rw [bne_eq_false_iff_eq]; exact hc0
                          have q2 : (Bb != 0) = false := by rw [bne_eq_false_iff_eq]; exact hb0
                          skip
                          have hsk : skB n Bb C = false := by simp [skB, *]
                          have hY := Lib.hid (fun h => HbY.out hsk h)
                          have hN := Lib.hid (fun h => HbN.out (.inr h))
                          clear hsk
                          (try clear hn3)
                          (try clear hc0)
                          (try clear hb0)
                          (try clear hn2)
                          (try clear g3' g2')
                          rcases fm_cases r o with ⟨rfl, hv⟩ | ⟨hv, e1⟩ | ⟨hv, e1, e2⟩ | ⟨hv, e1, e2, e3⟩
                          · have hR2 := Hsome.out _ (HaS.out _ (hY.out hv))
                            subst hR2
                            clear hv hY hN
                            go_wp2_with (first
                              | (go_at_call 92; refine (hAm2.out _ _ _ _ _ hok3 ho3).mono ?_; rintro e v2 ⟨rfl, hb2⟩; have hz2 := hb2.size; (try simp at hz2))
                              | (go_at_call 101; refine (hOn.out _).mono ?_; rintro e v3 ⟨rfl, hb3⟩; have hz3 := hb3.size))
                            go_ret2
                            have hoN := own_take (n := n) (own_call hb3 (own_call hb2 (show (wr.alloc (.cells #[.int .i64 A, .int .i64 Bb, .int .i64 C] 3)).ownsRow w1.heap.size 3 1 (.slice (some ⟨wr.heap.size, 0, none⟩) 3 3) 3 [.int .i64 A, .int .i64 Bb, .int .i64 C] from ho3))) (by omega)
                            refine ⟨_, rfl, own_base hz1' ?_, ?_⟩
                            · rw [htr.out, htl.out]; exact hoN
                            · have hbA : Below w1.heap.size w1 (wr.alloc (.cells #[.int .i64 A, .int .i64 Bb, .int .i64 C] 3)) := hbel.alloc hz _
                              have hbB : Below w1.heap.size w1 v2 := below_via hbA hb2 (by simp; omega)
                              exact below_via hb1 (below_via hbB hb3 (by omega)) hz1'
                          all_goals
                            have hl := Lib.hid (hN.out hv)
                            clear hv hY hN
                            go_wp2_with (first
                              | (go_at_call 92; refine (hAm2.out _ _ _ _ _ hok3 ho3).mono ?_; rintro e v2 ⟨rfl, hb2⟩; have hz2 := hb2.size; (try simp at hz2))
                              | (go_at_call 101; refine (hOn.out _).mono ?_; rintro e v3 ⟨rfl, hb3⟩; have hz3 := hb3.size))
                            have hbA : Below w1.heap.size w1 (wr.alloc (.cells #[.int .i64 A, .int .i64 Bb, .int .i64 C] 3)) := hbel.alloc hz _
                            have hbB : Below w1.heap.size w1 v2 := below_via hbA hb2 (by simp; omega)
                            have hbN : Below w1.heap.size w1 v3 := below_via hbB hb3 (by omega)
                            skip
                            go_roundw
                            case rel => exact ⟨b, congrArg (Value.int .i64) hwr1.out, by omega, hl, hbN⟩
                            case measure => have := HB0.out; simp only [intOf]; omega
                        · have g3 : (n : Int) < 3 := by omega
                          have g2 : (n : Int) < 2 := by omega
                          have g3' : n < 3 := by omega
                          have g2' : n < 2 := by omega
                          have q3 : (C != 0) = false := by rw [bne_eq_false_iff_eq]; exact hc0
                          have q2 : (Bb != 0) = true := by rw [bne_iff_ne]; exact hb0
                          have hl := Lib.hid (HbN.out (.inl (by simp [skB, *])))
                          skip
                          clear ho3 hok3
                          go_wp2
                          go_roundw
                          case rel => exact ⟨b, congrArg (Value.int .i64) hwr1.out, by omega, hl, (by repeat (first | with_reducible exact Below.refl _ _ | with_reducible assumption | with_reducible apply Below.drew | with_reducible apply below_drewN | (with_reducible apply below_setp; (first | omega | (simp <;> omega))) | (with_reducible apply below_allocp; (first | omega | (simp <;> omega))) | (with_reducible refine below_viap (by assumption) ?_ ?_; (first | omega | (simp <;> omega)))))⟩
                          case measure => have := HB0.out; simp only [intOf]; omega
                    · by_cases hn2 : n = 2
                      · have g3 : (n : Int) < 3 := by omega
                        have g2 : ¬ (n : Int) < 2 := by omega
                        have g3' : n < 3 := by omega
                        have g2' : ¬ n < 2 := by omega
                        have q3 : (C != 0) = true := by rw [bne_iff_ne]; exact hc0
                        have hl := Lib.hid (HbN.out (.inl (by simp [skB, *])))
                        skip
                        clear ho3 hok3
                        go_wp2
                        go_roundw
                        case rel => exact ⟨b, congrArg (Value.int .i64) hwr1.out, by omega, hl, (by repeat (first | with_reducible exact Below.refl _ _ | with_reducible assumption | with_reducible apply Below.drew | with_reducible apply below_drewN | (with_reducible apply below_setp; (first | omega | (simp <;> omega))) | (with_reducible apply below_allocp; (first | omega | (simp <;> omega))) | (with_reducible refine below_viap (by assumption) ?_ ?_; (first | omega | (simp <;> omega)))))⟩
                        case measure => have := HB0.out; simp only [intOf]; omega
                      · have g3 : (n : Int) < 3 := by omega
                        have g2 : (n : Int) < 2 := by omega
                        have g3' : n < 3 := by omega
                        have g2' : n < 2 := by omega
                        have q3 : (C != 0) = true := by rw [bne_iff_ne]; exact hc0
                        have hl := Lib.hid (HbN.out (.inl (by simp [skB, *])))
                        skip
                        clear ho3 hok3
                        go_wp2
                        go_roundw
                        case rel => exact ⟨b, congrArg (Value.int .i64) hwr1.out, by omega, hl, (by repeat (first | with_reducible exact Below.refl _ _ | with_reducible assumption | with_reducible apply Below.drew | with_reducible apply below_drewN | (with_reducible apply below_setp; (first | omega | (simp <;> omega))) | (with_reducible apply below_allocp; (first | omega | (simp <;> omega))) | (with_reducible refine below_viap (by assumption) ?_ ?_; (first | omega | (simp <;> omega)))))⟩
                        case measure => have := HB0.out; simp only [intOf]; omega
                · have ek : kb = 0 := by omega
                  subst ek
                  have hl := Lib.hid (HaN.out hsb.out.symm)
                  have hA2 : Hid (A - 1 = (a : Int) - 1) := Lib.hid (by have := HA0.out; omega)
                  clear hsb
                  go_wp2
                  exact ⟨⟨a, congrArg (Value.int .i64) hA2.out, by omega, hl, hbel⟩, by have := HA0.out; simp only [intOf]; omega⟩
            · have ek : ka = 0 := by omega
              subst ek
              have hl := Lib.hid (Hnone.out hsa.out.symm)
              clear hsa
              go_wp2
              exact ⟨⟨s + 1, k, by go_num, by omega, by omega, hl, hbel⟩, by simp [intOf]; omega⟩
    · obtain ⟨rfl, rfl⟩ := hbad (by
        unfold pfsO
        rw [if_neg (fun h => h13 ⟨by omega, h.2.2⟩)])
      have hl13 : (decide (1 ≤ (Z.length : Int)) && decide ((Z.length : Int) ≤ 3)) = false := by
        rw [← Bool.not_eq_true, Bool.and_eq_true, decide_eq_true_eq, decide_eq_true_eq]
        exact h13
      clear hP0 hbad h h13
      go_enter Tryz.func27, Tryz.ntmps27
      go_wp2_with (first
        | (go_at_call 74; (with_reducible refine (rDisc_eq d true _ hc).mono ?_); rintro e v ⟨rfl, rfl⟩)
        | (go_at_call 89; refine (l1In_any _ _ _ _).mono ?_; rw [hl13]; rintro e v1 ⟨rfl, rfl⟩))
      go_ret2
      exact ⟨_, rfl, World.ownsRow_nil _ _ _ _, (by repeat (first | with_reducible exact Below.refl _ _ | with_reducible assumption | with_reducible apply Below.drew | with_reducible apply below_drewN | (with_reducible apply below_setp; (first | omega | (simp <;> omega))) | (with_reducible apply below_allocp; (first | omega | (simp <;> omega))) | (with_reducible refine below_viap (by assumption) ?_ ?_; (first | omega | (simp <;> omega)))))⟩
end Go.Proofs.YteehcjjhkphdnaaGreat
