/- Contracts: the forms of some primes, of both sides. -/
import Derived.Test.YteehcjjhkphdnaaGreatPB
namespace Go.Proofs.YteehcjjhkphdnaaGreat
open Go.RowKit

/-- The forms of some primes, if each has one. -/
def pfL (d : Int) : List Int → Option (List Fm)
  | [] => some []
  | z :: Z => (prF d z).bind fun f => (pfL d Z).map fun L => f :: L
theorem pfL_app (d : Int) : ∀ A B, pfL d (A ++ B) = (pfL d A).bind fun L => (pfL d B).map fun K => L ++ K
  | [], B => by simp [pfL]
  | z :: A, B => by
    rw [List.cons_append, pfL, pfL, pfL_app d A B]
    cases prF d z with
    | none => rfl
    | some f =>
      simp only [Option.bind_some]
      cases pfL d A with
      | none => rfl
      | some L =>
        simp only [Option.bind_some, Option.map_some]
        cases pfL d B <;> simp
theorem pfL_one (d z : Int) : pfL d [z] = (prF d z).map fun f => [f] := by
  unfold pfL pfL
  cases prF d z <;> rfl
theorem pfL_no {d : Int} {Z : List Int} {L : List Fm} {k : Nat} (h : k < Z.length) (hL : pfL d (Z.take k) = some L) (hz : prF d Z[k] = none) : pfL d Z = none := by
  have e : Z = Z.take (k + 1) ++ Z.drop (k + 1) := (List.take_append_drop _ _).symm
  rw [e, pfL_app, List.take_succ_eq_append_getElem h, pfL_app, hL, pfL_one, hz]
  rfl
theorem pfL_yes {d : Int} {Z : List Int} {L : List Fm} {f : Fm} {k : Nat} (h : k < Z.length) (hL : pfL d (Z.take k) = some L) (hz : prF d Z[k] = some f) : pfL d (Z.take (k + 1)) = some (L ++ [f]) := by
  rw [List.take_succ_eq_append_getElem h, pfL_app, hL, pfL_one, hz]
  rfl
theorem pfL_cf {d : Int} : ∀ (Z : List Int) (L : List Fm), pfL d Z = some L → (∀ f ∈ L, CF d f (red f)) ∧ L.length = Z.length
  | [], L, h => by
    simp only [pfL, Option.some.injEq] at h
    subst h
    simp
  | z :: Z, L, h => by
    rw [pfL] at h
    cases hz : prF d z with
    | none => rw [hz] at h; simp at h
    | some f =>
      rw [hz, Option.bind_some] at h
      cases hZ : pfL d Z with
      | none => rw [hZ] at h; simp at h
      | some K =>
        rw [hZ, Option.map_some] at h
        injection h with h
        subst h
        obtain ⟨h1, h2⟩ := pfL_cf Z K hZ
        refine ⟨fun g hg => ?_, by simp [h2]⟩
        rcases List.mem_cons.1 hg with rfl | hg
        · exact prF_cf hz
        · exact h1 g hg
/-- A list of forms and true, or nothing and false. -/
def RetPo (o : Option (List Fm)) (w : World) (e : Ending) (w' : World) : Prop :=
  (o = none ∧ e = .returned (.tuple #[.slice none 0 0, .bool false]) ∧ Below w.heap.size w w') ∨
  (∃ L v, o = some L ∧ e = .returned (.tuple #[v, .bool true]) ∧ w'.ownsRow w.heap.size 36 3 v L.length (cellsF L) ∧ Below w.heap.size w w')
/-- The state of the loop: g of each form is kept. -/
def PfsSt (g : Fm → Fm) (d : Int) (Z : List Int) (w : World) (v vi : Value) (wr : World) : Prop :=
  ∃ (k : Nat) (L : List Fm), vi = .int .i64 k ∧ k ≤ Z.length ∧ Hid (pfL d (Z.take k) = some L) ∧ L.length = k ∧ wr.ownsRow w.heap.size 36 3 v (L.map g).length (cellsF (L.map g)) ∧ Below w.heap.size w wr
def pfsO (d : Int) (Z : List Int) (m : Int) : Option (List Fm) := if isDisc d = true ∧ 1 ≤ Z.length ∧ (Z.length : Int) ≤ m then pfL d Z else none

set_option maxRecDepth 100000 in
set_option maxHeartbeats 3200000 in
theorem primeForms_any (d m : Int) (Z : List Int) (v : Value) (B : Nat) (w : World) (hl : Z.length ≤ 10000000) (hm : 0 ≤ m ∧ m ≤ 100) (ho : w.ownsRow B 3 1 v Z.length (cellsI Z)) :
    Calls Tryz.prog 86 #[.int .i64 d, v, .int .i64 m] w (RetPo (pfsO d Z m) w) := by
  obtain ⟨i0, hi, hz0, hz1, hz2⟩ := info_parts infoForm
  have HO := Lib.hid ho
  obtain ⟨bz, cz, rfl⟩ := own_shape ho
  obtain ⟨m1, m2⟩ := hm
  clear ho
  cases hc : isDisc d with
  | false =>
    have hx : pfsO d Z m = none := by unfold pfsO; rw [if_neg (by rw [hc]; simp)]
    go_enter Tryz.func86, Tryz.ntmps86
    go_wp2_with (go_at_call 76; (with_reducible refine (negDisc_eq d false _ hc).mono ?_); rintro e v ⟨rfl, rfl⟩)
    go_ret2
    exact .inl ⟨hx, rfl, (by repeat (first | with_reducible exact Below.refl _ _ | with_reducible assumption | with_reducible apply Below.drew | with_reducible apply below_drewN | (with_reducible apply below_setp; (first | omega | (simp <;> omega))) | (with_reducible apply below_allocp; (first | omega | (simp <;> omega))) | (with_reducible refine below_viap (by assumption) ?_ ?_; (first | omega | (simp <;> omega)))))⟩
  | true =>
    by_cases h1 : Z.length < 1
    · have hx : pfsO d Z m = none := by unfold pfsO; rw [if_neg (by omega)]
      have h1' : (Z.length : Int) < 1 := by omega
      go_enter Tryz.func86, Tryz.ntmps86
      go_wp2_with (go_at_call 76; (with_reducible refine (negDisc_eq d true _ hc).mono ?_); rintro e v ⟨rfl, rfl⟩)
      go_ret2
      exact .inl ⟨hx, rfl, (by repeat (first | with_reducible exact Below.refl _ _ | with_reducible assumption | with_reducible apply Below.drew | with_reducible apply below_drewN | (with_reducible apply below_setp; (first | omega | (simp <;> omega))) | (with_reducible apply below_allocp; (first | omega | (simp <;> omega))) | (with_reducible refine below_viap (by assumption) ?_ ?_; (first | omega | (simp <;> omega)))))⟩
    · have h1' : ¬ (Z.length : Int) < 1 := by omega
      by_cases h2 : m < (Z.length : Int)
      · have hx : pfsO d Z m = none := by unfold pfsO; rw [if_neg (by omega)]
        go_enter Tryz.func86, Tryz.ntmps86
        go_wp2_with (go_at_call 76; (with_reducible refine (negDisc_eq d true _ hc).mono ?_); rintro e v ⟨rfl, rfl⟩)
        go_ret2
        exact .inl ⟨hx, rfl, (by repeat (first | with_reducible exact Below.refl _ _ | with_reducible assumption | with_reducible apply Below.drew | with_reducible apply below_drewN | (with_reducible apply below_setp; (first | omega | (simp <;> omega))) | (with_reducible apply below_allocp; (first | omega | (simp <;> omega))) | (with_reducible refine below_viap (by assumption) ?_ ?_; (first | omega | (simp <;> omega)))))⟩
      · have Hx := Lib.hid (show pfsO d Z m = pfL d Z by unfold pfsO; rw [if_pos ⟨hc, by omega, by omega⟩])
        have hP := Lib.hid (fun z w => implPF_any d z w)
        go_enter Tryz.func86, Tryz.ntmps86
        go_wp2_with (go_at_call 76; (with_reducible refine (negDisc_eq d true _ hc).mono ?_); rintro e v ⟨rfl, rfl⟩)
        go_loopw [8, 30] (fun v i wr => PfsSt id d Z w v i wr) (fun _ i _ => Z.length - (intOf i).toNat)
        case atStart => exact ⟨0, [], rfl, Nat.zero_le _, Lib.hid rfl, rfl, own_empty (Nat.le_refl _), (by repeat (first | with_reducible exact Below.refl _ _ | with_reducible assumption | with_reducible apply Below.drew | with_reducible apply below_drewN | (with_reducible apply below_setp; (first | omega | (simp <;> omega))) | (with_reducible apply below_allocp; (first | omega | (simp <;> omega))) | (with_reducible refine below_viap (by assumption) ?_ ?_; (first | omega | (simp <;> omega)))))⟩
        case round =>
          obtain ⟨k, L, rfl, hk, hs, hLk, hown, hbel⟩ := hrel
          rw [List.map_id] at hown
          have hz := hbel.size
          by_cases hlt : k < Z.length
          · obtain ⟨gz, rfl, lz, cz⟩ := own_elemI (own_call hbel HO.out) hlt
            cases hf : prF d Z[k] with
            | none =>
              have hno := Lib.hid (Hx.out.trans (pfL_no hlt hs.out hf))
              have hP2 := Lib.hid (fun w => hP.out Z[k] w)
              rw [hf] at hP2
              simp only [pfV, Option.getD, Option.isSome] at hP2
              generalize Z[k] = z at *
              clear hs hf
              go_wp2_with (go_at_call 102; refine (hP2.out _).mono ?_; rintro e v1 ⟨rfl, hB1⟩; have hZ1 := hB1.size)
              go_ret2
              exact .inl ⟨hno.out, rfl, (by repeat (first | with_reducible exact Below.refl _ _ | with_reducible assumption | with_reducible apply Below.drew | with_reducible apply below_drewN | (with_reducible apply below_setp; (first | omega | (simp <;> omega))) | (with_reducible apply below_allocp; (first | omega | (simp <;> omega))) | (with_reducible refine below_viap (by assumption) ?_ ?_; (first | omega | (simp <;> omega)))))⟩
            | some f =>
              have hs2 := Lib.hid (pfL_yes hlt hs.out hf)
              have hP2 := Lib.hid (fun w => hP.out Z[k] w)
              rw [hf] at hP2
              simp only [pfV, Option.getD, Option.isSome] at hP2
              generalize Z[k] = z at *
              clear hs hf
              go_wp2_with (first
                | (go_at_call 102; refine (hP2.out _).mono ?_; rintro e v1 ⟨rfl, hB1⟩; have hZ1 := hB1.size)
                | (at_builtin; refine wpList_append_own _ rfl (.tmp 42) (.tmp 44) 25 rfl w.heap.size 36 i0 _ 3 24 Tryz.underlying25 hi hz0 hz1 hz2 rfl (by decide) u8 L.length (cellsF L) rfl ?_ ⟨v1.heap.size + 1, 0, none⟩ 1 1 [.int .i64 f.a, .int .i64 f.b, .int .i64 f.c] rfl rfl ?_ (one3 _ _ _) ?_ ?_ ?_ ?_; exact (by repeat (first | with_reducible assumption | with_reducible apply own_alloc | with_reducible apply own_drew | with_reducible apply own_drewN | (with_reducible refine own_setp (by assumption) ?_ ?_; (first | omega | (simp <;> omega))) | (with_reducible refine own_call (by assumption) ?_))); exact cells3 (Blk.new_at (by simp)); (unfold maxLen; omega); omega; (simp; omega); intro x2 w2 hown2 hgr _))
              have hb2 : Below w.heap.size w w2 := below_grown (own_ge hown) (by simp; omega) hgr (by repeat (first | with_reducible exact Below.refl _ _ | with_reducible assumption | with_reducible apply Below.drew | with_reducible apply below_drewN | (with_reducible apply below_setp; (first | omega | (simp <;> omega))) | (with_reducible apply below_allocp; (first | omega | (simp <;> omega))) | (with_reducible refine below_viap (by assumption) ?_ ?_; (first | omega | (simp <;> omega)))))
              have ho2 := own_snoc (K := (L ++ [f]).map id) (by simp) hown2
              clear hgr hown2 hown hbel
              go_wp2
              go_roundw
              case rel => exact ⟨k + 1, L ++ [f], rfl, hlt, hs2, by simp [hLk], ho2, hb2⟩
              case measure => simp [intOf]; omega
          · have e : k = Z.length := by omega
            have hfin : Hid (pfsO d Z m = some L) := Lib.hid (by rw [Hx.out, ← hs.out, e, List.take_length])
            subst e
            clear hs
            go_wp2
            go_ret2
            exact .inr ⟨L, _, hfin.out, rfl, hown, hbel⟩

set_option maxRecDepth 100000 in
set_option maxHeartbeats 3200000 in
theorem amPrimes_any (d : Int) (Z : List Int) (v : Value) (B : Nat) (w : World) (hl : Z.length ≤ 10000000) (ho : w.ownsRow B 3 1 v Z.length (cellsI Z)) :
    Calls Tryz.prog 91 #[.int .i64 d, v] w (RetPo ((pfL d Z).map fun L => L.map red) w) := by
  obtain ⟨i0, hi, hz0, hz1, hz2⟩ := info_parts infoForm
  have HO := Lib.hid ho
  obtain ⟨bz, cz, rfl⟩ := own_shape ho
  clear ho
  have hP := Lib.hid (fun z w => specPF_any d z w)
  go_enter Tryz.func91, Tryz.ntmps91
  go_wp2
  go_loopw [6, 13] (fun v i wr => PfsSt red d Z w v i wr) (fun _ i _ => Z.length - (intOf i).toNat)
  case atStart => exact ⟨0, [], rfl, Nat.zero_le _, Lib.hid rfl, rfl, World.ownsRow_nil _ _ _ _, (by repeat (first | with_reducible exact Below.refl _ _ | with_reducible assumption | with_reducible apply Below.drew | with_reducible apply below_drewN | (with_reducible apply below_setp; (first | omega | (simp <;> omega))) | (with_reducible apply below_allocp; (first | omega | (simp <;> omega))) | (with_reducible refine below_viap (by assumption) ?_ ?_; (first | omega | (simp <;> omega)))))⟩
  case round =>
    obtain ⟨k, L, rfl, hk, hs, hLk, hown, hbel⟩ := hrel
    have hz := hbel.size
    by_cases hlt : k < Z.length
    · obtain ⟨gz, rfl, lz, cz⟩ := own_elemI (own_call hbel HO.out) hlt
      cases hf : prF d Z[k] with
      | none =>
        have hno := Lib.hid (show (pfL d Z).map (fun L => L.map red) = none by rw [pfL_no hlt hs.out hf]; rfl)
        have hP2 := Lib.hid (fun w => hP.out Z[k] w)
        rw [hf] at hP2
        simp only [pfV, Option.getD, Option.isSome] at hP2
        generalize Z[k] = z at *
        clear hs hf
        go_wp2_with (go_at_call 172; refine (hP2.out _).mono ?_; rintro e v1 ⟨rfl, hB1⟩; have hZ1 := hB1.size)
        go_ret2
        exact .inl ⟨hno.out, rfl, (by repeat (first | with_reducible exact Below.refl _ _ | with_reducible assumption | with_reducible apply Below.drew | with_reducible apply below_drewN | (with_reducible apply below_setp; (first | omega | (simp <;> omega))) | (with_reducible apply below_allocp; (first | omega | (simp <;> omega))) | (with_reducible refine below_viap (by assumption) ?_ ?_; (first | omega | (simp <;> omega)))))⟩
      | some f =>
        have hs2 := Lib.hid (pfL_yes hlt hs.out hf)
        have hcf := prF_cf hf
        have hR := Lib.hid (fun w => reClass_cf d f (red f) w hcf)
        have hP2 := Lib.hid (fun w => hP.out Z[k] w)
        rw [hf] at hP2
        simp only [pfV, Option.getD, Option.isSome] at hP2
        have hsn := Lib.hid (show (L ++ [f]).map red = L.map red ++ [red f] by simp)
        have hLl : (L.map red).length ≤ 10000000 := by simp; omega
        generalize Z[k] = z at *
        generalize red f = g at *
        generalize hK : L.map red = K at *
        clear hs hf hcf
        go_wp2_with (first
          | (go_at_call 172; refine (hP2.out _).mono ?_; rintro e v1 ⟨rfl, hB1⟩; have hZ1 := hB1.size)
          | (go_at_call 141; refine (hR.out _).mono ?_; rintro e v2 ⟨rfl, hB2⟩; have hZ2 := hB2.size; (try simp at hZ2))
          | (at_builtin; refine wpList_append_own _ rfl (.tmp 25) (.tmp 28) 25 rfl w.heap.size 36 i0 _ 3 24 Tryz.underlying25 hi hz0 hz1 hz2 rfl (by decide) u6 K.length (cellsF K) rfl ?_ ⟨v2.heap.size, 0, none⟩ 1 1 [.int .i64 g.a, .int .i64 g.b, .int .i64 g.c] rfl rfl ?_ (one3 _ _ _) ?_ ?_ ?_ ?_; exact (by repeat (first | with_reducible assumption | with_reducible apply own_alloc | with_reducible apply own_drew | with_reducible apply own_drewN | (with_reducible refine own_setp (by assumption) ?_ ?_; (first | omega | (simp <;> omega))) | (with_reducible refine own_call (by assumption) ?_))); exact cells3 (Blk.new _ _ _); (unfold maxLen; omega); omega; (simp; omega); intro x2 w2 hown2 hgr _))
        have hb2 : Below w.heap.size w w2 := below_grown (own_ge hown) (by simp; omega) hgr (by repeat (first | with_reducible exact Below.refl _ _ | with_reducible assumption | with_reducible apply Below.drew | with_reducible apply below_drewN | (with_reducible apply below_setp; (first | omega | (simp <;> omega))) | (with_reducible apply below_allocp; (first | omega | (simp <;> omega))) | (with_reducible refine below_viap (by assumption) ?_ ?_; (first | omega | (simp <;> omega)))))
        have ho2 := own_snoc hsn.out hown2
        clear hgr hown2 hown hbel
        go_wp2
        go_roundw
        case rel => exact ⟨k + 1, L ++ [f], rfl, hlt, hs2, by simp [hLk], ho2, hb2⟩
        case measure => simp [intOf]; omega
    · have e : k = Z.length := by omega
      have hfin : Hid ((pfL d Z).map (fun L => L.map red) = some (L.map red)) := Lib.hid (by
        have := hs.out
        rw [e, List.take_length] at this
        rw [this]; rfl)
      subst e
      clear hs
      go_wp2
      go_ret2
      exact .inr ⟨L.map red, _, hfin.out, rfl, hown, hbel⟩
end Go.Proofs.YteehcjjhkphdnaaGreat
