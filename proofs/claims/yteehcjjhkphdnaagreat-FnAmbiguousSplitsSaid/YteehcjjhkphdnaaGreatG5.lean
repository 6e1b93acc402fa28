/- Contracts: the lists of splits. (gen_G5.py wrote this.) -/
import Derived.Test.YteehcjjhkphdnaaGreatGG
namespace Go.Proofs.YteehcjjhkphdnaaGreat
open Go.RowKit

def cellsS (L : List (Int × Int)) : List Value := L.flatMap fun s => [.int .i64 s.1, .int .i64 s.2]
theorem cellsS_append (L K : List (Int × Int)) : cellsS (L ++ K) = cellsS L ++ cellsS K := by simp [cellsS]
theorem cellsS_get : ∀ (L : List (Int × Int)) (i : Nat) (h : i < L.length), (cellsS L)[2 * i]? = some (.int .i64 L[i].1) ∧ (cellsS L)[2 * i + 1]? = some (.int .i64 L[i].2)
  | f :: L, 0, _ => by simp [cellsS]
  | f :: L, i + 1, h => by
    have ih := cellsS_get L i (by simpa using h)
    have e : cellsS (f :: L) = .int .i64 f.1 :: .int .i64 f.2 :: cellsS L := by simp [cellsS]
    rw [e, show 2 * (i + 1) = 2 * i + 2 by omega]
    simpa using ih
theorem own_snoc2 {w : World} {B : Nat} {e : TypeId} {v : Value} {L K : List (Int × Int)} {r s : Int} (hx : K = L ++ [(r, s)]) (h : w.ownsRow B e 2 v (L.length + 1) (cellsS L ++ [.int .i64 r, .int .i64 s])) :
    w.ownsRow B e 2 v K.length (cellsS K) := by
  subst hx
  rw [List.length_append, cellsS_append]
  exact h
theorem infoSplit : (Tryz.prog.info? 78).map (fun i => (i.zero, i.size, i.bytes)) = some (some (.agg #[.int .i64 0, .int .i64 0]), 2, 16) := by kernel_rfl

def sp (f : Fm) : Int × Int := (splR f.a f.b f.c, splS f.a f.b f.c)
def hAll (f : Fm) : List (Int × Int) := [sp f]
def hAmb (f : Fm) : List (Int × Int) := if ambB f = true then [sp f] else []
theorem flat_all (L : List Fm) : L.flatMap hAll = L.map sp := by
  induction L with
  | nil => rfl
  | cons f L ih => rw [List.flatMap_cons, ih]; rfl
theorem flat_amb (L : List Fm) : L.flatMap hAmb = (L.filter ambB).map sp := by
  induction L with
  | nil => rfl
  | cons f L ih =>
    rw [List.flatMap_cons, ih]
    unfold hAmb
    by_cases h : ambB f = true
    · rw [if_pos h, List.filter_cons_of_pos h]; rfl
    · rw [if_neg h, List.filter_cons_of_neg h]; rfl
theorem flat_take {L : List Fm} {h : Fm → List (Int × Int)} {k : Nat} (hk : k < L.length) : (L.take (k + 1)).flatMap h = (L.take k).flatMap h ++ h L[k] := by
  rw [List.take_succ_eq_append_getElem hk, List.flatMap_append]; simp
theorem flat_len {h : Fm → List (Int × Int)} (h1 : ∀ f, (h f).length ≤ 1) : ∀ L : List Fm, (L.flatMap h).length ≤ L.length
  | [] => Nat.le_refl _
  | f :: L => by
    rw [List.flatMap_cons, List.length_append, List.length_cons]
    have := h1 f
    have := flat_len h1 L
    omega
theorem flat_len2 {h : Fm → List (Int × Int)} (h1 : ∀ f, (h f).length ≤ 1) (L : List Fm) (k : Nat) {n : Nat} (hn : L.length ≤ n) : ((L.take k).flatMap h).length ≤ n := by
  have h2 := flat_len h1 (L.take k)
  have h3 := List.length_take_le' k L
  omega
theorem hAll_len (f : Fm) : (hAll f).length ≤ 1 := Nat.le_refl _
theorem hAmb_len (f : Fm) : (hAmb f).length ≤ 1 := by unfold hAmb; split <;> simp

theorem amSplit_yes (a b c : Int) (w : World) (ha : Near a) (hb : Near b) (hc : Near c) (h : isAmb a b c = true) :
    Calls Tryz.prog 153 #[.agg #[.int .i64 a, .int .i64 b, .int .i64 c]] w fun e w' => e = .returned (.tuple #[.agg #[.int .i64 (splR a b c), .int .i64 (splS a b c)], .bool true]) ∧ Below w.heap.size w w' := by
  have k := amSplit_any a b c w ha hb hc
  rw [h] at k; simpa using k
theorem amSplit_no (a b c : Int) (w : World) (ha : Near a) (hb : Near b) (hc : Near c) (h : isAmb a b c = false) :
    Calls Tryz.prog 153 #[.agg #[.int .i64 a, .int .i64 b, .int .i64 c]] w fun e w' => e = .returned (.tuple #[.agg #[.int .i64 0, .int .i64 0], .bool false]) ∧ Below w.heap.size w w' := by
  have k := amSplit_any a b c w ha hb hc
  rw [h] at k; simpa using k

theorem cells2_new {w : World} {x y : Value} {t : TypeId} {N : Nat} (h : N = w.heap.size) : ∀ j u, [x, y][j]? = some u → (w.alloc (.cells #[x, y] t)).cell? ((⟨N, 0, none⟩ : Addr).add j) = some u := by
  subst h
  exact cells2 (Blk.new _ _ _)

theorem isNegDisc_eq (d : Int) (b : Bool) (w : World) (h : isDisc d = b) : Calls Tryz.prog 76 #[.int .i64 d] w fun e w' => e = .returned (.bool b) ∧ w = w' := by
  have k := isNegativeDisc_any d w
  rwa [h] at k
theorem reDisc_eq (d : Int) (b : Bool) (w : World) (h : isDisc d = b) : Calls Tryz.prog 74 #[.int .i64 d] w fun e w' => e = .returned (.bool b) ∧ w = w' := by
  have k := reDisc_any d w
  rwa [h] at k

/-- The state of a loop that makes splits from forms. -/
def SplSt (h : Fm → List (Int × Int)) (L : List Fm) (B : Nat) (vl : Value) (w : World) (v vi : Value) (wr : World) : Prop :=
  ∃ k : Nat, vi = .int .i64 k ∧ k ≤ L.length ∧ wr.ownsRow w.heap.size 78 2 v ((L.take k).flatMap h).length (cellsS ((L.take k).flatMap h)) ∧ wr.ownsRow B 36 3 vl L.length (cellsF L) ∧ Apart v vl ∧ Below w.heap.size w wr
/-- A list of splits in new memory. -/
def OwnS (L : List (Int × Int)) (w : World) (v : Value) (w' : World) : Prop := w'.ownsRow w.heap.size 78 2 v L.length (cellsS L) ∧ Below w.heap.size w w'

set_option maxRecDepth 100000 in
set_option maxHeartbeats 1600000 in
theorem amAll_any (d : Int) (w : World) (hd1 : -2000 ≤ d) (hd2 : d ≤ -3) :
    Calls Tryz.prog 148 #[.int .i64 d] w fun e w' => ∃ v, e = .returned v ∧ OwnS (((clsL d).filter ambB).map sp) w v w' := by
  obtain ⟨i0, hi, hz0, hz1, hz2⟩ := info_parts infoSplit
  have hsm : Small (clsL d) := small_filter (allR_small hd1)
  have hl : (clsL d).length ≤ 100000 := Nat.le_trans (clsL_len d) (by decide)
  have Hs := Lib.hid hsm
  have Hr := reList_any d
  clear hsm
  rw [← flat_amb]
  generalize clsL d = L at *
  go_enter Tryz.func148, Tryz.ntmps148
  go_wp2_with (first 
    | (go_at_call 140; refine (Hr _ hd1 hd2).mono ?_; rintro e w1 ⟨vl, rfl, howl, hb1⟩; obtain ⟨base, cap, rfl⟩ := own_shape howl))
  obtain ⟨B, hB⟩ : ∃ B : Nat, B = w.heap.size := ⟨_, rfl⟩
  rw [← hB] at howl
  have hz1' := hb1.size
  go_loopw [3, 11] (fun v i wr => SplSt hAmb L B (.slice base L.length cap) w v i wr) (fun _ i _ => L.length - (intOf i).toNat)
  case atStart => exact ⟨0, rfl, Nat.zero_le _, World.ownsRow_nil _ _ _ _, howl, apart_nil, (by repeat (first | with_reducible exact Below.refl _ _ | with_reducible assumption | with_reducible apply Below.drew | with_reducible apply below_drewN | (with_reducible apply below_setp; (first | omega | (simp <;> omega))) | (with_reducible apply below_allocp; (first | omega | (simp <;> omega))) | (with_reducible refine below_viap (by assumption) ?_ ?_; (first | omega | (simp <;> omega)))))⟩
  case round =>
    clear howl hb1 hz1'
    obtain ⟨k, rfl, hk, hown, howl, hap, hbel⟩ := hrel
    by_cases hlt : k < L.length
    · obtain ⟨g, rfl, hg2, d1, d2, d3⟩ := own_elem howl hlt
      obtain ⟨⟨a1, a2⟩, ⟨b1, b2⟩, ⟨q1, q2⟩⟩ := Hs.out L[k] (List.getElem_mem hlt)
      have hft := flat_take (h := hAmb) hlt
      generalize L[k] = f at d1 d2 d3 a1 a2 b1 b2 q1 q2 hft
      have Hft := Lib.hid hft
      clear hft
      have fa : Near f.a := ⟨by omega, by omega⟩
      have fb : Near f.b := ⟨by omega, by omega⟩
      have fc : Near f.c := ⟨by omega, by omega⟩
      have hz := hbel.size
      have hlf := flat_len2 hAmb_len L k hl
      by_cases hp : ambB f = true
      ·
        have hx := Lib.hid (Hft.out.trans (by rw [hAmb, if_pos hp, sp]))
        have hp2 : isAmb f.a f.b f.c = true := hp
        go_wp2_with (first
          | (go_at_call 153; (with_reducible refine (amSplit_yes f.a f.b f.c _ fa fb fc hp2).mono ?_); rintro e v1 ⟨rfl, hB1⟩; have hZ1 := hB1.size; (try simp at hZ1); (try have zl1 : w.heap.size < v1.heap.size := by omega); (try have ze1 : w.heap.size ≤ v1.heap.size := by omega); (try have zn1 : ¬ w.heap.size = v1.heap.size := by omega); (try have zm1 : ¬ v1.heap.size = w.heap.size := by omega); have hC1_0 := fun o => (calm_cells hB1).1 (wr.heap.size) o (by first | omega | (simp <;> omega)); have hF1_0 := fun o => (calm_cells hB1).2 (wr.heap.size) o (by first | omega | (simp <;> omega)); (try have hl1_0 : wr.heap.size < v1.heap.size := by omega); (try have hm1_0 : ¬ wr.heap.size = v1.heap.size := by omega); (try have hn1_0 : ¬ v1.heap.size = wr.heap.size := by omega))
          | (at_builtin; refine wpList_append_own_at _ rfl (.tmp 21) (.tmp 23) 81 rfl w.heap.size 78 i0 _ 2 16 Tryz.underlying81 hi hz0 hz1 hz2 rfl (by decide) u3 ((L.take k).flatMap hAmb).length (cellsS ((L.take k).flatMap hAmb)) rfl ?_ ⟨(v1.heap.size + 1), 0, none⟩ 1 1 [.int .i64 (splR f.a f.b f.c), .int .i64 (splS f.a f.b f.c)] rfl rfl ?_ (one2 _ _) ?_ ?_ ?_ ?_; exact (by repeat (first | with_reducible assumption | with_reducible apply own_alloc | with_reducible apply own_drew | with_reducible apply own_drewN | (with_reducible refine own_setp (by assumption) ?_ ?_; (first | omega | (simp <;> omega))) | (with_reducible refine own_call (by assumption) ?_))); exact cells2_new (by simp); (unfold maxLen; omega); omega; (simp; omega); intro v2 w2 hown2 hg2 _ hloc))
        have hb2 : Below w.heap.size w w2 := below_grown (own_ge hown) (by simp; omega) hg2 (by repeat (first | with_reducible exact Below.refl _ _ | with_reducible assumption | with_reducible apply Below.drew | with_reducible apply below_drewN | (with_reducible apply below_setp; (first | omega | (simp <;> omega))) | (with_reducible apply below_allocp; (first | omega | (simp <;> omega))) | (with_reducible refine below_viap (by assumption) ?_ ?_; (first | omega | (simp <;> omega)))))
        have ho2 := own_snoc2 hx.out hown2
        have hol1 : ((v1.alloc (Obj.cells #[Value.int IntKind.i64 (splR f.a f.b f.c), Value.int IntKind.i64 (splS f.a f.b f.c)] 78)).alloc (Obj.cells #[Value.int IntKind.i64 (splR f.a f.b f.c), Value.int IntKind.i64 (splS f.a f.b f.c)] 78)).ownsRow B 36 3 (.slice (some ⟨g, 0, none⟩) L.length cap) L.length (cellsF L) := (by repeat (first | with_reducible assumption | with_reducible apply own_alloc | with_reducible apply own_drew | with_reducible apply own_drewN | (with_reducible refine own_setp (by assumption) ?_ ?_; (first | omega | (simp <;> omega))) | (with_reducible refine own_call (by assumption) ?_)))
        have hol2 := hol1.kept hg2 hap
        have hap2 := apart_next hap hol1 (Nat.le_refl _) hloc
        clear hg2 hown2 hown hbel howl hap hol1 hloc
        go_wp2
        go_roundw
        case rel => exact ⟨k + 1, rfl, hlt, ho2, hol2, hap2, hb2⟩
        case measure => simp [intOf]; omega
      ·
        have hx := Lib.hid (Hft.out.trans (by rw [hAmb, if_neg hp, List.append_nil]))
        have hp2 : isAmb f.a f.b f.c = false := by simpa [ambB] using hp
        go_wp2_with (go_at_call 153; (with_reducible refine (amSplit_no f.a f.b f.c _ fa fb fc hp2).mono ?_); rintro e v1 ⟨rfl, hB1⟩; have hZ1 := hB1.size; (try simp at hZ1); (try have zl1 : w.heap.size < v1.heap.size := by omega); (try have ze1 : w.heap.size ≤ v1.heap.size := by omega); (try have zn1 : ¬ w.heap.size = v1.heap.size := by omega); (try have zm1 : ¬ v1.heap.size = w.heap.size := by omega); have hC1_0 := fun o => (calm_cells hB1).1 (wr.heap.size) o (by first | omega | (simp <;> omega)); have hF1_0 := fun o => (calm_cells hB1).2 (wr.heap.size) o (by first | omega | (simp <;> omega)); (try have hl1_0 : wr.heap.size < v1.heap.size := by omega); (try have hm1_0 : ¬ wr.heap.size = v1.heap.size := by omega); (try have hn1_0 : ¬ v1.heap.size = wr.heap.size := by omega))
        go_roundw
        case rel => exact ⟨k + 1, rfl, hlt, by rw [hx.out]; exact (by repeat (first | with_reducible assumption | with_reducible apply own_alloc | with_reducible apply own_drew | with_reducible apply own_drewN | (with_reducible refine own_setp (by assumption) ?_ ?_; (first | omega | (simp <;> omega))) | (with_reducible refine own_call (by assumption) ?_))), (by repeat (first | with_reducible assumption | with_reducible apply own_alloc | with_reducible apply own_drew | with_reducible apply own_drewN | (with_reducible refine own_setp (by assumption) ?_ ?_; (first | omega | (simp <;> omega))) | (with_reducible refine own_call (by assumption) ?_))), hap, (by repeat (first | with_reducible exact Below.refl _ _ | with_reducible assumption | with_reducible apply Below.drew | with_reducible apply below_drewN | (with_reducible apply below_setp; (first | omega | (simp <;> omega))) | (with_reducible apply below_allocp; (first | omega | (simp <;> omega))) | (with_reducible refine below_viap (by assumption) ?_ ?_; (first | omega | (simp <;> omega)))))⟩
        case measure => simp [intOf]; omega
    · have e : k = L.length := by omega
      have hx : (L.take k).flatMap hAmb = L.flatMap hAmb := by rw [e, List.take_length]
      have Hx := Lib.hid hx
      clear hx
      subst e
      go_wp2
      go_ret
      exact ⟨_, rfl, by rw [← Hx.out]; exact hown, hbel⟩

set_option maxRecDepth 100000 in
set_option maxHeartbeats 1600000 in
theorem implSplits_any (d : Int) (w : World) (hd1 : -2000 ≤ d) (hd2 : d ≤ -3) (hdd : isDisc d = true) :
    Calls Tryz.prog 66 #[.int .i64 d] w fun e w' => ∃ v, e = .returned (.tuple #[v, .bool true]) ∧ OwnS (((clsL d).filter ambB).map sp) w v w' := by
  obtain ⟨i0, hi, hz0, hz1, hz2⟩ := info_parts infoSplit
  have hsm : Small ((clsL d).filter ambB) := small_filter (small_filter (allR_small hd1))
  have hl : ((clsL d).filter ambB).length ≤ 100000 := Nat.le_trans (List.length_filter_le _ _) (Nat.le_trans (clsL_len d) (by decide))
  have Hs := Lib.hid hsm
  have Hr := ambiguous_any d
  clear hsm
  rw [← flat_all]
  generalize (clsL d).filter ambB = L at *
  go_enter Tryz.func66, Tryz.ntmps66
  go_wp2_with (first 
    | (go_at_call 76; (with_reducible refine (isNegDisc_eq d true _ hdd).mono ?_); rintro e v ⟨rfl, rfl⟩)
    | (go_at_call 80; refine (Hr _ hd1 hd2).mono ?_; rintro e w1 ⟨vl, rfl, howl, hb1⟩; obtain ⟨base, cap, rfl⟩ := own_shape howl))
  obtain ⟨B, hB⟩ : ∃ B : Nat, B = (w.alloc (.cells #[] 78)).heap.size := ⟨_, rfl⟩
  rw [← hB] at howl
  have hz1' := hb1.size
  go_loopw [4, 15] (fun v i wr => SplSt hAll L B (.slice base L.length cap) w v i wr) (fun _ i _ => L.length - (intOf i).toNat)
  case atStart => exact ⟨0, rfl, Nat.zero_le _, own_call hb1 (own_empty (Nat.le_refl _)), howl, apart_below howl (by simp [hB]), (by repeat (first | with_reducible exact Below.refl _ _ | with_reducible assumption | with_reducible apply Below.drew | with_reducible apply below_drewN | (with_reducible apply below_setp; (first | omega | (simp <;> omega))) | (with_reducible apply below_allocp; (first | omega | (simp <;> omega))) | (with_reducible refine below_viap (by assumption) ?_ ?_; (first | omega | (simp <;> omega)))))⟩
  case round =>
    clear howl hb1 hz1'
    obtain ⟨k, rfl, hk, hown, howl, hap, hbel⟩ := hrel
    by_cases hlt : k < L.length
    · obtain ⟨g, rfl, hg2, d1, d2, d3⟩ := own_elem howl hlt
      obtain ⟨⟨a1, a2⟩, ⟨b1, b2⟩, ⟨q1, q2⟩⟩ := Hs.out L[k] (List.getElem_mem hlt)
      have hft := flat_take (h := hAll) hlt
      generalize L[k] = f at d1 d2 d3 a1 a2 b1 b2 q1 q2 hft
      have Hft := Lib.hid hft
      clear hft
      have fa : Near f.a := ⟨by omega, by omega⟩
      have fb : Near f.b := ⟨by omega, by omega⟩
      have fc : Near f.c := ⟨by omega, by omega⟩
      have hz := hbel.size
      have hlf := flat_len2 hAll_len L k hl
      have hx := Lib.hid (Hft.out.trans (by rw [hAll, sp]))
      go_wp2_with (first
        | (go_at_call 152; (with_reducible refine (split_any f.a f.b f.c _ fa fb fc).mono ?_); rintro e v1 ⟨rfl, hB1⟩; have hZ1 := hB1.size; (try simp at hZ1); (try have zl1 : w.heap.size < v1.heap.size := by omega); (try have ze1 : w.heap.size ≤ v1.heap.size := by omega); (try have zn1 : ¬ w.heap.size = v1.heap.size := by omega); (try have zm1 : ¬ v1.heap.size = w.heap.size := by omega); have hC1_0 := fun o => (calm_cells hB1).1 (wr.heap.size) o (by first | omega | (simp <;> omega)); have hF1_0 := fun o => (calm_cells hB1).2 (wr.heap.size) o (by first | omega | (simp <;> omega)); (try have hl1_0 : wr.heap.size < v1.heap.size := by omega); (try have hm1_0 : ¬ wr.heap.size = v1.heap.size := by omega); (try have hn1_0 : ¬ v1.heap.size = wr.heap.size := by omega))
        | (at_builtin; refine wpList_append_own_at _ rfl (.tmp 19) (.tmp 22) 81 rfl w.heap.size 78 i0 _ 2 16 Tryz.underlying81 hi hz0 hz1 hz2 rfl (by decide) u4 ((L.take k).flatMap hAll).length (cellsS ((L.take k).flatMap hAll)) rfl ?_ ⟨v1.heap.size, 0, none⟩ 1 1 [.int .i64 (splR f.a f.b f.c), .int .i64 (splS f.a f.b f.c)] rfl rfl ?_ (one2 _ _) ?_ ?_ ?_ ?_; exact (by repeat (first | with_reducible assumption | with_reducible apply own_alloc | with_reducible apply own_drew | with_reducible apply own_drewN | (with_reducible refine own_setp (by assumption) ?_ ?_; (first | omega | (simp <;> omega))) | (with_reducible refine own_call (by assumption) ?_))); exact cells2_new (by simp); (unfold maxLen; omega); omega; (simp; omega); intro v2 w2 hown2 hg2 _ hloc))
      have hb2 : Below w.heap.size w w2 := below_grown (own_ge hown) (by simp; omega) hg2 (by repeat (first | with_reducible exact Below.refl _ _ | with_reducible assumption | with_reducible apply Below.drew | with_reducible apply below_drewN | (with_reducible apply below_setp; (first | omega | (simp <;> omega))) | (with_reducible apply below_allocp; (first | omega | (simp <;> omega))) | (with_reducible refine below_viap (by assumption) ?_ ?_; (first | omega | (simp <;> omega)))))
      have ho2 := own_snoc2 hx.out hown2
      have hol1 : (v1.alloc (Obj.cells #[Value.int IntKind.i64 (splR f.a f.b f.c), Value.int IntKind.i64 (splS f.a f.b f.c)] 78)).ownsRow B 36 3 (.slice (some ⟨g, 0, none⟩) L.length cap) L.length (cellsF L) := (by repeat (first | with_reducible assumption | with_reducible apply own_alloc | with_reducible apply own_drew | with_reducible apply own_drewN | (with_reducible refine own_setp (by assumption) ?_ ?_; (first | omega | (simp <;> omega))) | (with_reducible refine own_call (by assumption) ?_)))
      have hol2 := hol1.kept hg2 hap
      have hap2 := apart_next hap hol1 (Nat.le_refl _) hloc
      clear hg2 hown2 hown hbel howl hap hol1 hloc
      go_wp2
      go_roundw
      case rel => exact ⟨k + 1, rfl, hlt, ho2, hol2, hap2, hb2⟩
      case measure => simp [intOf]; omega
    · have e : k = L.length := by omega
      have hx : (L.take k).flatMap hAll = L.flatMap hAll := by rw [e, List.take_length]
      have Hx := Lib.hid hx
      clear hx
      subst e
      go_wp2
      go_ret2
      exact ⟨_, rfl, by rw [← Hx.out]; exact hown, hbel⟩

end Go.Proofs.YteehcjjhkphdnaaGreat
