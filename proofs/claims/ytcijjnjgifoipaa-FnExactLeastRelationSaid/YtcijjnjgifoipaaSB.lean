/- Plain facts: the class group as an abelian group; how many classes a number kills. -/
import Derived.Test.YtcijjnjgifoipaaSA
import Derived.Test.YtcijjnjgifoipaaUB
import Derived.Test.YtcijjnjgifoipaaK3
namespace Go.Proofs.Ytcijjnjgifoipaa
open Go.RowKit

noncomputable def clG {d : Int} (D : Dsc d) : Ab {f : Fm // f ∈ clsL d} where
  mul x y := ⟨cmp d x.1 y.1, D.cmpm x.2 y.2⟩
  one := ⟨oneF d, D.one⟩
  inv x := ⟨red (oppF x.1), D.opp_mem x.2 (CF.of_mem D x.2).df⟩
  comm x y := Subtype.ext (D.comm x.2 y.2)
  assoc x y z := Subtype.ext (D.assoc x.2 y.2 z.2)
  one_mul x := Subtype.ext (D.one_mul x.2)
  inv_mul x := Subtype.ext (by
    show cmp d (red (oppF x.1)) x.1 = oneF d
    rw [D.comm (D.opp_mem x.2 (CF.of_mem D x.2).df) x.2]
    exact D.inv x.2 (CF.of_mem D x.2).df)
theorem clG_pw {d : Int} (D : Dsc d) (x : {f : Fm // f ∈ clsL d}) : ∀ n, ((clG D).pw x n).1 = pw d x.1 n
  | 0 => rfl
  | n + 1 => by
    show cmp d x.1 ((clG D).pw x n).1 = cmp d (pw d x.1 n) x.1
    rw [clG_pw D x n, D.comm x.2 (D.pwm x.2 n)]
theorem clG_all {d : Int} (D : Dsc d) : (clG D).Sub (clsL d).attach := by
  refine ⟨?_, List.mem_attach _ _, fun _ _ _ _ => List.mem_attach _ _, fun _ _ => List.mem_attach _ _⟩
  have h := clsL_nodup d
  rw [← List.attach_map_subtype_val (clsL d)] at h
  exact List.Pairwise.of_map _ (fun a b hab he => hab (congrArg Subtype.val he)) h
theorem clG_ord {d : Int} (D : Dsc d) (x : {f : Fm // f ∈ clsL d}) : (clG D).IsO x (ordF d x.1) := by
  obtain ⟨h1, h2, h3⟩ := (D.ordm x.2).1
  refine ⟨h1, Subtype.ext (by rw [clG_pw]; exact h2), fun k k1 k2 he => h3 k k1 k2 ?_⟩
  rw [← clG_pw D, he]
  rfl
theorem clG_tor {d : Int} (D : Dsc d) : (clG D).Tor (clsL d).attach (fun x => ordF d x.1) := fun x _ => ⟨(clG_ord D x).1, (clG_ord D x).2.1⟩
/-- How many classes have an order that divides q. -/
noncomputable def cntO (d : Int) (q : Nat) : Nat := ((clsL d).filter fun f => q % ordF d f == 0).length
theorem cnt_tors {d : Int} (D : Dsc d) (q : Nat) : cntO d q = ((clG D).tors (clsL d).attach q).length := by
  unfold cntO Ab.tors
  conv => lhs; rw [← List.attach_map_subtype_val (clsL d)]
  rw [List.filter_map, List.length_map]
  congr 1
  refine List.filter_congr fun x _ => ?_
  rw [Bool.eq_iff_iff]
  simp only [Function.comp_apply, beq_iff_eq, decide_eq_true_eq]
  constructor
  · intro h
    exact (clG_ord D x).of_dvd _ (Nat.dvd_of_mod_eq_zero h)
  · intro h
    exact Nat.mod_eq_zero_of_dvd ((clG_ord D x).dvd _ h)
theorem att_len (d : Int) : (clsL d).attach.length = (clsL d).length := List.length_attach
theorem cnt_part {d : Int} (D : Dsc d) {a b : Nat} (ha : 0 < a) (hb : 0 < b) (hm : (clsL d).length = a * b) (hc : Nat.Coprime a b) : cntO d a = a := by
  rw [cnt_tors D]
  exact (clG D).tors_len (clG_all D) (clG_tor D) ha hb (by rw [att_len]; exact hm) hc
theorem cnt_dvd {d : Int} (D : Dsc d) {a b : Nat} (h : a ∣ b) : cntO d a ∣ cntO d b := by
  rw [cnt_tors D, cnt_tors D]
  exact (clG D).tors_dvd (clG_all D) (clG_tor D) h
theorem cnt_pos {d : Int} (D : Dsc d) (q : Nat) : 0 < cntO d q := by
  rw [cnt_tors D]
  exact List.length_pos_of_mem ((clG D).tors_sub (clG_all D) q).one
theorem cnt_pow {d : Int} (D : Dsc d) {p : Nat} (hp : Ab.PrN p) (e : Nat) : ∃ j, cntO d (p ^ e) = p ^ j := by
  rw [cnt_tors D]
  have h0 : 0 < p ^ e := Nat.pow_pos (by have := hp.1; omega)
  obtain ⟨k, hk⟩ := (clG D).size_dvd ((clG D).tors_sub (clG_all D) (p ^ e)) h0 (fun x hx => ((clG D).mem_tors.1 hx).2)
  rw [← Nat.pow_mul] at hk
  obtain ⟨j, _, hj⟩ := Ab.dvd_pow hp.1 hp.2 _ _ hk
  exact ⟨j, hj⟩
theorem cnt_cyc {d : Int} (D : Dsc d) {f : Fm} (hf : f ∈ clsL d) (ho : ordF d f = (clsL d).length) {q c : Nat} (hq : 0 < q) (hm : (clsL d).length = q * c) : cntO d q = q := by
  rw [cnt_tors D]
  have hO := clG_ord D ⟨f, hf⟩
  rw [show ordF d (⟨f, hf⟩ : {f : Fm // f ∈ clsL d}).1 = (clsL d).attach.length from by rw [att_len]; exact ho] at hO
  exact (clG D).cyc_tors (clG_all D) (List.mem_attach _ _) hO hq (by rw [att_len]; exact hm)
theorem cyc_of {d : Int} (D : Dsc d) (h : ∀ p e r, Ab.PrN p → (clsL d).length = p ^ (e + 1) * r → Nat.Coprime p r → cntO d (p ^ e) < cntO d (p ^ (e + 1))) : ∃ f ∈ clsL d, ordF d f = (clsL d).length := by
  have hm : 0 < (clsL d).length := List.length_pos_of_mem D.one
  obtain ⟨x, _, hx⟩ := (clG D).ord_all (clG_all D) (clsL d).length (fun p e r hp h1 h2 => (clG D).ord_pow (clG_all D) (clG_tor D) hp.1 hp.2 (by
    rw [← cnt_tors D, ← cnt_tors D]
    exact h p e r hp h1 h2)) (clsL d).length 1 hm (by omega) (Nat.coprime_one_right _)
  refine ⟨x.1, x.2, ?_⟩
  have hy := clG_ord D x
  have d1 := hx.dvd _ hy.2.1
  have d2 := hy.dvd _ hx.2.1
  exact Nat.dvd_antisymm d2 d1
end Go.Proofs.Ytcijjnjgifoipaa
