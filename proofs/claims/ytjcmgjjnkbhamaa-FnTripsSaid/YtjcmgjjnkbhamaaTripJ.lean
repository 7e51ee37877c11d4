/- Vehicles of trips: what the law of trips asks of the program's answers. No walk stands here. -/
import Derived.Test.YtjcmgjjnkbhamaaProg
import Derived.Test.YtjcmgjjnkbhamaaVehI
import Derived.Test.YtjcmgjjnkbhamaaBndI
import Derived.Test.YtjcmgjjnkbhamaaTripB
namespace Go.Proofs.Ytjcmgjjnkbhamaa
open Go.RowKit Plain
set_option linter.unusedVariables false
set_option linter.unusedSimpArgs false
def sS (l : List Q4) (x : Nat) : Int := stV l x
def eE (l : List Q4) (x : Nat) : Int := match l[x]? with | some a => a.b | none => 1
theorem trip_at {l : List Q4} (h : tripsB l = true) {x : Nat} (hx : x < l.length) : ∃ a b c d : Int, l[x]? = some ⟨a, b, c, d⟩ ∧ sS l x = a ∧ eE l x = b ∧ 0 ≤ a ∧ a ≤ 10000 ∧ a < b := by
  obtain ⟨a, b, c, d, ea⟩ : ∃ a b c d, l[x]? = some ⟨a, b, c, d⟩ := ⟨l[x].a, l[x].b, l[x].c, l[x].d, List.getElem?_eq_getElem hx⟩
  have hab : a + 1 ≤ b ∧ 0 ≤ a ∧ a ≤ 10000 := by
    rw [tripsB, Bool.and_eq_true, List.all_eq_true] at h
    have := tripB_iff.1 (h.1 _ (List.mem_of_getElem? ea))
    simp only at this
    omega
  refine ⟨a, b, c, d, ea, ?_, ?_, by omega, by omega, by omega⟩
  · rw [sS, stV, ea]; show ((a.toNat : Nat) : Int) = a; omega
  · rw [eE, ea]
theorem trip_se {l : List Q4} (h : tripsB l = true) (x : Nat) (hx : x < l.length) : sS l x < eE l x := by
  obtain ⟨a, b, c, d, _, h1, h2, _, _, h3⟩ := trip_at h hx
  omega
theorem cnt_same {l : List Q4} (h : tripsB l = true) (t : Int) (k : Nat) (hk : k ≤ l.length) : BndI.cntTo l t k = cntG (sS l) (eE l) t k := by
  induction k with
  | zero => rfl
  | succ k ih =>
    obtain ⟨a, b, c, d, e, h1, h2, _⟩ := trip_at h (show k < l.length by omega)
    rw [BndI.cntTo, cntG, ih (by omega), e, h1, h2]
theorem most_same {l : List Q4} (h : tripsB l = true) (k : Nat) (hk : k ≤ l.length) : BndI.mostTo l k = mostG (sS l) (eE l) l.length k := by
  induction k with
  | zero => rfl
  | succ k ih =>
    obtain ⟨a, b, c, d, e, h1, h2, _⟩ := trip_at h (show k < l.length by omega)
    rw [BndI.mostTo, mostG, ih (by omega), e, h1]
    simp only
    rw [cnt_same h a _ (Nat.le_refl _)]
theorem fit_en {l : List Q4} {ms : List Int} (h : tripsB l = true) (h2 : movesB ms = true) {i k : Nat} (hi : i < l.length) (hk : k < l.length) (hf : fitV l ms i k = true) : eE l i ≤ sS l k := by
  obtain ⟨a, b, c, d, ea, e1, e2, _⟩ := trip_at h hi
  obtain ⟨a', b', c', d', eb, e3, e4, _⟩ := trip_at h hk
  obtain ⟨nc, nd, rfl, rfl, _, g2, q1, _⟩ := trips_q h ea
  obtain ⟨nc', nd', rfl, rfl, g3, _, q2, _⟩ := trips_q h eb
  rw [fitV, cellF_at ea eb, folB_nat, decide_eq_true_eq] at hf
  have m := moves_at h2 nd nc' g2 g3
  omega
theorem lnk_of {l : List Q4} {ms : List Int} (h : tripsB l = true) (h2 : movesB ms = true) : Lnk (poV l ms) (nxV l ms) l.length (sS l) := by
  obtain ⟨_, f1, f3, f2⟩ := po_facts (l := l) (ms := ms)
  refine ⟨fun x hx => ?_, fun k hk => ?_, fun x => ⟨Int.natCast_nonneg _, by have := stV_le h x; rw [sS]; omega⟩⟩
  · rcases first_is (po := poV l ms) (x := (x : Int)) (m := l.length) with e | ⟨k, hk, e, e2⟩
    · left; rw [nxV, e]; omega
    · right
      have e' : nxV l ms x = (k : Int) := e
      rw [e', Int.toNat_natCast]
      have hf := f3 k hk (by omega)
      rw [e2, Int.toNat_natCast] at hf
      exact ⟨by omega, by omega, e2, by have := fit_st h h2 hx hk hf; rw [sS, sS]; omega⟩
  · rcases f2 k hk with e | ⟨e1, e2⟩
    · left; omega
    · refine .inr ⟨e1, e2, ?_⟩
      rw [nxV, Int.toNat_of_nonneg e1]
      refine first_found hk rfl (fun j hj e => ?_)
      have := f1 j k (by omega) hk (fun h => h) (fun h => h) (by rw [e]; exact e1) e
      omega
theorem nx_fit {l : List Q4} {ms : List Int} (h : tripsB l = true) (h2 : movesB ms = true) (x : Nat) (hx : x < l.length) (h0 : 0 ≤ nxV l ms x) : eE l x ≤ sS l (nxV l ms x).toNat := by
  rcases first_is (po := poV l ms) (x := (x : Int)) (m := l.length) with e | ⟨k, hk, e, e2⟩
  · rw [nxV, e] at h0; omega
  · have e' : nxV l ms x = (k : Int) := e
    rw [e', Int.toNat_natCast]
    have hf := (po_facts (l := l) (ms := ms)).2.2.1 k hk (by omega)
    rw [e2, Int.toNat_natCast] at hf
    exact fit_en h h2 hx hk hf
/-- the vehicles of trips -/
structure VehK (l : List Q4) (vs : List Int) (ct : Nat) : Prop where
  len : vs.length = l.length
  top : ct ≤ l.length
  bd : ∀ x, x < l.length → 0 ≤ vs.getD x 0 ∧ vs.getD x 0 < (ct : Int)
  apart : ∀ x y, x < l.length → y < l.length → x ≠ y → vs.getD x 0 = vs.getD y 0 → eE l x ≤ sS l y ∨ eE l y ≤ sS l x
  most : BndI.mostTo l l.length ≤ ct
theorem veh_known {l : List Q4} {ms : List Int} (h : tripsB l = true) (h2 : movesB ms = true) : ∃ (vs : List Int) (ct : Nat), VehI.M l ms = (vs, (ct : Int), true) ∧ VehK l vs ct := by
  have hok : VehI.okV l ms = true := by rw [VehI.okV, h, h2]; rfl
  obtain ⟨g1, g2⟩ := veh_good (E := eE l) (lnk_of h h2) (trip_se h) (nx_fit h h2) (List.replicate l.length (-1)) (by simp)
  refine ⟨_, _, VehI.M_yes hok, ⟨by rw [veh_len]; simp, VehI.veh_cnt _ _ _ _ _, g1, g2, ?_⟩⟩
  rw [most_same h _ (Nat.le_refl _)]
  exact most_le g1 g2
/-- where moves take no time, as many are under way at once -/
theorem veh_none {l : List Q4} {ms : List Int} (h : tripsB l = true) (h2 : movesB ms = true) (h0 : ∀ j, ms.getD j 0 = 0) : ∃ (vs : List Int) (ct : Nat), VehI.M l ms = (vs, (ct : Int), true) ∧ BndI.mostTo l l.length = ct := by
  obtain ⟨vs, ct, e, K⟩ := veh_known h h2
  refine ⟨vs, ct, e, ?_⟩
  have hok : VehI.okV l ms = true := by rw [VehI.okV, h, h2]; rfl
  rw [VehI.M_yes hok] at e
  have ec : (vehV (poV l ms) (nxV l ms) 10001 (List.replicate l.length (-1)) l.length).2 = ct := by
    have := congrArg (fun z : List Int × Int × Bool => z.2.1) e
    simp only at this
    omega
  obtain ⟨A, a1, a2, a3, a4⟩ := wide (f := fitV l ms) l.length
  have hA := most_ge (St := sS l) (E := eE l) a1 a3 (fun u hu v hv hle => by
    have hf := a4 u hu v hv
    obtain ⟨a, b, c, d, ea, e1, e2, _⟩ := trip_at h (a3 u hu)
    obtain ⟨a', b', c', d', eb, e3, e4, _⟩ := trip_at h (a3 v hv)
    obtain ⟨nc, nd, rfl, rfl, _, g2, q1, _⟩ := trips_q h ea
    obtain ⟨nc', nd', rfl, rfl, g3, _, q2, _⟩ := trips_q h eb
    rw [fitV, cellF_at ea eb, folB_nat, decide_eq_false_iff_not, h0] at hf
    omega)
  rw [← most_same h _ (Nat.le_refl _)] at hA
  rw [veh_count] at ec
  have e3 : (List.filter (fun k => decide ((poV l ms).getD k 0 < 0)) (List.range l.length)).length = (List.filter (fun k => decide ((matM (fitV l ms) l.length l.length).getD k 0 < 0)) (List.range l.length)).length := rfl
  have := K.most
  omega
end Go.Proofs.Ytjcmgjjnkbhamaa
