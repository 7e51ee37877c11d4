/- As many things, of which none can be behind another, as there are chains: counts. No program stands here. -/
import Derived.Test.YtjddlgmdbkaieaaMatK
import Derived.Test.YtjddlgmdbkaieaaVehT
namespace Go.Proofs.Ytjddlgmdbkaieaa.Plain
set_option linter.unusedVariables false
set_option linter.unusedSimpArgs false
theorem nodup_sub {l1 l2 : List Nat} (hn : l1.Nodup) (hs : ∀ x ∈ l1, x ∈ l2) : l1.length ≤ l2.length := by
  induction l1 generalizing l2 with
  | nil => simp
  | cons a l1 ih =>
    have ha : a ∈ l2 := hs a (by simp)
    have h1 := List.length_erase_of_mem ha
    have h2 : 0 < l2.length := List.length_pos_of_mem ha
    rw [List.nodup_cons] at hn
    have h3 := ih (l2 := l2.erase a) hn.2 (fun x hx => by
      have hne : x ≠ a := fun e => hn.1 (e ▸ hx)
      exact (List.mem_erase_of_ne hne).2 (hs x (by simp [hx])))
    rw [List.length_cons]
    omega
theorem map_nodup {l : List Nat} {g : Nat → Nat} (hn : l.Nodup) (h : ∀ a ∈ l, ∀ b ∈ l, g a = g b → a = b) : (l.map g).Nodup := by
  induction l with
  | nil => simp
  | cons a l ih =>
    rw [List.nodup_cons] at hn
    rw [List.map_cons, List.nodup_cons]
    refine ⟨fun hm => ?_, ih hn.2 (fun x hx y hy => h x (by simp [hx]) y (by simp [hy]))⟩
    obtain ⟨b, hb, e⟩ := List.mem_map.1 hm
    have := h b (by simp [hb]) a (by simp) e
    exact hn.1 (this ▸ hb)
theorem filter_two (l : List Nat) (P : Nat → Bool) : (l.filter P).length + (l.filter fun x => !P x).length = l.length := by
  induction l with
  | nil => rfl
  | cons a l ih =>
    cases h : P a with
    | true => rw [List.filter_cons_of_pos h, List.filter_cons_of_neg (by simp [h])]; simp only [List.length_cons]; omega
    | false => rw [List.filter_cons_of_neg (by simp [h]), List.filter_cons_of_pos (by simp [h])]; simp only [List.length_cons]; omega
open Classical in
/-- as many as there are free columns, none behind another -/
theorem wide {f : Nat → Nat → Bool} (n : Nat) : ∃ A : List Nat, A.Nodup ∧ ((List.range n).filter fun k => decide ((matM f n n).getD k 0 < 0)).length ≤ A.length ∧ (∀ v ∈ A, v < n) ∧ ∀ u ∈ A, ∀ v ∈ A, f u v = false := by
  obtain ⟨R, S, hc, hR, hU⟩ := mat_cert f n n
  have F := mat_full f n n
  obtain ⟨po, hpo⟩ : ∃ po, po = matM f n n := ⟨_, rfl⟩
  rw [← hpo] at hc hU F ⊢
  have nr : (List.range n).Nodup := List.nodup_range
  have inj : ∀ a, a < n → 0 ≤ po.getD a 0 → ∀ b, b < n → 0 ≤ po.getD b 0 → (po.getD a 0).toNat = (po.getD b 0).toNat → a = b := fun a ha h1 b hb h2 e => by
    rcases Nat.decEq a b with hne | he
    · exact absurd (show po.getD a 0 = po.getD b 0 by omega) (F.inj a b ha hb hne h1)
    · exact he
  -- matched columns and their rows
  have e1 := filter_two (List.range n) (fun k => decide (po.getD k 0 < 0))
  obtain ⟨MC, hMC⟩ : ∃ MC, MC = (List.range n).filter fun x => !decide (po.getD x 0 < 0) := ⟨_, rfl⟩
  rw [← hMC, List.length_range] at e1
  have mMC : ∀ k, k ∈ MC ↔ k < n ∧ 0 ≤ po.getD k 0 := fun k => by rw [hMC]; simp
  have nMC : MC.Nodup := by rw [hMC]; exact nr.filter _
  have nRM : (MC.map fun k => (po.getD k 0).toNat).Nodup := map_nodup nMC (fun a ha b hb e => inj a ((mMC a).1 ha).1 ((mMC a).1 ha).2 b ((mMC b).1 hb).1 ((mMC b).1 hb).2 e)
  -- rows without a column
  have e2 := filter_two (List.range n) (fun r => decide (r ∈ MC.map fun k => (po.getD k 0).toNat))
  have b2 : ((List.range n).filter fun r => decide (r ∈ MC.map fun k => (po.getD k 0).toNat)).length ≤ MC.length := by
    have := nodup_sub (l1 := (List.range n).filter fun r => decide (r ∈ MC.map fun k => (po.getD k 0).toNat)) (l2 := MC.map fun k => (po.getD k 0).toNat) (nr.filter _) (fun x hx => by simpa using (List.mem_filter.1 hx).2)
    rwa [List.length_map] at this
  obtain ⟨U, hUd⟩ : ∃ U, U = (List.range n).filter fun x => !decide (x ∈ MC.map fun k => (po.getD k 0).toNat) := ⟨_, rfl⟩
  rw [← hUd, List.length_range] at e2
  have mU : ∀ r ∈ U, r < n ∧ R r ∧ r ∉ MC.map fun k => (po.getD k 0).toNat := fun r hr => by
    rw [hUd, List.mem_filter] at hr
    have h1 := List.mem_range.1 hr.1
    have h2 : r ∉ MC.map fun k => (po.getD k 0).toNat := by simpa using hr.2
    refine ⟨h1, hU r h1 (fun k hk e => h2 ?_), h2⟩
    exact List.mem_map.2 ⟨k, (mMC k).2 ⟨hk, by omega⟩, by omega⟩
  have nU : U.Nodup := by rw [hUd]; exact nr.filter _
  -- columns of S and their rows
  obtain ⟨SC, hSC⟩ : ∃ SC, SC = (List.range n).filter fun k => decide (S k) := ⟨_, rfl⟩
  have mSC : ∀ k ∈ SC, k < n ∧ S k := fun k hk => by rw [hSC, List.mem_filter] at hk; exact ⟨List.mem_range.1 hk.1, by simpa using hk.2⟩
  have nSC : SC.Nodup := by rw [hSC]; exact nr.filter _
  have nSM : (SC.map fun k => (po.getD k 0).toNat).Nodup := map_nodup nSC (fun a ha b hb e => by
    obtain ⟨a1, a2⟩ := mSC a ha
    obtain ⟨b1, b2⟩ := mSC b hb
    exact inj a a1 (hc.taken a a1 a2).1 b b1 (hc.taken b b1 b2).1 e)
  obtain ⟨RL, hRL⟩ : ∃ RL, RL = (List.range n).filter fun r => decide (R r) := ⟨_, rfl⟩
  have e3 : U.length + SC.length ≤ RL.length := by
    have hn : (U ++ SC.map fun k => (po.getD k 0).toNat).Nodup := by
      rw [List.nodup_append]
      refine ⟨nU, nSM, fun a ha b hb e => ?_⟩
      subst e
      obtain ⟨k, hk, rfl⟩ := List.mem_map.1 hb
      obtain ⟨k1, k2⟩ := mSC k hk
      exact (mU _ ha).2.2 (List.mem_map.2 ⟨k, (mMC k).2 ⟨k1, (hc.taken k k1 k2).1⟩, rfl⟩)
    have := nodup_sub hn (l2 := RL) (fun x hx => by
      rw [hRL, List.mem_filter, List.mem_range]
      rcases List.mem_append.1 hx with h | h
      · exact ⟨(mU x h).1, by simpa using (mU x h).2.1⟩
      · obtain ⟨k, hk, rfl⟩ := List.mem_map.1 h
        obtain ⟨k1, k2⟩ := mSC k hk
        have h5 := (hc.taken k k1 k2).2
        exact ⟨hR _ h5, by simpa using h5⟩)
    rwa [List.length_append, List.length_map] at this
  have e4 := filter_two RL (fun k => decide (S k))
  have e5 : (RL.filter fun k => decide (S k)).length ≤ SC.length := nodup_sub (by rw [hRL]; exact (nr.filter _).filter _) (fun x hx => by
    rw [List.mem_filter, hRL, List.mem_filter] at hx
    rw [hSC, List.mem_filter]
    exact ⟨hx.1.1, hx.2⟩)
  refine ⟨RL.filter fun x => !decide (S x), by rw [hRL]; exact (nr.filter _).filter _, by omega, fun v hv => ?_, fun u hu v hv => ?_⟩
  · rw [List.mem_filter, hRL, List.mem_filter] at hv
    exact List.mem_range.1 hv.1.1
  · rw [List.mem_filter, hRL, List.mem_filter] at hu hv
    cases h : f u v with
    | false => rfl
    | true =>
      exfalso
      have h1 : R u := by simpa using hu.1.2
      have h2 : ¬ S v := by simpa using hv.2
      exact h2 (hc.closed u h1 v (List.mem_range.1 hv.1.1) h)
theorem veh_count (po : List Int) (nx : Nat → Int) (F : Nat) (o : List Int) (i : Nat) : (vehV po nx F o i).2 = ((List.range i).filter fun k => decide (po.getD k 0 < 0)).length := by
  induction i with
  | zero => rfl
  | succ i ih =>
    rw [vehV, List.range_succ, List.filter_append]
    by_cases h : 0 ≤ po.getD i 0
    · rw [if_pos h, ih]
      have : ¬ po.getD i 0 < 0 := by omega
      rw [List.length_append, List.filter_cons_of_neg (by rw [decide_eq_true_eq]; exact this)]; rfl
    · rw [if_neg h]
      have h2 : po.getD i 0 < 0 := by omega
      rw [List.length_append, List.filter_cons_of_pos (by rw [decide_eq_true_eq]; exact h2), ih]; rfl
end Go.Proofs.Ytjddlgmdbkaieaa.Plain
