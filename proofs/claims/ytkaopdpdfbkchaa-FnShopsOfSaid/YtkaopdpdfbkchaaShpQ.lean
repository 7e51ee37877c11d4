/- The best turns of a shop: what stands in the search. -/
import Derived.Test.YtkaopdpdfbkchaaShpN
import Derived.Test.YtkaopdpdfbkchaaCopy
import Derived.Test.YtkaopdpdfbkchaaStoreBox
namespace Go.Proofs.Ytkaopdpdfbkchaa.Plain
set_option linter.unusedVariables false
set_option linter.unusedSimpArgs false
/-- turns as numbers of a row -/
def lf (L : List Nat) (i : Nat) : Int := ((L.getD i 0 : Nat) : Int)
theorem lf_snoc (L : List Nat) (j : Nat) : fL (L.length + 1) (lf (L ++ [j])) = fL L.length (lf L) ++ [(j : Int)] := by
  rw [fL_succ]
  congr 1
  · exact fL_same fun i hi => by
      unfold lf
      rw [List.getD_eq_getElem?_getD, List.getD_eq_getElem?_getD, List.getElem?_append_left hi]
  · unfold lf
    rw [List.getD_eq_getElem?_getD, List.getElem?_append_right (Nat.le_refl _), Nat.sub_self]; rfl
theorem lf_left (L E : List Nat) {i : Nat} (hi : i < L.length) : lf (L ++ E) i = lf L i := by
  unfold lf
  rw [List.getD_eq_getElem?_getD, List.getD_eq_getElem?_getD, List.getElem?_append_left hi]
theorem LN_lf (L : List Nat) : LN (fun i => L.getD i 0) L.length = L := by
  refine List.ext_getElem? fun i => ?_
  unfold LN
  rw [List.getElem?_map]
  by_cases h : i < L.length
  · rw [List.getElem?_range h, Option.map_some, List.getD_eq_getElem?_getD, List.getElem?_eq_getElem h]; rfl
  · rw [List.getElem?_eq_none (by simp; omega), List.getElem?_eq_none (by omega)]; rfl
/-- the best that is known: turns and their last end -/
abbrev BestT := Option (List Nat × Nat)
/-- no later than another best -/
def LeO (o o' : BestT) : Prop := ∀ L l, o = some (L, l) → ∃ L' l', o' = some (L', l') ∧ l' ≤ l
theorem LeO.refl (o : BestT) : LeO o o := fun L l h => ⟨L, l, h, Nat.le_refl _⟩
theorem LeO.trans {a b c : BestT} (h : LeO a b) (k : LeO b c) : LeO a c := fun L l e => by
  obtain ⟨L', l', e', h1⟩ := h L l e
  obtain ⟨L2, l2, e2, h2⟩ := k L' l' e'
  exact ⟨L2, l2, e2, Nat.le_trans h2 h1⟩
/-- no run that goes on from L ends sooner -/
def CovO (m n : Nat) (ro t : Nat → Nat) (o : BestT) (L : List Nat) : Prop := ∀ E, FullR m n (L ++ E) → ∃ L' l', o = some (L', l') ∧ ∀ M, EndR m (runR m ro t (L ++ E)).F M → l' ≤ M
theorem CovO.le {m n : Nat} {ro t : Nat → Nat} {o o' : BestT} {L : List Nat} (h : CovO m n ro t o L) (hl : LeO o o') : CovO m n ro t o' L := fun E hE => by
  obtain ⟨L', l', e, h1⟩ := h E hE
  obtain ⟨L2, l2, e2, h2⟩ := hl L' l' e
  exact ⟨L2, l2, e2, fun M hM => Nat.le_trans h2 (h1 M hM)⟩
theorem CovO.leaf {m n M : Nat} {ro t : Nat → Nat} {o : BestT} {L L' : List Nat} {l' : Nat} (hL : L.length = n * m) (hM : EndR m (runR m ro t L).F M) (ho : o = some (L', l')) (hl : l' ≤ M) : CovO m n ro t o L := fun E hE => by
  have h1 := hE.len
  rw [List.length_append] at h1
  obtain rfl : E = [] := List.length_eq_zero_iff.1 (by omega)
  refine ⟨L', l', ho, fun M' hM' => ?_⟩
  rw [List.append_nil] at hM'
  rw [hM'.one hM]; exact hl
theorem CovO.node {m n : Nat} {ro t : Nat → Nat} {o : BestT} {L : List Nat} (hL : L.length < n * m) (h : ∀ j, j < n → L.count j < m → CovO m n ro t o (L ++ [j])) : CovO m n ro t o L := fun E hE => by
  cases E with
  | nil => have h1 := hE.len; rw [List.append_nil] at h1; omega
  | cons j E' =>
    have e : L ++ j :: E' = (L ++ [j]) ++ E' := by simp
    rw [e] at hE ⊢
    have h2 := hE.leg.prefix.snoc
    exact h j h2.1 h2.2 E' hE
/-- a best that stands -/
def OkO (m n : Nat) (ro t : Nat → Nat) (o : BestT) : Prop := ∀ L l, o = some (L, l) → FullR m n L ∧ EndR m (runR m ro t L).F l
end Go.Proofs.Ytkaopdpdfbkchaa.Plain
namespace Go.Proofs.Ytkaopdpdfbkchaa
open Go.RowKit Plain
set_option linter.unusedVariables false
set_option linter.unusedSimpArgs false
attribute [local go_sem ↓] Go.wp_at_zero Go.wp_at_succ
theorem apart_blk {w : World} {g n c g' n' c' : Nat} (h : Apart w (.slice (some ⟨g, 0, none⟩) n c) (.slice (some ⟨g', 0, none⟩) n' c')) : g' = g ∨ w.heap.size ≤ g' := by
  by_cases e : g' = g
  · exact .inl e
  · refine .inr (Nat.le_of_not_lt fun hl => ?_)
    have d := h (.slice (some ⟨g', 0, none⟩) 1 1) (fun k hk => by simp [Value.ownBlock] at hk; omega) (fun k h1 h2 => by simp [Value.ownBlock] at h1 h2; omega)
    exact d g' (by simp [Value.ownBlock]) (by simp [Value.ownBlock])
theorem OwnE.shrink {e : TypeId} {w : World} {base g n c : Nat} {f : Nat → Int} (h : OwnE e w base g (n + 1) c f) : OwnE e w base g n c f := by
  rcases h.2 with ⟨h', _⟩ | ⟨g', cap', cur, h', hb, hg, h1, h2, h3, h4⟩
  · cases h'
  · simp only [Value.slice.injEq, Option.some.injEq, Addr.mk.injEq, and_true, true_and] at h'
    obtain ⟨rfl, rfl⟩ := h'
    refine ⟨by simp [fL_len], .inr ⟨_, _, cur, rfl, hb, hg, by omega, h2, h3, ?_⟩⟩
    have e1 : cur.toList.take (n * 1) = (cur.toList.take ((n + 1) * 1)).take (n * 1) := by rw [List.take_take]; congr 1; omega
    rw [e1, h4, fL_succ, List.map_append, List.take_left' (by simp [fL_len])]
set_option maxHeartbeats 400000 in
set_option maxRecDepth 100000 in
theorem app_all_intI {ops : Array Oper} {rest : List Oper} {o : Oper} {a : Act} {Q : Exit → Act → World → Prop} (w : World) (hgd : o.guard = none) (s x : Operand)
    (ho : o.op = .call { callee := .builtin .append, args := #[s, x], argTypes := #[52, 52] }) (base n : Nat) (v : Value) (xs : List Value) (hs : a.eval s = v) (hown : w.ownsRow base 3 1 v n xs)
    (A : Option Addr) (m c : Nat) (vals : List Int) (hx : a.eval x = .slice A m c) (hr : Rd w 1 A m (vals.map vi)) (hm : 0 < m) (hn : n + m ≤ 1048576) (hbase : base ≤ w.heap.size)
    (h : ∀ v' w', w'.ownsRow base 3 1 v' (n + m) (xs ++ vals.map vi) → w.grownBy w' v.ownBlock → Apart w v v' → v' ≠ .slice none 0 0 → wpList Try.prog ops Q rest (a.put o.dst v') w') :
    wpList Try.prog ops Q (o :: rest) a w := by
  obtain ⟨i0, hi, hz0, hz1, hz2⟩ := info_parts info_intI
  obtain ⟨h1, _, h3⟩ := hr
  obtain ⟨b, off, rfl, hc⟩ := h3 hm
  refine wpList_append_own_at _ hgd s x 52 ho base 3 i0 (.int .i64 0) 1 8 Try.underlying52 hi hz0 hz1 hz2 rfl (by decide) v n xs hs hown ⟨b, off, none⟩ m c (vals.map vi) hx h1 (fun j u hu => ?_) (fun u hu => ?_) (by unfold maxLen; omega) (by omega) hbase ?_
  · have := hc j u hu
    unfold Addr.add
    by_cases hj : j = 0 <;> simpa [hj] using this
  · obtain ⟨y, _, rfl⟩ := List.mem_map.1 hu
    rfl
  · intro v' w' k2 k3 k4 k5
    exact h v' w' k2 k3 (apart_of (Nat.le_refl _) k5) (fun e => by have := k4.1 e; omega)
set_option maxHeartbeats 400000 in
set_option maxRecDepth 100000 in
theorem CloneI_any (v : Value) (xs : List Int) (w : World) (hs : Sl w 1 v xs.length (xs.map vi)) (hn0 : 0 < xs.length) (hx : xs.length ≤ 1048576) :
    Calls Try.prog 30 #[v] w fun r w' => ∃ u, r = .returned u ∧ w'.ownsRow w.heap.size 3 1 u xs.length (xs.map vi) ∧ Below w.heap.size w w' ∧ u ≠ .slice none 0 0 := by
  obtain ⟨A, cap, rfl, hcap, hr⟩ := hs
  obtain ⟨b, off, rfl, _⟩ := hr.2.2 hn0
  have hr2 := hr.below ((Below.refl _ w).alloc (Nat.le_refl _) (.cells #[] 3))
  have hr2 := hd hr2
  clear hr
  generalize hn : xs.length = n at *
  clear hn
  have he : ∀ w : World, (binOp .eql 52 (.slice (some ⟨b, off, none⟩) n cap) (.slice none 0 0)).run Try.prog w = .ok (.bool false) w := fun _ => rfl
  go_enter Try.func30, Try.ntmps30
  go_wp2_with (at_builtin; go_must (refine app_all_intI _ rfl _ _ rfl w.heap.size 0 _ _ rfl (World.ownsRow_made (size := 1) w #[] 0 (Nat.le_refl _) (by unfold maxLen; omega) rfl (e := 3)) _ n cap xs rfl hr2.out hn0 (by omega) (by simp) ?_); intro v' w' h1 h2 h3 h4)
  go_ret
  refine ⟨_, rfl, by simpa using h1, ?_, h4⟩
  exact ((Below.refl _ w).alloc (Nat.le_refl _) _).grown h2 (by simp) (own_row (World.ownsRow_made (size := 1) w #[] 0 (Nat.le_refl _) (by unfold maxLen; omega) rfl (e := 3)) (Nat.le_refl _))
/-- a clone of a row that holds a function -/
theorem CloneF (b o c n : Nat) (f : Nat → Int) (w : World) (h : FA w b o c n f) (n1 : 1 ≤ n) (n24 : n ≤ 1000) :
    Calls Try.prog 29 #[.slice (some ⟨b, o, none⟩) n c] w fun r w' => ∃ g cap, r = .returned (.slice (some ⟨g, 0, none⟩) n cap) ∧ OwnE 2 w' w.heap.size g n cap f ∧ Below w.heap.size w w' :=
  (Clone_any _ (fL n f) w (h.slf (by omega)) (by rw [fL_len]; omega) (by rw [fL_len]; omega)).mono fun r w' ⟨u, h1, h2, h3, _⟩ => by
    rw [fL_len] at h2
    obtain ⟨g, cap, rfl, _, _⟩ := own_form h2 n1
    exact ⟨g, cap, h1, h2, h3⟩
theorem CloneIF (b o c n : Nat) (f : Nat → Int) (w : World) (h : FA w b o c n f) (n1 : 1 ≤ n) (n24 : n ≤ 1000) :
    Calls Try.prog 30 #[.slice (some ⟨b, o, none⟩) n c] w fun r w' => ∃ g cap, r = .returned (.slice (some ⟨g, 0, none⟩) n cap) ∧ OwnE 3 w' w.heap.size g n cap f ∧ Below w.heap.size w w' :=
  (CloneI_any _ (fL n f) w (h.slf (by omega)) (by rw [fL_len]; omega) (by rw [fL_len]; omega)).mono fun r w' ⟨u, h1, h2, h3, _⟩ => by
    rw [fL_len] at h2
    obtain ⟨g, cap, rfl, _, _⟩ := own_form h2 n1
    exact ⟨g, cap, h1, h2, h3⟩
theorem OwnE.fa {e : TypeId} {w : World} {base g n cap : Nat} {f : Nat → Int} (h : OwnE e w base g n cap f) (hn : n ≤ 1048576) : FA w g 0 cap n f :=
  ⟨(own_sl h (by unfold maxLen; omega)).elim fun A h => h.elim fun c h => by cases h.1; exact h.2.1, fun i hi => by rw [Nat.zero_add]; exact h.at hi⟩
end Go.Proofs.Ytkaopdpdfbkchaa
