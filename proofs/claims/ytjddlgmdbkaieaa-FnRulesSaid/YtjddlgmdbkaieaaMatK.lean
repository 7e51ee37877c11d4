/- A search that fails leaves a closed set of rows and columns; no later search touches it (the certificate that no matching is greater). No program stands here. -/
import Derived.Test.YtjddlgmdbkaieaaMatF
namespace Go.Proofs.Ytjddlgmdbkaieaa.Plain
set_option linter.unusedVariables false
set_option linter.unusedSimpArgs false
/-- rows whose columns all lie in S, where each column of S is taken by one of the rows -/
structure Cert (f : Nat → Nat → Bool) (p : Nat) (po : List Int) (R S : Nat → Prop) : Prop where
  closed : ∀ r, R r → ∀ k, k < p → f r k = true → S k
  taken : ∀ k, k < p → S k → 0 ≤ po.getD k 0 ∧ R (po.getD k 0).toNat
theorem cert_or {f : Nat → Nat → Bool} {p : Nat} {po : List Int} {R S R' S' : Nat → Prop} (h : Cert f p po R S) (h' : Cert f p po R' S') : Cert f p po (fun r => R r ∨ R' r) (fun k => S k ∨ S' k) :=
  ⟨fun r hr k hk hf => hr.elim (fun h1 => .inl (h.closed r h1 k hk hf)) (fun h1 => .inr (h'.closed r h1 k hk hf)), fun k hk hs => hs.elim (fun h1 => ⟨(h.taken k hk h1).1, .inl (h.taken k hk h1).2⟩) (fun h1 => ⟨(h'.taken k hk h1).1, .inr (h'.taken k hk h1).2⟩)⟩
theorem cert_same {f : Nat → Nat → Bool} {p : Nat} {po po' : List Int} {R S : Nat → Prop} (h : Cert f p po R S) (e : ∀ k, k < p → S k → po'.getD k 0 = po.getD k 0) : Cert f p po' R S :=
  ⟨h.closed, fun k hk hs => by rw [e k hk hs]; exact h.taken k hk hs⟩
/-- a search that fails changes no partner -/
theorem loop_fail {f : Nat → Nat → Bool} {rc : Nat → MaS → Bool × MaS} (hr : ∀ i s, (rc i s).1 = false → (rc i s).2.po = s.po) (i : Nat) (r : Nat) : ∀ (k : Nat) (s : MaS), (loopM f rc i r k s).1 = false → (loopM f rc i r k s).2.po = s.po := by
  induction r with
  | zero => intro k s _; rfl
  | succ r ih =>
    intro k s h
    rw [loopM] at h ⊢
    by_cases h1 : (s.sn.getD k true || !f i k) = true
    · rw [if_pos h1] at h ⊢
      exact ih _ _ h
    · rw [if_neg h1] at h ⊢
      by_cases h2 : s.po.getD k 0 < 0
      · rw [if_pos h2] at h; cases h
      · rw [if_neg h2] at h ⊢
        have hx := hr (s.po.getD k 0).toNat (markM s k)
        generalize rc (s.po.getD k 0).toNat (markM s k) = z at *
        obtain ⟨b, s2⟩ := z
        cases b with
        | true => cases h
        | false =>
          simp only at h ⊢
          rw [ih _ _ h]
          exact hx rfl
theorem look_fail {f : Nat → Nat → Bool} {p : Nat} (n : Nat) : ∀ (i : Nat) (s : MaS), (lookM f p n i s).1 = false → (lookM f p n i s).2.po = s.po := by
  induction n with
  | zero => intro i s _; rfl
  | succ n ih => intro i s h; exact loop_fail ih i p 0 s h
/-- from a closed row nothing is found -/
theorem loop_stuck {f : Nat → Nat → Bool} {p : Nat} {po : List Int} {R S : Nat → Prop} (hc : Cert f p po R S) {rc : Nat → MaS → Bool × MaS} (hr : ∀ r s, s.po = po → R r → (rc r s).1 = false ∧ (rc r s).2.po = po) {i : Nat} (hi : R i) (r : Nat) :
    ∀ (k : Nat) (s : MaS), k + r = p → s.po = po → (loopM f rc i r k s).1 = false ∧ (loopM f rc i r k s).2.po = po := by
  induction r with
  | zero => intro k s _ hs; exact ⟨rfl, hs⟩
  | succ r ih =>
    intro k s hk hs
    rw [loopM]
    by_cases h1 : (s.sn.getD k true || !f i k) = true
    · rw [if_pos h1]
      exact ih _ _ (by omega) hs
    · rw [if_neg h1]
      have hf : f i k = true := by
        cases e : f i k with
        | true => rfl
        | false => rw [e] at h1; simp at h1
      obtain ⟨t1, t2⟩ := hc.taken k (by omega) (hc.closed i hi k (by omega) hf)
      rw [hs, if_neg (by omega)]
      have hx := hr (po.getD k 0).toNat (markM s k) hs t2
      generalize rc (po.getD k 0).toNat (markM s k) = z at *
      obtain ⟨b, s2⟩ := z
      simp only at hx
      obtain ⟨rfl, hx2⟩ := hx
      exact ih _ _ (by omega) hx2
theorem look_stuck {f : Nat → Nat → Bool} {p : Nat} {po : List Int} {R S : Nat → Prop} (hc : Cert f p po R S) (n : Nat) : ∀ (r : Nat) (s : MaS), s.po = po → R r → (lookM f p n r s).1 = false ∧ (lookM f p n r s).2.po = po := by
  induction n with
  | zero => intro r s hs _; exact ⟨rfl, hs⟩
  | succ n ih => intro r s hs hr; exact loop_stuck hc ih hr p 0 s (by omega) hs
/-- no search touches a closed set -/
theorem loop_keeps {f : Nat → Nat → Bool} {p : Nat} {po : List Int} {R S : Nat → Prop} (hc : Cert f p po R S) {rc : Nat → MaS → Bool × MaS}
    (hr1 : ∀ r s, s.po = po → R r → (rc r s).1 = false ∧ (rc r s).2.po = po) (hr2 : ∀ r s, s.po = po → ∀ k, k < p → S k → (rc r s).2.po.getD k 0 = po.getD k 0) (hr3 : ∀ i s, (rc i s).1 = false → (rc i s).2.po = s.po) (i : Nat) (r : Nat) :
    ∀ (k : Nat) (s : MaS), k + r = p → s.po = po → po.length = p → (∀ r s, (rc r s).2.po.length = s.po.length) → ∀ j, j < p → S j → (loopM f rc i r k s).2.po.getD j 0 = po.getD j 0 := by
  induction r with
  | zero => intro k s _ hs _ _ j _ _; show s.po.getD j 0 = _; rw [hs]
  | succ r ih =>
    intro k s hk hs hl hlen j hj hS
    rw [loopM]
    by_cases h1 : (s.sn.getD k true || !f i k) = true
    · rw [if_pos h1]
      exact ih _ _ (by omega) hs hl hlen j hj hS
    · rw [if_neg h1]
      by_cases h2 : s.po.getD k 0 < 0
      · rw [if_pos h2]
        show (s.po.set k (i : Int)).getD j 0 = _
        rw [set_get _ _ _ _ _ (by rw [hs]; omega), hs, if_neg]
        rintro rfl
        have := (hc.taken j hj hS).1
        rw [hs] at h2
        omega
      · rw [if_neg h2]
        have a1 := hr1 (s.po.getD k 0).toNat (markM s k) hs
        have a2 := hr2 (s.po.getD k 0).toNat (markM s k) hs
        have a3 := hr3 (s.po.getD k 0).toNat (markM s k)
        have a4 := hlen (s.po.getD k 0).toNat (markM s k)
        have hpk : s.po.getD k 0 = po.getD k 0 := by rw [hs]
        generalize rc (s.po.getD k 0).toNat (markM s k) = z at *
        obtain ⟨b, s2⟩ := z
        cases b with
        | true =>
          show (s2.po.set k (i : Int)).getD j 0 = _
          have hl2 : s2.po.length = p := by
            have h9 : s2.po.length = s.po.length := a4
            rw [h9, hs]; exact hl
          rw [set_get _ _ _ _ _ (by omega), if_neg]
          · exact a2 j hj hS
          · rintro rfl
            have h5 := (hc.taken j hj hS).2
            rw [← hpk] at h5
            have := (a1 h5).1
            cases this
        | false =>
          exact ih _ _ (by omega) ((a3 rfl).trans hs) hl hlen j hj hS
theorem loop_len {f : Nat → Nat → Bool} {rc : Nat → MaS → Bool × MaS} (hr : ∀ i s, (rc i s).2.po.length = s.po.length) (i : Nat) (r : Nat) : ∀ (k : Nat) (s : MaS), (loopM f rc i r k s).2.po.length = s.po.length := by
  induction r with
  | zero => intro k s; rfl
  | succ r ih =>
    intro k s
    rw [loopM]
    by_cases h1 : (s.sn.getD k true || !f i k) = true
    · rw [if_pos h1]; exact ih _ _
    · rw [if_neg h1]
      by_cases h2 : s.po.getD k 0 < 0
      · rw [if_pos h2]; simp [giveM, markM]
      · rw [if_neg h2]
        have hx := hr (s.po.getD k 0).toNat (markM s k)
        generalize rc (s.po.getD k 0).toNat (markM s k) = z at *
        obtain ⟨b, s2⟩ := z
        cases b with
        | true => simp only [giveM, List.length_set]; exact hx
        | false => simp only; rw [ih]; exact hx
theorem look_len {f : Nat → Nat → Bool} {p : Nat} (n : Nat) : ∀ (i : Nat) (s : MaS), (lookM f p n i s).2.po.length = s.po.length := by
  induction n with
  | zero => intro i s; rfl
  | succ n ih => intro i s; exact loop_len ih i p 0 s
theorem look_keeps {f : Nat → Nat → Bool} {p : Nat} {po : List Int} {R S : Nat → Prop} (hc : Cert f p po R S) (hl : po.length = p) (n : Nat) : ∀ (r : Nat) (s : MaS), s.po = po → ∀ k, k < p → S k → (lookM f p n r s).2.po.getD k 0 = po.getD k 0 := by
  induction n with
  | zero => intro r s hs k _ _; show s.po.getD k 0 = _; rw [hs]
  | succ n ih => intro r s hs; exact loop_keeps hc (look_stuck hc n) ih (look_fail n) r p 0 s (by omega) hs hl (look_len n)
/-- what a search that fails has looked at is closed -/
structure Shut (f : Nat → Nat → Bool) (p i k0 : Nat) (s t : MaS) : Prop where
  ls : t.sn.length = p
  grow : ∀ j, j < p → s.sn.getD j true = true → t.sn.getD j true = true
  row : ∀ k, k < p → k0 ≤ k → f i k = true → t.sn.getD k true = true
  new : ∀ j, j < p → t.sn.getD j true = true → s.sn.getD j true = true ∨ (0 ≤ s.po.getD j 0 ∧ ∀ k, k < p → f (s.po.getD j 0).toNat k = true → t.sn.getD k true = true)
theorem open_le {f : Nat → Nat → Bool} {p : Nat} {s t : MaS} : True := trivial
theorem loop_shut {f : Nat → Nat → Bool} {p m : Nat} {rc : Nat → MaS → Bool × MaS} (hr3 : ∀ i s, (rc i s).1 = false → (rc i s).2.po = s.po)
    (hr : ∀ i s, s.sn.length = p → openM s < m → (rc i s).1 = false → Shut f p i 0 s (rc i s).2 ∧ openM (rc i s).2 ≤ openM s) (i : Nat) (r : Nat) :
    ∀ (k : Nat) (s : MaS), k + r = p → s.sn.length = p → openM s < m + 1 → (loopM f rc i r k s).1 = false → Shut f p i k s (loopM f rc i r k s).2 ∧ openM (loopM f rc i r k s).2 ≤ openM s := by
  induction r with
  | zero => intro k s hk hl _ _; exact ⟨⟨hl, fun _ _ h => h, fun j hj h => by omega, fun j _ h => .inl h⟩, Nat.le_refl _⟩
  | succ r ih =>
    intro k s hk hl ho h
    rw [loopM] at h ⊢
    by_cases h1 : (s.sn.getD k true || !f i k) = true
    · rw [if_pos h1] at h ⊢
      obtain ⟨a, b⟩ := ih (k + 1) s (by omega) hl ho h
      refine ⟨⟨a.ls, a.grow, fun j hj hkj hf => ?_, a.new⟩, b⟩
      by_cases e : j = k
      · subst e
        rw [hf] at h1
        exact a.grow j hj (by simpa using h1)
      · exact a.row j hj (by omega) hf
    · rw [if_neg h1] at h ⊢
      by_cases h2 : s.po.getD k 0 < 0
      · rw [if_pos h2] at h; cases h
      · rw [if_neg h2] at h ⊢
        have hs : s.sn.getD k true = false := by
          cases e : s.sn.getD k true with
          | false => rfl
          | true => rw [e] at h1; simp at h1
        have hop := open_mark hs
        have hx3 := hr3 (s.po.getD k 0).toNat (markM s k)
        have hx := hr (s.po.getD k 0).toNat (markM s k) (by simpa [markM] using hl) (by omega)
        generalize hz : rc (s.po.getD k 0).toNat (markM s k) = z at *
        obtain ⟨b, s2⟩ := z
        cases b with
        | true => cases h
        | false =>
          simp only at h ⊢ hx3 hx
          obtain ⟨x1, x2⟩ := hx trivial
          have hpo : s2.po = s.po := hx3 trivial
          obtain ⟨a, b⟩ := ih (k + 1) s2 (by omega) x1.ls (by omega) h
          have hm : ∀ j, (markM s k).sn.getD j true = if j = k then true else s.sn.getD j true := mark_sn hl (by omega)
          have g2 : ∀ j, j < p → s.sn.getD j true = true → s2.sn.getD j true = true := fun j hj h => x1.grow j hj (by rw [hm]; split; rfl; exact h)
          have gk : s2.sn.getD k true = true := x1.grow k (by omega) (by rw [hm, if_pos rfl])
          refine ⟨⟨a.ls, fun j hj h => a.grow j hj (g2 j hj h), fun j hj hkj hf => ?_, fun j hj ht => ?_⟩, by omega⟩
          · by_cases e : j = k
            · subst e; exact a.grow j hj gk
            · exact a.row j hj (by omega) hf
          · rcases a.new j hj ht with h5 | ⟨h5, h6⟩
            · rcases x1.new j hj h5 with h7 | ⟨h7, h8⟩
              · rw [hm] at h7
                by_cases e : j = k
                · subst e
                  refine .inr ⟨by omega, fun c hc hf => a.grow c hc (x1.row c hc (by omega) hf)⟩
                · rw [if_neg e] at h7; exact .inl h7
              · exact .inr ⟨h7, fun c hc hf => a.grow c hc (h8 c hc hf)⟩
            · rw [hpo] at h5 h6; exact .inr ⟨h5, h6⟩
theorem look_shut {f : Nat → Nat → Bool} {p : Nat} (n : Nat) : ∀ (i : Nat) (s : MaS), s.sn.length = p → openM s < n → (lookM f p n i s).1 = false → Shut f p i 0 s (lookM f p n i s).2 ∧ openM (lookM f p n i s).2 ≤ openM s := by
  induction n with
  | zero => intro i s _ h; omega
  | succ n ih => intro i s hl ho h; exact loop_shut (look_fail n) ih i p 0 s (by omega) hl ho h
/-- a matching with its certificate: the rows without a column lie in a closed set -/
theorem mat_cert (f : Nat → Nat → Bool) (p : Nat) (i : Nat) : ∃ R S : Nat → Prop, Cert f p (matM f p i) R S ∧ (∀ r, R r → r < i) ∧ ∀ r, r < i → (∀ k, k < p → (matM f p i).getD k 0 ≠ (r : Int)) → R r := by
  induction i with
  | zero => exact ⟨fun _ => False, fun _ => False, ⟨fun r h => h.elim, fun k _ h => h.elim⟩, fun r h => h.elim, fun r hr => by omega⟩
  | succ i ih =>
    obtain ⟨R, S, hc, hR, hU⟩ := ih
    have F := mat_full f p i
    have hpre : Pre f p i ⟨matM f p i, List.replicate p false⟩ := ⟨F.lp, by simp, fun j hj => (F.bd j hj).1, F.fit, F.inj, fun j hj e => by
      have := (F.bd j hj).2
      have e2 : (matM f p i).getD j 0 = (i : Int) := e
      omega⟩
    have un : ∀ j, j < p → (List.replicate p false).getD j true = false := fun j hj => by
      rw [List.getD_eq_getElem?_getD, List.getElem?_replicate, if_pos hj]; rfl
    have hop : openM ⟨matM f p i, List.replicate p false⟩ < p + 1 := by
      show (List.replicate p false).count false < p + 1
      rw [List.count_replicate]; simp
    have hf := look_found (f := f) (p + 1) i _ hpre
    have hk := look_keeps hc F.lp (p + 1) i ⟨matM f p i, List.replicate p false⟩ rfl
    have hs := look_shut (f := f) (p := p) (p + 1) i ⟨matM f p i, List.replicate p false⟩ (by simp) hop
    rw [matM]
    generalize lookM f p (p + 1) i ⟨matM f p i, List.replicate p false⟩ = z at *
    obtain ⟨b, t⟩ := z
    cases b with
    | true =>
      obtain ⟨c, y⟩ := hf.1 rfl
      refine ⟨R, S, cert_same hc hk, fun r h => by have := hR r h; omega, fun r hr hno => ?_⟩
      have hne : r ≠ i := fun e => by subst e; exact hno c y.cp y.ci
      refine hU r (by omega) (fun k hk2 e => ?_)
      obtain ⟨j, hj, e2⟩ := (y.rows (r : Int) (by omega) (by omega)).2 ⟨k, hk2, e⟩
      exact hno j hj e2
    | false =>
      have n1 := hf.2 rfl
      have ep : t.po = matM f p i := n1.po
      obtain ⟨sh, _⟩ := hs rfl
      have hc2 : Cert f p (matM f p i) (fun r => r = i ∨ ∃ j, j < p ∧ t.sn.getD j true = true ∧ 0 ≤ (matM f p i).getD j 0 ∧ r = ((matM f p i).getD j 0).toNat) (fun k => k < p ∧ t.sn.getD k true = true) := by
        have hnew : ∀ j, j < p → t.sn.getD j true = true → 0 ≤ (matM f p i).getD j 0 ∧ ∀ k, k < p → f ((matM f p i).getD j 0).toNat k = true → t.sn.getD k true = true := fun j hj h => by
          rcases sh.new j hj h with h1 | h1
          · have h' : (List.replicate p false).getD j true = true := h1
            rw [un j hj] at h'; cases h'
          · exact h1
        refine ⟨fun r hr k hk2 hfr => ?_, fun k hk2 hS => ?_⟩
        · rcases hr with rfl | ⟨j, hj, h1, h2, rfl⟩
          · exact ⟨hk2, sh.row k hk2 (by omega) hfr⟩
          · exact ⟨hk2, (hnew j hj h1).2 k hk2 hfr⟩
        · exact ⟨(hnew k hk2 hS.2).1, .inr ⟨k, hk2, hS.2, (hnew k hk2 hS.2).1, rfl⟩⟩
      show ∃ R S, Cert f p t.po R S ∧ (∀ r, R r → r < i + 1) ∧ ∀ r, r < i + 1 → (∀ k, k < p → t.po.getD k 0 ≠ (r : Int)) → R r
      rw [ep]
      refine ⟨_, _, cert_or hc hc2, fun r h => ?_, fun r hr hno => ?_⟩
      · rcases h with h | rfl | ⟨j, hj, _, h2, rfl⟩
        · have := hR r h; omega
        · omega
        · have := (F.bd j hj).2; omega
      · by_cases e : r = i
        · exact .inr (.inl e)
        · exact .inl (hU r (by omega) hno)
end Go.Proofs.Ytjddlgmdbkaieaa.Plain
