/- The reference's least starts with the end: a contract. -/
import Derived.Test.YtdbojkanelmlkaaLvlB
import Derived.Test.YtdbojkanelmlkaaProS
namespace Go.Proofs.Ytdbojkanelmlkaa
open Go.RowKit Plain
set_option linter.unusedVariables false
set_option linter.unusedSimpArgs false
attribute [local go_sem ↓] Go.wp_at_zero Go.wp_at_succ
theorem early_small {ts : List TK} {n : Nat} (ho : TasksOk ts n) (h : ∀ i, i < n → TDrawn i (tkAt ts i)) : ∀ m i, i < m → i < n → 0 ≤ eS ts n i ∧ eS ts n i ≤ 9 * (i : Int) := by
  intro m
  induction m with
  | zero => intro i hi; omega
  | succ m ih =>
    intro i hi hin
    rw [eS_is ho hin]
    refine ⟨(leastF_le ..).1, leastF_max (by omega) fun k hk => ?_⟩
    have h1 := (ho i hin).lt hk
    have h2 := ih (bN (tkAt ts i) k) (by omega) (by omega)
    have h3 := (h (bN (tkAt ts i) k) (by omega)).a0
    have h4 := (h i hin).l3 k hk
    omega
theorem last_small {ts : List TK} {n : Nat} (ho : TasksOk ts n) (h : ∀ i, i < n → TDrawn i (tkAt ts i)) : 0 ≤ lastF ts (eS ts n) n ∧ lastF ts (eS ts n) n ≤ 9 * (n : Int) :=
  ⟨(lastF_le ts (eS ts n) n).1, lastF_bd (by omega) fun i hi => by
    have h1 := early_small ho h (i + 1) i (by omega) hi
    have h2 := (h i hi).a0
    omega⟩
set_option maxHeartbeats 1000000 in
theorem EarlyStartsS_any (b o c : Nat) (ts : List TK) (n : Nat) (w : World) (h : TA w b o c ts n) :
    Calls Try.prog 7 #[.slice (some ⟨b, o, none⟩) n c] w (EarlyOut ts n w) := by
  have AR := hd (l03Are_any b o c ts n w h)
  have HE := hd (fun w' hb => l03Early_any b o c ts n w' (h.below hb))
  have HL := hd (fun w' hb V hs => l03End_any b o c ts n w' (h.below hb) V (earlyL ts n n) hs)
  have n9 := h.n9
  have EB := hd (fun j => early_bd h.ok n (Nat.le_refl _) j)
  clear h
  go_enter Try.func7, Try.ntmps7
  go_wp2_with fail
  go_at_call 17
  refine AR.out.mono ?_; rintro e w1 ⟨rfl, hb1⟩
  have B1 := hd hb1
  clear hb1
  go_wp2_with fail
  go_at_call 18
  refine (HE.out w1 B1.out).mono ?_; rintro e w2 ⟨rfl, ho2, hb2⟩
  have B2 := hd (below_tr hb2 B1.out)
  have O2 := hd (own_mono ho2 B1.out.size)
  have S2 := starts_own ho2 n9 (fun k hk => by have := EB.out k; omega)
  generalize w1.heap.size = g at *
  clear ho2 hb2
  go_wp2_with fail
  go_at_call 19
  refine (HL.out w2 B2.out _ S2).mono ?_; rintro e w3 ⟨rfl, hb3⟩
  have B3 := hd (below_tr hb3 B2.out)
  have O3 := hd (own_below O2.out hb3)
  clear hb3 S2
  go_wp2
  go_ret3
  exact ⟨g, rfl, O3.out, B3.out⟩
end Go.Proofs.Ytdbojkanelmlkaa
