/- Equal lists, equal tasks, valid tasks by the reference, and who is behind whom: contracts. -/
import Derived.Test.YtdbojkanelmlkaaProE
namespace Go.Proofs.Ytdbojkanelmlkaa
open Go.RowKit Plain
set_option linter.unusedVariables false
set_option linter.unusedSimpArgs false
attribute [local go_sem ↓] Go.wp_at_zero Go.wp_at_succ
set_option maxHeartbeats 1000000 in
theorem ints_same (U V : Value) (s : List Int) (n : Nat) (n9 : n ≤ 1000) (w : World) (hu : Sl w 1 U n (s.map vi)) (hv : Sl w 1 V n (s.map vi)) :
    Calls Try.prog 10 #[U, V] w (Draws (.bool true) w) := by
  obtain ⟨A, c, rfl, _, hr⟩ := hu
  obtain ⟨B, d, rfl, _, hr'⟩ := hv
  have HR := hd hr
  have HR' := hd hr'
  clear hr hr'
  go_enter Try.func10, Try.ntmps10
  go_wp2
  go_loopw [13] (fun iv wr => ∃ k q : Nat, k ≤ n ∧ iv = .int .i64 k ∧ wr = w.drewN q) (fun iv _ => n - (intOf iv).toNat)
  case atStart => exact ⟨0, 0, by omega, rfl, rfl⟩
  case round =>
    obtain ⟨k, q, hk, rfl, hw⟩ := hrel
    subst hw
    by_cases hlt : k < n
    · have k2 : (k : Int) < (n : Int) := Int.ofNat_lt.2 hlt
      obtain ⟨b, o, rfl, c1⟩ := HR.out.int hlt
      obtain ⟨b', o', rfl, c2⟩ := HR'.out.int hlt
      generalize s.getD k 0 = x at *
      go_wp2_with fail
      go_quiet (fail)
      clear c1 c2
      go_wp2
      go_roundw
      case rel => exact ⟨k + 1, q + nq, by omega, by go_num, by first | rfl | rw [World.drewN_drewN]⟩
      case measure => simp [intOf]; omega
    · go_wp2
      go_ret
      exact ⟨rfl, q, rfl⟩
/-- those before a task and those before them, by the first k before it, as bits -/
def behF (st : Nat → Int) (t : TK) : Nat → Int
  | 0 => 0
  | k + 1 => bits .or .i64 (behF st t k) (bits .or .i64 (st (bN t k)) (IntKind.i64.wrap (2 ^ (bN t k))))
theorem behF_eq {st su : Nat → Int} {i : Nat} {t : TK} (ht : TaskOk i t) (h : ∀ j, j < i → st j = su j) (k : Nat) (hk : k ≤ t.bf.length) : behF st t k = behF su t k := by
  induction k with
  | zero => rfl
  | succ k ih => rw [behF, behF, ih (by omega), h _ (ht.lt (by omega))]
def behL (ts : List TK) (n : Nat) : Nat → List Int
  | 0 => List.replicate n 0
  | i + 1 => (behL ts n i).set i (behF (fun j => (behL ts n i).getD j 0) (tkAt ts i) (tkAt ts i).bf.length)
theorem behL_len (ts : List TK) (n i : Nat) : (behL ts n i).length = n := by
  induction i with
  | zero => simp [behL]
  | succ i ih => simp [behL, ih]
theorem behL_keep (ts : List TK) (n : Nat) (i m : Nat) (hm : i ≤ m) (hn : m ≤ n) (j : Nat) (hj : j < i) : (behL ts n m).getD j 0 = (behL ts n i).getD j 0 := by
  induction m with
  | zero => omega
  | succ m ih =>
    by_cases e : i = m + 1
    · rw [e]
    · rw [behL, set_at _ _ _ _ (by rw [behL_len]; omega), if_neg (by omega), ih (by omega) (by omega)]
def bS (ts : List TK) (n j : Nat) : Int := (behL ts n n).getD j 0
theorem bS_is {ts : List TK} {n : Nat} (h : TasksOk ts n) {i : Nat} (hi : i < n) : bS ts n i = behF (bS ts n) (tkAt ts i) (tkAt ts i).bf.length := by
  rw [bS, behL_keep ts n (i + 1) n (by omega) (Nat.le_refl _) i (by omega), behL, set_at _ _ _ _ (by rw [behL_len]; omega), if_pos rfl]
  exact behF_eq (h i hi) (fun j hj => by rw [bS, behL_keep ts n i n (by omega) (Nat.le_refl _) j hj]) _ (Nat.le_refl _)
/-- the list while task i is told: its place holds what the first k before it tell -/
def behI (ts : List TK) (n i k : Nat) : List Int := (behL ts n i).set i (behF (fun j => (behL ts n i).getD j 0) (tkAt ts i) k)
theorem behI_zero (ts : List TK) (n i : Nat) (h : TasksOk ts n) (hi : i < n) : behI ts n i 0 = behL ts n i := by
  have key : ∀ m, m ≤ i → (behL ts n m).getD i 0 = 0 := by
    intro m
    induction m with
    | zero => intro _; rw [behL, List.getD_eq_getElem?_getD, List.getElem?_replicate]; split <;> rfl
    | succ m ih => intro hm; rw [behL, set_at _ _ _ _ (by rw [behL_len]; omega), if_neg (by omega), ih (by omega)]
  rw [behI]
  refine List.ext_getElem? fun j => ?_
  rw [List.getElem?_set]
  by_cases e : i = j
  · subst e
    have h0 := key i (Nat.le_refl _)
    rw [List.getD_eq_getElem?_getD, List.getElem?_eq_getElem (by rw [behL_len]; exact hi)] at h0
    rw [if_pos rfl, if_pos (by rw [behL_len]; exact hi), List.getElem?_eq_getElem (by rw [behL_len]; exact hi)]
    simp only [Option.getD_some] at h0
    rw [h0]; rfl
  · rw [if_neg e]
theorem behI_at (ts : List TK) (n i k : Nat) (hi : i < n) (j : Nat) : (behI ts n i k).getD j 0 = if j = i then behF (fun j => (behL ts n i).getD j 0) (tkAt ts i) k else (behL ts n i).getD j 0 := by
  rw [behI, set_at _ _ _ _ (by rw [behL_len]; exact hi)]
theorem behI_step (ts : List TK) (n i k : Nat) (x : Int) (hx : x = behF (fun j => (behL ts n i).getD j 0) (tkAt ts i) (k + 1)) : (behI ts n i k).set i x = behI ts n i (k + 1) := by
  rw [behI, behI, List.set_set, hx]
end Go.Proofs.Ytdbojkanelmlkaa
