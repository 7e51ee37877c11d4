/- Stations of a line by rule: the program's walk. -/
import Derived.Test.YtgjjbnjahombdaaLinB
import Derived.Test.YtgjjbnjahombdaaRep
namespace Go.Proofs.Ytgjjbnjahombdaa.Plain
set_option linter.unusedVariables false
set_option linter.unusedSimpArgs false
theorem first_out {n D : Nat} (h : D < 2 ^ n) (hne : D ≠ 2 ^ n - 1) : ∃ i, i < n ∧ D.testBit i = false ∧ ∀ k, k < i → D.testBit k = true := by
  have key : ∀ m, m ≤ n → (∀ k, k < m → D.testBit k = true) ∨ ∃ i, i < m ∧ D.testBit i = false ∧ ∀ k, k < i → D.testBit k = true := fun m => by
    induction m with
    | zero => intro _; exact .inl fun k hk => by omega
    | succ m ih =>
      intro hm
      rcases ih (by omega) with h1 | ⟨i, h1, h2, h3⟩
      · cases hb : D.testBit m with
        | true =>
          refine .inl fun k hk => ?_
          by_cases e : k = m
          · subst e; exact hb
          · exact h1 k (by omega)
        | false => exact .inr ⟨m, by omega, hb, h1⟩
      · exact .inr ⟨i, by omega, h2, h3⟩
  rcases key n (Nat.le_refl _) with h1 | h1
  · exfalso
    apply hne
    refine set_ext fun i => ?_
    rw [full_bit]
    by_cases hi : i < n
    · rw [h1 i hi, decide_eq_true hi]
    · rw [Nat.testBit_lt_two_pow (Nat.lt_of_lt_of_le h (Nat.pow_le_pow_right (by omega) (by omega))), decide_eq_false hi]
  · exact h1
/-- how many are not in a set -/
def cntU (n D : Nat) : Nat := ldN (fun i => !D.testBit i) (fun _ => 1) n
theorem cntU_zero (n : Nat) : cntU n 0 = n := by
  unfold cntU
  induction n with
  | zero => rfl
  | succ n ih => rw [ldN, ih]; simp
theorem cntU_or {n D b : Nat} (hb : b < n) (h : D.testBit b = false) : cntU n D = cntU n (D ||| 2 ^ b) + 1 := by
  unfold cntU
  rw [ldN_add (P := fun i => !(D ||| 2 ^ b).testBit i) (Q := fun i => !D.testBit i) (i := b) (by simp [or_bit']) (by simp [h]) (fun j hj => by simp [or_bit', Ne.symm hj]), if_pos hb]
/-- a task that can go to the station -/
def candL (c : Nat) (t bf : Nat → Nat) (D L j : Nat) : Prop := D.testBit j = false ∧ mns (bf j) D = 0 ∧ L + t j ≤ c
/-- what stands while stations are filled by rule -/
structure GrdI (c n : Nat) (t bf : Nat → Nat) (D S L : Nat) (A : Nat → Nat) : Prop where
  lt : D < 2 ^ n
  le : ∀ i, D.testBit i = true → A i ≤ S
  mo : ∀ i, D.testBit i = true → ∀ k, (bf i).testBit k = true → D.testBit k = true ∧ A k ≤ A i
  ld : ldN (fun i => D.testBit i && A i == S) t n = L
  lc : L ≤ c
  pr : ∀ s, s < S → 1 ≤ ldN (fun i => D.testBit i && A i == s) t n ∧ ldN (fun i => D.testBit i && A i == s) t n ≤ c
  em : L = 0 → D ≠ 2 ^ n - 1
theorem GrdI.start {c n : Nat} {t bf : Nat → Nat} (n1 : 1 ≤ n) : GrdI c n t bf 0 0 0 fun _ => 0 :=
  ⟨Nat.pow_pos (by omega), fun i hi => by simp at hi, fun i hi => by simp at hi, ldN_zero fun i _ => by simp, by omega, fun s hs => by omega, fun _ => by
    have : 2 ^ 1 ≤ 2 ^ n := Nat.pow_le_pow_right (by omega) n1
    omega⟩
theorem GrdI.cand {c n : Nat} {t bf : Nat → Nat} {D S L : Nat} {A : Nat → Nat} (h : GrdI c n t bf D S L A) (hp : ∀ i, i < n → bf i < 2 ^ i) (htc : ∀ i, i < n → t i ≤ c) (hno : ∀ j, j < n → ¬ candL c t bf D L j) (hne : D ≠ 2 ^ n - 1) : L ≠ 0 := fun hl => by
  obtain ⟨i, hi, h1, h2⟩ := first_out h.lt hne
  refine hno i hi ⟨h1, mns_zero.2 fun k hk => h2 k ?_, by have := htc i hi; omega⟩
  rcases Nat.lt_or_ge k i with h3 | h3
  · exact h3
  · rw [Nat.testBit_lt_two_pow (Nat.lt_of_lt_of_le (hp i hi) (Nat.pow_le_pow_right (by omega) h3))] at hk; cases hk
theorem GrdI.next {c n : Nat} {t bf : Nat → Nat} {D S L : Nat} {A : Nat → Nat} (h : GrdI c n t bf D S L A) (hl : L ≠ 0) (hne : D ≠ 2 ^ n - 1) : GrdI c n t bf D (S + 1) 0 A :=
  ⟨h.lt, fun i hi => by have := h.le i hi; omega, h.mo, ldN_zero fun i _ => by
    cases hb : D.testBit i with
    | false => rfl
    | true => have := h.le i hb; simp; omega, by omega, fun s hs => by
    by_cases e : s = S
    · subst e; rw [h.ld]; exact ⟨by omega, h.lc⟩
    · exact h.pr s (by omega), fun _ => hne⟩
theorem GrdI.put {c n : Nat} {t bf : Nat → Nat} {D S L b : Nat} {A : Nat → Nat} (h : GrdI c n t bf D S L A) (hb : b < n) (ht : 1 ≤ t b) (hc : candL c t bf D L b) : GrdI c n t bf (D ||| 2 ^ b) S (L + t b) fun j => if j = b then S else A j := by
  obtain ⟨h1, h2, h3⟩ := hc
  have hs := mns_zero.1 h2
  have hbit : ∀ j, j ≠ b → (D ||| 2 ^ b).testBit j = D.testBit j := fun j hj => by rw [or_bit', decide_eq_false (Ne.symm hj), Bool.or_false]
  refine ⟨or_lt' h.lt hb, fun i hi => ?_, fun i hi k hk => ?_, ?_, h3, fun s hs' => ?_, fun e => by omega⟩
  · by_cases e : i = b
    · rw [if_pos e]; exact Nat.le_refl _
    · rw [if_neg e]; rw [hbit i e] at hi; exact h.le i hi
  · by_cases e : i = b
    · subst e
      have hkD := hs k hk
      have hkb : k ≠ i := fun e => by subst e; rw [h1] at hkD; cases hkD
      rw [if_pos rfl, if_neg hkb, hbit k hkb]
      exact ⟨hkD, h.le k hkD⟩
    · rw [hbit i e] at hi
      obtain ⟨h4, h5⟩ := h.mo i hi k hk
      have hkb : k ≠ b := fun e => by subst e; rw [h1] at h4; cases h4
      rw [if_neg e, if_neg hkb, hbit k hkb]
      exact ⟨h4, h5⟩
  · rw [ldN_add (P := fun i => D.testBit i && A i == S) (i := b) (by simp [h1]) (by simp [or_bit']) (fun j hj => by simp [hbit j hj, hj]), h.ld, if_pos hb]
  · rw [ldN_same (Q := fun i => D.testBit i && A i == s) fun i _ => by
      by_cases e : i = b
      · subst e; simp [h1]; omega
      · simp [hbit i e, e]]
    exact h.pr s hs'
/-- stations that keep all, each with something to do -/
def FullL (c n : Nat) (t bf : Nat → Nat) (K : Nat) (A : Nat → Nat) : Prop := FeasL c n t bf K A ∧ (∀ s, s < K → 1 ≤ ldN (fun i => A i == s) t n) ∧ ∃ i, i < n ∧ A i = K - 1
theorem GrdI.done {c n : Nat} {t bf : Nat → Nat} {S L : Nat} {A : Nat → Nat} (h : GrdI c n t bf (2 ^ n - 1) S L A) : FullL c n t bf (S + 1) A := by
  have hb : ∀ i, i < n → (2 ^ n - 1).testBit i = true := fun i hi => by rw [full_bit]; exact decide_eq_true hi
  have key : ∀ s, ldN (fun i => A i == s) t n = ldN (fun i => (2 ^ n - 1).testBit i && A i == s) t n := fun s => ldN_same fun i hi => by rw [hb i hi]; rfl
  have hL : L ≠ 0 := fun e => h.em e rfl
  refine ⟨⟨fun i hi => by have := h.le i (hb i hi); omega, fun i hi k hk => (h.mo i (hb i hi) k hk).2, fun s => ?_⟩, fun s hs => ?_, ?_⟩
  · rw [key]
    rcases Nat.lt_trichotomy s S with h1 | h1 | h1
    · exact (h.pr s h1).2
    · subst h1; rw [h.ld]; exact h.lc
    · rw [ldN_zero fun i hi => by have := h.le i (hb i hi); simp; omega]; omega
  · rw [key]
    by_cases e : s = S
    · subst e; rw [h.ld]; omega
    · exact (h.pr s (by omega)).1
  · obtain ⟨i, hi, h1⟩ := ldN_some (P := fun i => (2 ^ n - 1).testBit i && A i == S) (t := t) (k := n) (by rw [h.ld]; omega)
    simp at h1
    exact ⟨i, hi, by simp; exact h1.2⟩
end Go.Proofs.Ytgjjbnjahombdaa.Plain
namespace Go.Proofs.Ytgjjbnjahombdaa
open Go.RowKit Plain
set_option linter.unusedVariables false
set_option linter.unusedSimpArgs false
attribute [local go_sem ↓] Go.wp_at_zero Go.wp_at_succ
/-- stations by rule -/
def RuleOut (c n : Nat) (t bf : Nat → Nat) (w : World) (r : Ending) (w' : World) : Prop :=
  (∃ g K cap A, r = .returned (.tuple #[.slice (some ⟨g, 0, none⟩) n cap, .bool true]) ∧ FullL c n t bf K A ∧ OwnL w' w.heap.size g n cap (fun i => (A i : Int))) ∧ Below w.heap.size w w'
theorem pow_le12 {n : Nat} (h : n ≤ 12) : 2 ^ n ≤ 4096 := by
  have : 2 ^ n ≤ 2 ^ 12 := Nat.pow_le_pow_right (by omega) h
  omega
theorem shl_n (n : Nat) (h : n ≤ 12) : ∃ J : Nat, J = 2 ^ n ∧ (2 : Int) ^ n = (J : Int) ∧ J ≤ 4096 ∧ 1 ≤ J := ⟨2 ^ n, rfl, by simp, pow_le12 h, Nat.pow_pos (by omega)⟩
set_option maxHeartbeats 4000000 in
set_option maxRecDepth 100000 in
theorem LineStations_any (b o cp b2 o2 cp2 n c : Nat) (t bf : Nat → Nat) (w : World) (h : FA w b o cp n (fun i => (t i : Int))) (h2 : FA w b2 o2 cp2 n (fun i => (bf i : Int))) (hp : LineP n c t bf) :
    Calls Try.prog 7 #[.slice (some ⟨b, o, none⟩) n cp, .slice (some ⟨b2, o2, none⟩) n cp2, .int .i64 c] w (RuleOut c n t bf w) := by
  have n1 := hp.n1
  have n12 := hp.n12
  have cc1 := hp.c1
  have cc0 : 1 ≤ c := by have := hp.t1 0 n1; have := hp.tc 0 n1; omega
  have IL := hd (IsLine_any b o cp b2 o2 cp2 n c t bf w h h2 hp)
  have IC := hd (isCycle_any c cc0 cc1)
  obtain ⟨mx, hmx0, hmx1⟩ := maxT_any b o cp n c t n1 (by omega) hp.tc
  have MX := hd (hmx1 w h)
  have hmc : decide (c < mx) = false := decide_eq_false (by omega)
  have NN := hd (fun w => none_any n n1 (by omega) w)
  have HT := hd h
  have HBF := hd h2
  have HP := hd hp
  clear h h2 hp hmx1 hmx0
  go_enter Try.func7, Try.ntmps7
  go_wp2_with (first
    | (go_at_call 11; refine IL.out.mono ?_; rintro e w' ⟨rfl, hw⟩; replace hw := hw.symm; subst hw)
    | (go_at_call 17; refine (IC.out _).mono ?_; rintro e w' ⟨rfl, hw⟩; replace hw := hw.symm; subst hw)
    | (go_at_call 18; refine MX.out.mono ?_; rintro e w' ⟨rfl, hw⟩; subst hw)
    | (go_at_call 19; refine (NN.out _).mono ?_; rintro e w2 ⟨u, rfl, ho2, hb2⟩))
  clear IL IC MX NN hmc
  obtain ⟨g, cap, rfl, hgg, _⟩ := own_form ho2 n1
  have HG := hd hgg
  have HO2 := hd (show OwnL w2 w.heap.size g n cap (fun i => if (0 : Nat).testBit i = true then (((fun _ => 0 : Nat → Nat) i : Nat) : Int) else -1) by
    have e : fL n (fun i => if (0 : Nat).testBit i = true then (((fun _ => 0 : Nat → Nat) i : Nat) : Int) else -1) = List.replicate n (-1) := by rw [← fL_const]; exact fL_same fun s _ => by simp
    unfold OwnL
    rw [e, List.map_replicate]; exact ho2)
  have HB2 := hd hb2
  clear ho2 hb2 hgg
  obtain ⟨Z, hZ, eZ, Z1, Z0⟩ := shl_n n n12
  have HZ := hd hZ
  clear hZ
  have hwz : IntKind.i64.wrap (Z : Int) = (Z : Int) := IntWalk.i64_in _ (by omega)
  have hwz1 : IntKind.i64.wrap ((Z : Int) - 1) = (Z : Int) - 1 := IntWalk.i64_in _ (by omega)
  have nn0 : ¬ (n : Int) < 0 := by omega
  go_wp2_with fail
  go_loopw [9, 10, 11] (fun dv sv lv wr => ∃ (D S L : Nat) (A : Nat → Nat), dv = .int .i64 D ∧ sv = .int .i64 S ∧ lv = .int .i64 L ∧ S ≤ n ∧ Hid (S + (if L = 0 then 0 else 1) + cntU n D ≤ n) ∧ Hid (GrdI c n t bf D S L A) ∧ Hid (OwnL wr w.heap.size g n cap (fun i => if D.testBit i = true then (A i : Int) else -1)) ∧ Hid (Below w.heap.size w wr)) (fun dv _ lv _ => 2 * cntU n (intOf dv).toNat + if intOf lv = 0 then 0 else 1)
  case atStart => exact ⟨0, 0, 0, fun _ => 0, rfl, rfl, rfl, by omega, hd (by rw [cntU_zero]; simp), hd (GrdI.start n1), HO2, HB2⟩
  case round =>
    clear HO2 HB2
    obtain ⟨D, S, L, A, rfl, rfl, rfl, hSn, HMS, HI, HO, HB⟩ := hrel
    have hDZ := HI.out.lt
    have hLc := HI.out.lc
    rw [← HZ.out] at hDZ
    by_cases hfin : D = 2 ^ n - 1
    · have HI2 := hd (show GrdI c n t bf (2 ^ n - 1) S L A by rw [← hfin]; exact HI.out)
      have hDi : (D : Int) = (Z : Int) - 1 := by rw [HZ.out] at *; omega
      have HFU := hd (HI2.out.done)
      have HO' := hd (HO.out.same (f' := fun i => (A i : Int)) fun i hi => by rw [hfin, if_pos (by rw [full_bit]; exact decide_eq_true hi)])
      have hne : ((D : Int) != (Z : Int) - 1) = false := by rw [hDi]; simp
      clear hDi hfin
      go_wp2
      go_ret2
      exact ⟨⟨g, S + 1, cap, A, rfl, HFU.out, HO'.out⟩, HB.out⟩
    · have hDi : ¬ (D : Int) = (Z : Int) - 1 := by rw [HZ.out] at *; omega
      have hne : ((D : Int) != (Z : Int) - 1) = true := by simpa using hDi
      have HFIN := hd hfin
      clear hfin hDi
      go_wp2
      clear hne
      go_loopw [12, 41] (fun bv iv wr2 => ∃ (k : Nat) (bb : Int), k ≤ n ∧ iv = .int .i64 k ∧ bv = .int .i64 bb ∧ wr2 = wr ∧ ((bb = -1 ∧ ∀ j, j < k → ¬ candL c t bf D L j) ∨ ∃ q : Nat, bb = q ∧ q < k ∧ candL c t bf D L q)) (fun _ iv _ => n - (intOf iv).toNat)
      case atStart => exact ⟨0, -1, by omega, rfl, rfl, rfl, .inl ⟨rfl, fun j hj => by omega⟩⟩
      case round =>
        obtain ⟨k, bb, hk, rfl, rfl, hw, hbb⟩ := hrel
        subst hw
        have HBB := hd hbb
        clear hbb
        by_cases hlt : k < n
        · have k2 : (k : Int) < (n : Int) := Int.ofNat_lt.2 hlt
          have cO := HO.out.at (i := k) hlt
          have cB := (HBF.out.below HB.out).cl k hlt
          have cT := (HT.out.below HB.out).cl k hlt
          have hbx := HP.out.bl k hlt
          have hp12 : 2 ^ k ≤ 4096 := pow_le12 (by omega)
          have ba : bits .andNot .i64 (bf k : Int) (D : Int) = ((mns (bf k) D : Nat) : Int) := i64_andNot _ _ (by omega) (by omega)
          have htk := HP.out.tc k hlt
          have hwl : IntKind.i64.wrap ((L : Int) + (t k : Int)) = (L : Int) + (t k : Int) := IntWalk.i64_in _ (by omega)
          have NOC := hd (fun (hn : ¬ candL c t bf D L k) => (show (bb = -1 ∧ ∀ j, j < k + 1 → ¬ candL c t bf D L j) ∨ ∃ q : Nat, bb = q ∧ q < k + 1 ∧ candL c t bf D L q from by
            rcases HBB.out with ⟨h1, h2⟩ | ⟨q, h1, h2, h3⟩
            · exact .inl ⟨h1, fun j hj => by
                by_cases e : j = k
                · subst e; exact hn
                · exact h2 j (by omega)⟩
            · exact .inr ⟨q, h1, by omega, h3⟩))
          clear hbx hp12
          cases hbit : D.testBit k with
          | true =>
            rw [hbit, if_pos rfl] at cO
            have hn := hd (NOC.out fun h => by rw [h.1] at hbit; cases hbit)
            have hge : (A k : Int) ≥ 0 := by omega
            clear NOC hbit ba hwl htk
            generalize A k = ak at *
            go_wp2
            go_roundw
            case rel => exact ⟨k + 1, bb, by omega, by go_num, rfl, by first | rfl | trivial, hn.out⟩
            case measure => simp [intOf]; omega
          | false =>
            rw [hbit, if_neg (by simp)] at cO
            by_cases hm : mns (bf k) D = 0
            · by_cases hlc : L + t k ≤ c
              · have hcand := hd (show candL c t bf D L k from ⟨hbit, hm, hlc⟩)
                rw [hm] at ba
                have hl2 : ¬ (L : Int) + (t k : Int) > (c : Int) := by omega
                clear NOC hm hlc hbit htk
                have YES := hd (show ((k : Int) = -1 ∧ ∀ j, j < k + 1 → ¬ candL c t bf D L j) ∨ ∃ q : Nat, (k : Int) = q ∧ q < k + 1 ∧ candL c t bf D L q from .inr ⟨k, rfl, by omega, hcand.out⟩)
                rcases HBB.out with ⟨h1, _⟩ | ⟨q, h1, h2, h3⟩
                · subst h1
                  generalize bf k = x at *
                  generalize t k = tk at *
                  go_wp2
                  go_roundw
                  case rel => exact ⟨k + 1, _, by omega, by go_num, rfl, by first | rfl | trivial, YES.out⟩
                  case measure => simp [intOf]; omega
                · subst h1
                  have cQ := (HT.out.below HB.out).cl q (by omega)
                  have q0 : ¬ (q : Int) < 0 := by omega
                  have q2 : (q : Int) < (n : Int) := by omega
                  have OLD := hd (show ((q : Int) = -1 ∧ ∀ j, j < k + 1 → ¬ candL c t bf D L j) ∨ ∃ q' : Nat, (q : Int) = q' ∧ q' < k + 1 ∧ candL c t bf D L q' from .inr ⟨q, rfl, by omega, h3⟩)
                  clear h2 h3
                  generalize bf k = x at *
                  generalize t k = tk at *
                  generalize t q = tq at *
                  by_cases hgt : (tk : Int) > (tq : Int)
                  · go_wp2
                    go_roundw
                    case rel => exact ⟨k + 1, _, by omega, by go_num, rfl, by first | rfl | trivial, YES.out⟩
                    case measure => simp [intOf]; omega
                  · go_wp2
                    go_roundw
                    case rel => exact ⟨k + 1, _, by omega, by go_num, rfl, by first | rfl | trivial, OLD.out⟩
                    case measure => simp [intOf]; omega
              · have hn := hd (NOC.out fun h => hlc h.2.2)
                rw [hm] at ba
                have hl2 : (L : Int) + (t k : Int) > (c : Int) := by omega
                clear NOC hm hlc hbit htk
                generalize bf k = x at *
                generalize t k = tk at *
                go_wp2
                go_roundw
                case rel => exact ⟨k + 1, bb, by omega, by go_num, rfl, by first | rfl | trivial, hn.out⟩
                case measure => simp [intOf]; omega
            · have hn := hd (NOC.out fun h => hm h.2.1)
              have hm2 : ¬ ((mns (bf k) D : Nat) : Int) = 0 := by omega
              clear NOC hm hbit htk hwl
              generalize mns (bf k) D = mm at *
              generalize bf k = x at *
              generalize t k = tk at *
              go_wp2
              go_roundw
              case rel => exact ⟨k + 1, bb, by omega, by go_num, rfl, by first | rfl | trivial, hn.out⟩
              case measure => simp [intOf]; omega
        · obtain rfl : n = k := by omega
          rcases HBB.out with ⟨h1, h2⟩ | ⟨q, h1, h2, h3⟩
          · subst h1
            have hL0 := HI.out.cand HP.out.bl HP.out.tc h2 HFIN.out
            have HN := hd (HI.out.next hL0 HFIN.out)
            have hms := HMS.out
            rw [if_neg hL0] at hms
            have hws : IntKind.i64.wrap ((S : Int) + 1) = (S : Int) + 1 := IntWalk.i64_in _ (by omega)
            have HS1 := hd (show S + 1 ≤ n by omega)
            have HMS1 := hd (show S + 1 + (if 0 = 0 then 0 else 1) + cntU n D ≤ n by rw [if_pos rfl]; omega)
            have HL0 := hd (show ¬ (L : Int) = 0 by omega)
            clear HBB h2 hms hL0
            go_wp2
            go_roundw
            case rel => exact ⟨D, S + 1, 0, A, rfl, by go_num, rfl, HS1.out, HMS1, HN, HO, HB⟩
            case measure =>
              have hLi := HL0.out
              show 2 * cntU n D + (if (0 : Int) = 0 then 0 else 1) < 2 * cntU n D + (if (L : Int) = 0 then 0 else 1)
              rw [if_pos rfl, if_neg hLi]
              omega
          · subst h1
            have cT := (HT.out.below HB.out).cl q h2
            have q0 : ¬ (q : Int) < 0 := by omega
            have q2 : (q : Int) < (n : Int) := by omega
            have HPUT := hd (HI.out.put h2 (HP.out.t1 q h2) h3)
            have hlc := h3.2.2
            have hcu := cntU_or h2 h3.1
            have hD3 : D ||| 2 ^ q < Z := by rw [HZ.out]; exact or_lt' HI.out.lt h2
            have ht1 := HP.out.t1 q h2
            have hwl : IntKind.i64.wrap ((L : Int) + (t q : Int)) = (L : Int) + (t q : Int) := IntWalk.i64_in _ (by omega)
            obtain ⟨J, hJ, eJ, J1, J0⟩ := shl_n q (by omega)
            have hwJ : IntKind.i64.wrap (J : Int) = (J : Int) := IntWalk.i64_in _ (by omega)
            have bo : bits .or .i64 (D : Int) (J : Int) = ((D ||| 2 ^ q : Nat) : Int) := by rw [hJ]; exact i64_or _ _ (by omega) (by rw [← hJ]; omega)
            have hms := HMS.out
            have HOS := hd (fun (w' : World) (ho : w'.ownsRow w.heap.size 2 1 (.slice (some ⟨g, 0, none⟩) n cap) n (((fL n (fun i => if D.testBit i = true then (A i : Int) else -1)).map vi).set q (.int .i64 (S : Int)))) => (OwnL.set ho h2).same (f' := fun i => if (D ||| 2 ^ q).testBit i = true then (((if i = q then S else A i) : Nat) : Int) else -1) fun i _ => by
              by_cases e : i = q
              · subst e; rw [if_pos rfl, if_pos (by rw [or_bit']; simp), if_pos rfl]
              · rw [if_neg e, or_bit', decide_eq_false (Ne.symm e), Bool.or_false, if_neg e])
            clear HBB h3 hJ HI
            obtain ⟨D3, hD3e⟩ : ∃ D3, D3 = D ||| 2 ^ q := ⟨_, rfl⟩
            rw [← hD3e] at bo HPUT hcu HOS hD3
            clear hD3e
            generalize t q = tq at *
            have HCU := hd hcu
            have HMS3 := hd (show S + (if L + tq = 0 then 0 else 1) + cntU n D3 ≤ n by rw [if_neg (by omega)]; split at hms <;> omega)
            clear hcu hms
            have hbg : b ≠ g := by have := block_lt_of_cell (HT.out.cl 0 n1); have := HG.out; simp only at *; omega
            go_wp2_with ((with_reducible refine wpList_store_own _ w.heap.size 2 1 n cap g _ HO.out size_int q (.int .i64 (S : Int)) ?_ ?_ ?_ ?_ ?_); exact rfl; exact rfl; exact rfl; omega; intro w7 ho7 hg7; have cT7 := hg7.cell cT (by simp; exact hbg))
            have HO7 := hd (HOS.out w7 ho7)
            have HB7 := hd (HB.out.grown hg7 HB.out.size (fun q e => by cases e; exact HG.out))
            clear ho7 hg7
            go_roundw
            case rel => exact ⟨D3, S, L + tq, _, rfl, rfl, by go_num, hSn, HMS3, HPUT, HO7, HB7⟩
            case measure =>
              have h9 := HCU.out
              show 2 * cntU n D3 + (if (L : Int) + (tq : Int) = 0 then 0 else 1) < 2 * cntU n D + (if (L : Int) = 0 then 0 else 1)
              rw [h9]
              split <;> split <;> omega
end Go.Proofs.Ytgjjbnjahombdaa
