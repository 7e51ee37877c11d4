/- RotateRoster of the program: a contract (cut from the law's text). -/
import Derived.Test.YtfeehfmiicleaaaProg
import Derived.Test.YtfeehfmiicleaaaStrs
import Derived.Test.YtfeehfmiicleaaaStrS
import Derived.Test.YtfeehfmiicleaaaApp
import Derived.Test.YtfeehfmiicleaaaCrews
import Derived.Sort.AtCall
import Derived.Laws.BytesArg
namespace Go.Proofs.Ytfeehfmiicleaaa.RotI
open Go.RowKit Go.Proofs.Ytfeehfmiicleaaa Plain
set_option linter.unusedVariables false
set_option linter.unusedSimpArgs false
attribute [local go_sem ↓] Go.wp_at_zero Go.wp_at_succ

/-- the letters of one's first d days -/
def rowR (s : ByteArray) (x d : Nat) : List Int := (List.range d).map fun j => (bs s).getD ((j + x) % s.size) 0
def textR (s : ByteArray) (x d : Nat) : ByteArray := strOfNums (rowR s x d)
def listR (s : ByteArray) (st dn p : Nat) : List ByteArray := (List.range p).map fun i => textR s (i * st) dn
def okR (s : ByteArray) (p d t : Int) : Bool := patB (bs s) 64 && (inR p 1 12 && (inR d 1 128 && inR t 0 64))
def M (s : ByteArray) (p d t : Int) : List ByteArray × Bool := if okR s p d t then (listR s t.toNat d.toNat p.toNat, true) else ([], false)
theorem M_no {s : ByteArray} {p d t : Int} (h : okR s p d t = false) : M s p d t = ([], false) := by rw [M, h]; rfl
theorem M_yes {s : ByteArray} {p d t : Int} (h : okR s p d t = true) : M s p d t = (listR s t.toNat d.toNat p.toNat, true) := by rw [M, h]; rfl
theorem row_succ (s : ByteArray) (x d : Nat) : rowR s x (d + 1) = rowR s x d ++ [(bs s).getD ((d + x) % s.size) 0] := by rw [rowR, List.range_succ, List.map_append]; rfl
theorem row_len (s : ByteArray) (x d : Nat) : (rowR s x d).length = d := by simp [rowR]
theorem text_succ (s : ByteArray) (x d : Nat) : textR s x (d + 1) = textR s x d ++ strOfNums [(bs s).getD ((d + x) % s.size) 0] := by
  rw [textR, row_succ, textR]
  apply ByteArray.ext
  simp [strOfNums, ByteArray.data_append]
theorem text_size (s : ByteArray) (x d : Nat) : (textR s x d).size = d := by rw [textR, strOfNums_size, row_len]
theorem list_succ (s : ByteArray) (st dn p : Nat) : listR s st dn (p + 1) = listR s st dn p ++ [textR s (p * st) dn] := by rw [listR, List.range_succ, List.map_append]; rfl
theorem bs_at {s : ByteArray} {y : Nat} (h : y < s.size) : (bs s).getD y 0 = (s[y].toNat : Int) := by rw [List.getD_eq_getElem?_getD, bs_get h]; rfl
theorem extract_one {s : ByteArray} {y : Nat} (h : y < s.size) : s.extract y (y + 1) = strOfNums [(s[y].toNat : Int)] := by
  apply ByteArray.ext
  apply Array.ext'
  rw [ByteArray.data_extract, Array.toList_extract, List.extract, strOfNums_data]
  have hl : y < s.data.toList.length := by simpa using h
  rw [List.drop_eq_getElem_cons hl]
  simp
  rfl
theorem len_ok (s : ByteArray) (_h : s.size ≤ maxLen) (p : Int) (_i : I64 p) (d : Int) (_j : I64 d) (t : Int) (_k : I64 t) : (M s p d t).1.length ≤ 1048576 := by
  cases h : okR s p d t with
  | false => rw [M_no h]; simp
  | true =>
    rw [M_yes h]
    simp only [okR, Bool.and_eq_true] at h
    have := inR_iff.1 h.2.1
    simp only [listR, List.length_map, List.length_range]
    omega
theorem okR_parts {s : ByteArray} {p d t : Int} (h : okR s p d t = true) : 1 ≤ s.size ∧ s.size ≤ 64 ∧ (1 ≤ p ∧ p ≤ 12) ∧ (1 ≤ d ∧ d ≤ 128) ∧ (0 ≤ t ∧ t ≤ 64) := by
  simp only [okR, Bool.and_eq_true] at h
  obtain ⟨h1, h2, h3, h4⟩ := h
  simp only [patB, Bool.and_eq_true, decide_eq_true_eq, bs_len] at h1
  exact ⟨by omega, by omega, inR_iff.1 h2, inR_iff.1 h3, inR_iff.1 h4⟩

theorem arePeople_any (n : Int) (w : World) : Calls Try.prog 14 #[.int .i64 n] w fun r w' => r = .returned (.bool (inR n 1 12)) ∧ w' = w := by
  go_enter Try.func14, Try.ntmps14
  go_wp2_with (go_at_call 15; refine (within_any _ _ _ _).mono ?_; rintro e w' ⟨rfl, rfl⟩)
  go_ret
  exact ⟨rfl, rfl⟩
set_option maxHeartbeats 2000000 in
set_option maxRecDepth 100000 in
theorem impl_any (w : World) (s : ByteArray) (hs : s.size ≤ maxLen) (p : Int) (_i : I64 p) (d : Int) (_j : I64 d) (t : Int) (_k : I64 t) :
    Calls Try.prog 6 #[.string s, .int .i64 p, .int .i64 d, .int .i64 t] w (OutL 9 1 (M s p d t).1.length (strs (M s p d t).1) (fun u => .tuple #[u, .bool (M s p d t).2]) w) := by
  have A1 := hd (fun w' => isPattern_any s 64 w' hs)
  have A2 := hd (fun w' => arePeople_any p w')
  have A3 := hd (fun w' => within_any d 1 128 w')
  have A4 := hd (fun w' => within_any t 0 64 w')
  have hs0 := hs
  unfold maxLen at hs0
  cases hok : okR s p d t with
  | false =>
    have H := hd (M_no hok)
    rw [H.out]
    unfold okR at hok
    generalize patB (bs s) 64 = b1 at *
    generalize inR p 1 12 = b2 at *
    generalize inR d 1 128 = b3 at *
    generalize inR t 0 64 = b4 at *
    cases b1 <;> cases b2 <;> cases b3 <;> cases b4
    all_goals first
      | (exfalso; simp at hok; done)
      | (clear hok
         go_enter Try.func6, Try.ntmps6
         go_wp2_with (first
           | (go_at_call 13; refine (A1.out _).mono ?_; rintro e w' ⟨rfl, hw⟩; subst hw)
           | (go_at_call 14; refine (A2.out _).mono ?_; rintro e w' ⟨rfl, hw⟩; replace hw := hw.symm; subst hw)
           | (go_at_call_has 15 d; refine (A3.out _).mono ?_; rintro e w' ⟨rfl, hw⟩; subst hw)
           | (go_at_call_has 15 t; refine (A4.out _).mono ?_; rintro e w' ⟨rfl, hw⟩; subst hw))
         go_ret2
         exact ⟨_, rfl, World.ownsRow_nil _ _ _ _, Below.refl _ _⟩)
  | true =>
    have H := hd (M_yes hok)
    rw [H.out]
    obtain ⟨z1, z2, z3, z4, z5⟩ := okR_parts hok
    unfold okR at hok
    simp only [Bool.and_eq_true] at hok
    obtain ⟨h1, h2, h3, h4⟩ := hok
    rw [h1] at A1; rw [h2] at A2; rw [h3] at A3; rw [h4] at A4
    clear h1 h2 h3 h4 hs
    obtain ⟨P, rfl⟩ : ∃ P : Nat, p = P := ⟨p.toNat, by omega⟩
    obtain ⟨D, rfl⟩ : ∃ D : Nat, d = D := ⟨d.toNat, by omega⟩
    obtain ⟨T, rfl⟩ : ∃ T : Nat, t = T := ⟨t.toNat, by omega⟩
    simp only [Int.toNat_natCast]
    obtain ⟨n, hn⟩ : ∃ n, n = s.size := ⟨_, rfl⟩
    have TS := hd (text_size s)
    have LS := hd (list_succ s T D)
    have RS := hd (row_succ s)
    have XS := hd (text_succ s)
    have HXO := hd (fun y h => extract_one (s := s) (y := y) h)
    have HL := hd (show (listR s T D P).length = P by simp [listR])
    have BA := hd (fun y h => bs_at (s := s) (y := y) h)
    have HTX := hd (show ∀ x d, textR s x d = strOfNums (rowR s x d) from fun _ _ => rfl)
    have RL := hd (row_len s)
    go_enter Try.func6, Try.ntmps6
    go_wp2_with (first
      | (go_at_call 13; refine (A1.out _).mono ?_; rintro e w' ⟨rfl, hw⟩; subst hw)
      | (go_at_call 14; refine (A2.out _).mono ?_; rintro e w' ⟨rfl, hw⟩; replace hw := hw.symm; subst hw)
      | (go_at_call_has 15 (D : Int); refine (A3.out _).mono ?_; rintro e w' ⟨rfl, hw⟩; subst hw)
      | (go_at_call_has 15 (T : Int); refine (A4.out _).mono ?_; rintro e w' ⟨rfl, hw⟩; subst hw))
    have hstart := World.ownsRow_made (size := 1) w #[] 0 (Nat.le_refl _) (by unfold maxLen; omega) rfl (e := 9)
    go_loopw [10, 34] (fun out ix wr => ∃ i : Nat, i ≤ P ∧ ix = .int .i64 i ∧ wr.ownsRow w.heap.size 9 1 out i (strs (listR s T D i)) ∧ Below w.heap.size w wr) (fun _ ix _ => P - (intOf ix).toNat)
    case atStart => exact ⟨0, by omega, rfl, by simpa [listR, strs] using hstart, (Below.refl _ _).alloc (Nat.le_refl _) _⟩
    case round =>
      obtain ⟨wi, hwi⟩ : ∃ wi : World, wi = wr := ⟨_, rfl⟩
      subst hwi
      obtain ⟨i, hi, rfl, ho, hb⟩ := hrel
      clear hstart
      have Ho := hd ho; have Hb := hd hb
      clear ho hb
      by_cases hlt : i < P
      · have i2 : (i : Int) < (P : Int) := by omega
        have hx2 : i * T ≤ 12 * 64 := Nat.mul_le_mul (by omega) (by omega)
        obtain ⟨x, hx⟩ : ∃ x, x = i * T := ⟨_, rfl⟩
        rw [← hx] at hx2
        have hmul : (i : Int) * (T : Int) = (x : Int) := by rw [hx]; push_cast; rfl
        have HX := hd hx
        clear hx
        go_wp2
        have hstart2 := World.ownsRow_made (size := 1) wi #[] 0 (Nat.le_refl _) (by unfold maxLen; omega) rfl (e := 5)
        go_loopw [12, 39] (fun out ix wr => ∃ k : Nat, k ≤ D ∧ ix = .int .i64 k ∧ wr.ownsRow wi.heap.size 5 1 out k ((rowR s x k).map (Value.int .u8)) ∧ Below wi.heap.size wi wr) (fun _ ix _ => D - (intOf ix).toNat)
        case atStart => exact ⟨0, by omega, rfl, by simpa [rowR] using hstart2, (Below.refl _ _).alloc (Nat.le_refl _) _⟩
        case round =>
          obtain ⟨k, hk, rfl, ho2, hb2⟩ := hrel
          clear hstart2
          by_cases hkt : k < D
          · have i3 : (k : Int) < (D : Int) := by omega
            obtain ⟨y, hy⟩ : ∃ y, y = (k + x) % s.size := ⟨_, rfl⟩
            have hys : y < s.size := by rw [hy]; exact Nat.mod_lt _ (by omega)
            have hrem : ((k : Int) + (x : Int)).tmod (s.size : Int) = (y : Int) := by
              rw [Int.tmod_eq_emod_of_nonneg (by omega), hy]; push_cast; rfl
            have hrs := RS.out x k
            rw [← hy, BA.out y hys] at hrs
            have HRS := hd hrs
            have Ho2 := hd ho2; have Hb2 := hd hb2
            have hy1 : (0 : Int) ≤ (y : Int) := by omega
            have hy2 : (y : Int) < (s.size : Int) := by omega
            have hnz : ¬ ((s.size : Int) = 0) := by omega
            clear hy hrs ho2 hb2
            go_wp2_with (at_builtin; go_must (refine wpList_app_byte _ _ _ rfl _ _ rfl wi.heap.size k _ _ rfl Ho2.out rfl _ rfl (by simp) (by omega) Hb2.out.size ?_); intro v' w1 ho1 hg1 hap)
            go_roundw
            case rel => exact ⟨k + 1, by omega, by go_num, by rw [HRS.out, List.map_append]; exact ho1, below_row hg1 Hb2.out (own_row Ho2.out (Nat.le_refl _))⟩
            case measure => simp [intOf]; omega
          · have e : k = D := by omega
            subst e
            obtain ⟨A, cap, rfl, hcap, hrd, _⟩ := own_rd ho2 (size_le (by omega))
            have hcv : ∀ W : World, Below wr.heap.size wr W → (convert 22 9 (.slice A k cap)).run Try.prog W = .ok (.string (textR s x k)) W := by
              intro W hW
              obtain ⟨b, off, rfl, hcell⟩ := hrd.2.2 (by omega)
              rw [HTX.out]
              refine run_convert_bytes_arg W _ _ Try.underlying22 Try.underlying5 b off k cap (rowR s x k) (RL.out x k) (fun j hj => ?_) _ Try.underlying9
              exact below_at hW (hcell j _ (by rw [List.getElem?_map, List.getElem?_eq_getElem (by rw [RL.out]; exact hj), List.getD_eq_getElem?_getD, List.getElem?_eq_getElem (by rw [RL.out]; exact hj)]; rfl))
            have hcv2 := hcv wr (Below.refl _ _)
            have Hb2 := hd hb2
            have hl1 := LS.out i
            rw [← HX.out] at hl1
            have HL1 := hd hl1
            clear hcv hb2 ho2 hrd hl1
            generalize textR s x k = tx at *
            go_wp2_with (at_builtin; go_must (refine wpList_app_string _ _ _ rfl _ _ rfl w.heap.size i _ _ rfl (own_below Ho.out Hb2.out) rfl _ rfl (by simp) (by omega) (Nat.le_trans Hb.out.size Hb2.out.size) ?_); intro v' w1 ho1 hg1 hap)
            clear hcv2
            go_roundw
            case rel => exact ⟨i + 1, by omega, by go_num, by rw [HL1.out, strs, List.map_append]; exact ho1, below_row hg1 (below_tr Hb2.out Hb.out) (own_row Ho.out (Nat.le_refl _))⟩
            case measure => simp [intOf]; omega
      · have e : i = P := by omega
        subst e
        go_wp2
        go_ret2
        refine ⟨_, rfl, ?_, Hb.out⟩
        rw [HL.out]
        exact Ho.out
end Go.Proofs.Ytfeehfmiicleaaa.RotI
