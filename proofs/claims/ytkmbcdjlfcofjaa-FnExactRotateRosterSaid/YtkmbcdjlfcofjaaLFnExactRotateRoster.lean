/- Whatever pattern, people, days and step are given, the program's RotateRoster and the reference's return the same texts, in new memory: the law returns true. No condition. -/
import Derived.Test.YtkmbcdjlfcofjaaRows
import Derived.Test.YtkmbcdjlfcofjaaStrs
import Derived.Test.YtkmbcdjlfcofjaaStrS
import Derived.Test.YtkmbcdjlfcofjaaApp
import Derived.Test.YtkmbcdjlfcofjaaCrews
import Derived.Test.YtkmbcdjlfcofjaaOpen
import Derived.Sort.AtCall
import Derived.Laws.BytesArg
namespace Go.Proofs.Ytkmbcdjlfcofjaa.lFnExactRotateRoster
open Go.ChangeShapes Go.WideShapes Go.ChangeAt Go.RowKit Go.Proofs.Ytkmbcdjlfcofjaa Plain
set_option linter.unusedVariables false
set_option linter.unusedSimpArgs false
attribute [local go_sem ↓] Go.wp_at_zero Go.wp_at_succ

/-- the letters of one's first d days -/
def rowR (s : ByteArray) (x d : Nat) : List Int := (List.range d).map fun j => (bs s).getD ((j + x) % s.size) 0
def textR (s : ByteArray) (x d : Nat) : ByteArray := strOfNums (rowR s x d)
def listR (s : ByteArray) (st dn p : Nat) : List ByteArray := (List.range p).map fun i => textR s (i * st) dn
def okR (s : ByteArray) (p d t : Int) : Bool := patB (bs s) 64 && (inR p 1 12 && (inR d 1 128 && inR t 0 64))
def M (s : ByteArray) (p d t : Int) : List ByteArray × Bool := if okR s p d t then (listR s t.toNat d.toNat p.toNat, true) else ([], false)
theorem M_no {s : ByteArray} {p d t : Int} (h : okR s p d t = false) : M s p d t = ([], false) := by rw [M, h]; rfl
theorem M_yes {s : ByteArray} {p d t : Int} (h : okR s p d t = true) : M s p d t = (listR s t.toNat d.toNat p.toNat, true) := by rw [M, h]; rfl
theorem row_succ (s : ByteArray) (x d : Nat) : rowR s x (d + 1) = rowR s x d ++ [(bs s).getD ((d + x) % s.size) 0] := by rw [rowR, List.range_succ, List.map_append]; rfl
theorem row_len (s : ByteArray) (x d : Nat) : (rowR s x d).length = d := by simp [rowR]
theorem text_succ (s : ByteArray) (x d : Nat) : textR s x (d + 1) = textR s x d ++ strOfNums [(bs s).getD ((d + x) % s.size) 0] := by
  rw [textR, row_succ, textR]
  apply ByteArray.ext
  simp [strOfNums, ByteArray.data_append]
theorem text_size (s : ByteArray) (x d : Nat) : (textR s x d).size = d := by rw [textR, strOfNums_size, row_len]
theorem list_succ (s : ByteArray) (st dn p : Nat) : listR s st dn (p + 1) = listR s st dn p ++ [textR s (p * st) dn] := by rw [listR, List.range_succ, List.map_append]; rfl
theorem bs_at {s : ByteArray} {y : Nat} (h : y < s.size) : (bs s).getD y 0 = (s[y].toNat : Int) := by rw [List.getD_eq_getElem?_getD, bs_get h]; rfl
theorem extract_one {s : ByteArray} {y : Nat} (h : y < s.size) : s.extract y (y + 1) = strOfNums [(s[y].toNat : Int)] := by
  apply ByteArray.ext
  apply Array.ext'
  rw [ByteArray.data_extract, Array.toList_extract, List.extract, strOfNums_data]
  have hl : y < s.data.toList.length := by simpa using h
  rw [List.drop_eq_getElem_cons hl]
  simp
  rfl
theorem len_ok (s : ByteArray) (_h : s.size ≤ maxLen) (p : Int) (_i : I64 p) (d : Int) (_j : I64 d) (t : Int) (_k : I64 t) : (M s p d t).1.length ≤ 1048576 := by
  cases h : okR s p d t with
  | false => rw [M_no h]; simp
  | true =>
    rw [M_yes h]
    simp only [okR, Bool.and_eq_true] at h
    have := inR_iff.1 h.2.1
    simp only [listR, List.length_map, List.length_range]
    omega
theorem okR_parts {s : ByteArray} {p d t : Int} (h : okR s p d t = true) : 1 ≤ s.size ∧ s.size ≤ 64 ∧ (1 ≤ p ∧ p ≤ 12) ∧ (1 ≤ d ∧ d ≤ 128) ∧ (0 ≤ t ∧ t ≤ 64) := by
  simp only [okR, Bool.and_eq_true] at h
  obtain ⟨h1, h2, h3, h4⟩ := h
  simp only [patB, Bool.and_eq_true, decide_eq_true_eq, bs_len] at h1
  exact ⟨by omega, by omega, inR_iff.1 h2, inR_iff.1 h3, inR_iff.1 h4⟩

theorem arePeople_any (n : Int) (w : World) : Calls Try.prog 40 #[.int .i64 n] w fun r w' => r = .returned (.bool (inR n 1 12)) ∧ w' = w := by
  go_enter Try.func40, Try.ntmps40
  go_wp2_with (go_at_call 41; refine (within_any _ _ _ _).mono ?_; rintro e w' ⟨rfl, rfl⟩)
  go_ret
  exact ⟨rfl, rfl⟩
set_option maxHeartbeats 2000000 in
set_option maxRecDepth 100000 in
theorem impl_any (w : World) (s : ByteArray) (hs : s.size ≤ maxLen) (p : Int) (_i : I64 p) (d : Int) (_j : I64 d) (t : Int) (_k : I64 t) :
    Calls Try.prog 10 #[.string s, .int .i64 p, .int .i64 d, .int .i64 t] w (OutL 9 1 (M s p d t).1.length (strs (M s p d t).1) (fun u => .tuple #[u, .bool (M s p d t).2]) w) := by
  have A1 := hd (fun w' => isPattern_any s 64 w' hs)
  have A2 := hd (fun w' => arePeople_any p w')
  have A3 := hd (fun w' => within_any d 1 128 w')
  have A4 := hd (fun w' => within_any t 0 64 w')
  have hs0 := hs
  unfold maxLen at hs0
  cases hok : okR s p d t with
  | false =>
    have H := hd (M_no hok)
    rw [H.out]
    unfold okR at hok
    generalize patB (bs s) 64 = b1 at *
    generalize inR p 1 12 = b2 at *
    generalize inR d 1 128 = b3 at *
    generalize inR t 0 64 = b4 at *
    cases b1 <;> cases b2 <;> cases b3 <;> cases b4
    all_goals first
      | (exfalso; simp at hok; done)
      | (clear hok
         go_enter Try.func10, Try.ntmps10
         go_wp2_with (first
           | (go_at_call 39; refine (A1.out _).mono ?_; rintro e w' ⟨rfl, hw⟩; subst hw)
           | (go_at_call 40; refine (A2.out _).mono ?_; rintro e w' ⟨rfl, hw⟩; replace hw := hw.symm; subst hw)
           | (go_at_call_has 41 d; refine (A3.out _).mono ?_; rintro e w' ⟨rfl, hw⟩; subst hw)
           | (go_at_call_has 41 t; refine (A4.out _).mono ?_; rintro e w' ⟨rfl, hw⟩; subst hw))
         go_ret2
         exact ⟨_, rfl, World.ownsRow_nil _ _ _ _, Below.refl _ _⟩)
  | true =>
    have H := hd (M_yes hok)
    rw [H.out]
    obtain ⟨z1, z2, z3, z4, z5⟩ := okR_parts hok
    unfold okR at hok
    simp only [Bool.and_eq_true] at hok
    obtain ⟨h1, h2, h3, h4⟩ := hok
    rw [h1] at A1; rw [h2] at A2; rw [h3] at A3; rw [h4] at A4
    clear h1 h2 h3 h4 hs
    obtain ⟨P, rfl⟩ : ∃ P : Nat, p = P := ⟨p.toNat, by omega⟩
    obtain ⟨D, rfl⟩ : ∃ D : Nat, d = D := ⟨d.toNat, by omega⟩
    obtain ⟨T, rfl⟩ : ∃ T : Nat, t = T := ⟨t.toNat, by omega⟩
    simp only [Int.toNat_natCast]
    obtain ⟨n, hn⟩ : ∃ n, n = s.size := ⟨_, rfl⟩
    have TS := hd (text_size s)
    have LS := hd (list_succ s T D)
    have RS := hd (row_succ s)
    have XS := hd (text_succ s)
    have HXO := hd (fun y h => extract_one (s := s) (y := y) h)
    have HL := hd (show (listR s T D P).length = P by simp [listR])
    have BA := hd (fun y h => bs_at (s := s) (y := y) h)
    have HTX := hd (show ∀ x d, textR s x d = strOfNums (rowR s x d) from fun _ _ => rfl)
    have RL := hd (row_len s)
    go_enter Try.func10, Try.ntmps10
    go_wp2_with (first
      | (go_at_call 39; refine (A1.out _).mono ?_; rintro e w' ⟨rfl, hw⟩; subst hw)
      | (go_at_call 40; refine (A2.out _).mono ?_; rintro e w' ⟨rfl, hw⟩; replace hw := hw.symm; subst hw)
      | (go_at_call_has 41 (D : Int); refine (A3.out _).mono ?_; rintro e w' ⟨rfl, hw⟩; subst hw)
      | (go_at_call_has 41 (T : Int); refine (A4.out _).mono ?_; rintro e w' ⟨rfl, hw⟩; subst hw))
    have hstart := World.ownsRow_made (size := 1) w #[] 0 (Nat.le_refl _) (by unfold maxLen; omega) rfl (e := 9)
    go_loopw [10, 34] (fun out ix wr => ∃ i : Nat, i ≤ P ∧ ix = .int .i64 i ∧ wr.ownsRow w.heap.size 9 1 out i (strs (listR s T D i)) ∧ Below w.heap.size w wr) (fun _ ix _ => P - (intOf ix).toNat)
    case atStart => exact ⟨0, by omega, rfl, by simpa [listR, strs] using hstart, (Below.refl _ _).alloc (Nat.le_refl _) _⟩
    case round =>
      obtain ⟨wi, hwi⟩ : ∃ wi : World, wi = wr := ⟨_, rfl⟩
      subst hwi
      obtain ⟨i, hi, rfl, ho, hb⟩ := hrel
      clear hstart
      have Ho := hd ho; have Hb := hd hb
      clear ho hb
      by_cases hlt : i < P
      · have i2 : (i : Int) < (P : Int) := by omega
        have hx2 : i * T ≤ 12 * 64 := Nat.mul_le_mul (by omega) (by omega)
        obtain ⟨x, hx⟩ : ∃ x, x = i * T := ⟨_, rfl⟩
        rw [← hx] at hx2
        have hmul : (i : Int) * (T : Int) = (x : Int) := by rw [hx]; push_cast; rfl
        have HX := hd hx
        clear hx
        go_wp2
        have hstart2 := World.ownsRow_made (size := 1) wi #[] 0 (Nat.le_refl _) (by unfold maxLen; omega) rfl (e := 5)
        go_loopw [12, 39] (fun out ix wr => ∃ k : Nat, k ≤ D ∧ ix = .int .i64 k ∧ wr.ownsRow wi.heap.size 5 1 out k ((rowR s x k).map (Value.int .u8)) ∧ Below wi.heap.size wi wr) (fun _ ix _ => D - (intOf ix).toNat)
        case atStart => exact ⟨0, by omega, rfl, by simpa [rowR] using hstart2, (Below.refl _ _).alloc (Nat.le_refl _) _⟩
        case round =>
          obtain ⟨k, hk, rfl, ho2, hb2⟩ := hrel
          clear hstart2
          by_cases hkt : k < D
          · have i3 : (k : Int) < (D : Int) := by omega
            obtain ⟨y, hy⟩ : ∃ y, y = (k + x) % s.size := ⟨_, rfl⟩
            have hys : y < s.size := by rw [hy]; exact Nat.mod_lt _ (by omega)
            have hrem : ((k : Int) + (x : Int)).tmod (s.size : Int) = (y : Int) := by
              rw [Int.tmod_eq_emod_of_nonneg (by omega), hy]; push_cast; rfl
            have hrs := RS.out x k
            rw [← hy, BA.out y hys] at hrs
            have HRS := hd hrs
            have Ho2 := hd ho2; have Hb2 := hd hb2
            have hy1 : (0 : Int) ≤ (y : Int) := by omega
            have hy2 : (y : Int) < (s.size : Int) := by omega
            have hnz : ¬ ((s.size : Int) = 0) := by omega
            clear hy hrs ho2 hb2
            go_wp2_with (at_builtin; go_must (refine wpList_app_byte _ _ _ rfl _ _ rfl wi.heap.size k _ _ rfl Ho2.out rfl _ rfl (by simp) (by omega) Hb2.out.size ?_); intro v' w1 ho1 hg1 hap)
            go_roundw
            case rel => exact ⟨k + 1, by omega, by go_num, by rw [HRS.out, List.map_append]; exact ho1, below_row hg1 Hb2.out (own_row Ho2.out (Nat.le_refl _))⟩
            case measure => simp [intOf]; omega
          · have e : k = D := by omega
            subst e
            obtain ⟨A, cap, rfl, hcap, hrd, _⟩ := own_rd ho2 (size_le (by omega))
            have hcv : ∀ W : World, Below wr.heap.size wr W → (convert 45 9 (.slice A k cap)).run Try.prog W = .ok (.string (textR s x k)) W := by
              intro W hW
              obtain ⟨b, off, rfl, hcell⟩ := hrd.2.2 (by omega)
              rw [HTX.out]
              refine run_convert_bytes_arg W _ _ Try.underlying45 Try.underlying5 b off k cap (rowR s x k) (RL.out x k) (fun j hj => ?_) _ Try.underlying9
              exact below_at hW (hcell j _ (by rw [List.getElem?_map, List.getElem?_eq_getElem (by rw [RL.out]; exact hj), List.getD_eq_getElem?_getD, List.getElem?_eq_getElem (by rw [RL.out]; exact hj)]; rfl))
            have hcv2 := hcv wr (Below.refl _ _)
            have Hb2 := hd hb2
            have hl1 := LS.out i
            rw [← HX.out] at hl1
            have HL1 := hd hl1
            clear hcv hb2 ho2 hrd hl1
            generalize textR s x k = tx at *
            go_wp2_with (at_builtin; go_must (refine wpList_app_string _ _ _ rfl _ _ rfl w.heap.size i _ _ rfl (own_below Ho.out Hb2.out) rfl _ rfl (by simp) (by omega) (Nat.le_trans Hb.out.size Hb2.out.size) ?_); intro v' w1 ho1 hg1 hap)
            clear hcv2
            go_roundw
            case rel => exact ⟨i + 1, by omega, by go_num, by rw [HL1.out, strs, List.map_append]; exact ho1, below_row hg1 (below_tr Hb2.out Hb.out) (own_row Ho.out (Nat.le_refl _))⟩
            case measure => simp [intOf]; omega
      · have e : i = P := by omega
        subst e
        go_wp2
        go_ret2
        refine ⟨_, rfl, ?_, Hb.out⟩
        rw [HL.out]
        exact Ho.out

set_option maxHeartbeats 2000000 in
set_option maxRecDepth 100000 in
theorem spec_any (w : World) (s : ByteArray) (hs : s.size ≤ maxLen) (p : Int) (_i : I64 p) (d : Int) (_j : I64 d) (t : Int) (_k : I64 t) :
    Calls Try.prog 9 #[.string s, .int .i64 p, .int .i64 d, .int .i64 t] w (OutL 9 1 (M s p d t).1.length (strs (M s p d t).1) (fun u => .tuple #[u, .bool (M s p d t).2]) w) := by
  have A1 := hd (fun w' => l06Days_any s 64 w' hs (by omega) (by omega))
  have A2 := hd (fun w' => l00In_any p 1 12 w')
  have A3 := hd (fun w' => l00In_any d 1 128 w')
  have A4 := hd (fun w' => l00In_any t 0 64 w')
  have hs0 := hs
  unfold maxLen at hs0
  cases hok : okR s p d t with
  | false =>
    have H := hd (M_no hok)
    rw [H.out]
    unfold okR at hok
    generalize patB (bs s) 64 = b1 at *
    generalize inR p 1 12 = b2 at *
    generalize inR d 1 128 = b3 at *
    generalize inR t 0 64 = b4 at *
    cases b1 <;> cases b2 <;> cases b3 <;> cases b4
    all_goals first
      | (exfalso; simp at hok; done)
      | (clear hok
         go_enter Try.func9, Try.ntmps9
         go_wp2_with (first
           | (go_at_call 37; refine (A1.out _).mono ?_; rintro e w' ⟨rfl, hw⟩; subst hw)
           | (go_at_call_has 38 p; refine (A2.out _).mono ?_; rintro e w' ⟨rfl, hw⟩; subst hw)
           | (go_at_call_has 38 d; refine (A3.out _).mono ?_; rintro e w' ⟨rfl, hw⟩; subst hw)
           | (go_at_call_has 38 t; refine (A4.out _).mono ?_; rintro e w' ⟨rfl, hw⟩; subst hw))
         go_ret2
         exact ⟨_, rfl, World.ownsRow_nil _ _ _ _, Below.refl _ _⟩)
  | true =>
    have H := hd (M_yes hok)
    rw [H.out]
    obtain ⟨z1, z2, z3, z4, z5⟩ := okR_parts hok
    unfold okR at hok
    simp only [Bool.and_eq_true] at hok
    obtain ⟨h1, h2, h3, h4⟩ := hok
    rw [h1] at A1; rw [h2] at A2; rw [h3] at A3; rw [h4] at A4
    clear h1 h2 h3 h4 hs
    obtain ⟨P, rfl⟩ : ∃ P : Nat, p = P := ⟨p.toNat, by omega⟩
    obtain ⟨D, rfl⟩ : ∃ D : Nat, d = D := ⟨d.toNat, by omega⟩
    obtain ⟨T, rfl⟩ : ∃ T : Nat, t = T := ⟨t.toNat, by omega⟩
    simp only [Int.toNat_natCast]
    obtain ⟨n, hn⟩ : ∃ n, n = s.size := ⟨_, rfl⟩
    have TS := hd (text_size s)
    have LS := hd (list_succ s T D)
    have RS := hd (row_succ s)
    have XS := hd (text_succ s)
    have HXO := hd (fun y h => extract_one (s := s) (y := y) h)
    have HL := hd (show (listR s T D P).length = P by simp [listR])
    have BA := hd (fun y h => bs_at (s := s) (y := y) h)
    have HTX := hd (show ∀ x d, textR s x d = strOfNums (rowR s x d) from fun _ _ => rfl)
    have RL := hd (row_len s)
    go_enter Try.func9, Try.ntmps9
    go_wp2_with (first
      | (go_at_call 37; refine (A1.out _).mono ?_; rintro e w' ⟨rfl, hw⟩; subst hw)
      | (go_at_call_has 38 (P : Int); refine (A2.out _).mono ?_; rintro e w' ⟨rfl, hw⟩; subst hw)
      | (go_at_call_has 38 (D : Int); refine (A3.out _).mono ?_; rintro e w' ⟨rfl, hw⟩; subst hw)
      | (go_at_call_has 38 (T : Int); refine (A4.out _).mono ?_; rintro e w' ⟨rfl, hw⟩; subst hw))
    have hstart := World.ownsRow_made (size := 1) w #[] 0 (Nat.le_refl _) (by unfold maxLen; omega) rfl (e := 9)
    go_loopw [10, 12] (fun out ix wr => ∃ i : Nat, i ≤ P ∧ ix = .int .i64 i ∧ wr.ownsRow w.heap.size 9 1 out i (strs (listR s T D i)) ∧ Below w.heap.size w wr) (fun _ ix _ => P - (intOf ix).toNat)
    case atStart => exact ⟨0, by omega, rfl, by simpa [listR, strs] using hstart, (Below.refl _ _).alloc (Nat.le_refl _) _⟩
    case round =>
      obtain ⟨wi, hwi⟩ : ∃ wi : World, wi = wr := ⟨_, rfl⟩
      subst hwi
      obtain ⟨i, hi, rfl, ho, hb⟩ := hrel
      clear hstart
      have Ho := hd ho; have Hb := hd hb
      clear ho hb
      by_cases hlt : i < P
      · have i2 : (i : Int) < (P : Int) := by omega
        have hx2 : i * T ≤ 12 * 64 := Nat.mul_le_mul (by omega) (by omega)
        obtain ⟨x, hx⟩ : ∃ x, x = i * T := ⟨_, rfl⟩
        rw [← hx] at hx2
        have hmul : (i : Int) * (T : Int) = (x : Int) := by rw [hx]; push_cast; rfl
        have HX := hd hx
        clear hx
        go_wp2
        go_loopw [13, 14] (fun tx ix wr => ∃ k : Nat, k ≤ D ∧ ix = .int .i64 k ∧ tx = .string (textR s x k) ∧ wr = wi) (fun _ ix _ => D - (intOf ix).toNat)
        case atStart => exact ⟨0, by omega, rfl, rfl, rfl⟩
        case round =>
          obtain ⟨k, hk, rfl, rfl, hwr⟩ := hrel
          subst hwr
          by_cases hkt : k < D
          · have i3 : (k : Int) < (D : Int) := by omega
            obtain ⟨y, hy⟩ : ∃ y, y = (k + x) % s.size := ⟨_, rfl⟩
            have hys : y < s.size := by rw [hy]; exact Nat.mod_lt _ (by omega)
            have hrem : ((k : Int) + (x : Int)).tmod (s.size : Int) = (y : Int) := by
              rw [Int.tmod_eq_emod_of_nonneg (by omega), hy]; push_cast; rfl
            have hts := XS.out x k
            rw [← hy, BA.out y hys] at hts
            have HTS := hd hts
            have hy1 : (0 : Int) ≤ (y : Int) := by omega
            have hy2 : (y : Int) < (s.size : Int) := by omega
            have hnz : ¬ ((s.size : Int) = 0) := by omega
            have hsz := TS.out x k
            have hs64 : s.size ≤ 64 := z2
            generalize textR s x k = tx at *
            clear hy hts
            go_wp2
            go_roundw
            case rel => exact ⟨k + 1, by omega, by go_num, by rw [HTS.out, HXO.out y hys], by trivial⟩
            case measure => simp [intOf]; omega
          · have e : k = D := by omega
            subst e
            have hl1 := LS.out i
            rw [← HX.out] at hl1
            have HL1 := hd hl1
            clear hl1
            generalize textR s x k = tx at *
            go_wp2_with (at_builtin; go_must (refine wpList_app_string _ _ _ rfl _ _ rfl w.heap.size i _ _ rfl Ho.out rfl _ rfl (by simp) (by omega) Hb.out.size ?_); intro v' w1 ho1 hg1 hap)
            go_roundw
            case rel => exact ⟨i + 1, by omega, by go_num, by rw [HL1.out, strs, List.map_append]; exact ho1, below_row hg1 Hb.out (own_row Ho.out (Nat.le_refl _))⟩
            case measure => simp [intOf]; omega
      · have e : i = P := by omega
        subst e
        go_wp2
        go_ret2
        refine ⟨_, rfl, ?_, Hb.out⟩
        rw [HL.out]
        exact Ho.out

set_option maxHeartbeats 2000000 in
set_option maxRecDepth 100000 in
theorem walk (w : World) (t0 : ByteArray) (y0 : t0.size ≤ maxLen) (a1 : Int) (i1 : I64 a1) (a2 : Int) (i2 : I64 a2) (a3 : Int) (i3 : I64 a3) :
    Calls Try.prog 3 #[.string t0, .int .i64 a1, .int .i64 a2, .int .i64 a3] w fun e w' => e = .returned (.bool true) ∧ Below w.heap.size w w' := by
  by_cases b0 : t0.size ≤ 1048576
  rotate_left
  · unfold maxLen at y0
    have hx' : ¬ ((t0.size : Int) ≤ 1048576) := by omega
    go_enter Try.func3, Try.ntmps3
    go_wp2
    go_ret
    exact ⟨rfl, Below.refl _ _⟩
  have hx0 : (t0.size : Int) ≤ 1048576 := by omega
  have bg := len_ok t0 y0 a1 i1 a2 i2 a3 i3
  have zg := size_le bg
  have hB := Below.refl w.heap.size w
  go_enter Try.func3, Try.ntmps3
  go_wp2_with fail
  refine (spec_any _ t0 y0 a1 i1 a2 i2 a3 i3).mono ?_; rintro e w1 ⟨w0, rfl, ho_w0, hb⟩
  replace ho_w0 := own_mono ho_w0 hB.size
  replace hB := below_tr hb hB
  clear hb
  go_wp2_with fail
  refine (impl_any _ t0 y0 a1 i1 a2 i2 a3 i3).mono ?_; rintro e w2 ⟨g0, rfl, ho_g0, hb⟩
  have d_w0_g0 := dj_new ho_w0 ho_g0
  replace ho_w0 := own_below ho_w0 hb
  replace ho_g0 := own_mono ho_g0 hB.size
  replace hB := below_tr hb hB
  clear hb
  go_wp2_with fail
  refine (eqStringS_b _ _ _ _ _ (own_sl ho_g0 zg) (own_sl ho_w0 zg)).mono ?_; rintro e w3 ⟨rfl, hb⟩
  replace ho_w0 := own_below ho_w0 hb
  replace ho_g0 := own_below ho_g0 hb
  replace hB := below_tr hb hB
  clear hb
  go_wp2_with fail
  have hrow := own_row ho_g0 (Nat.le_refl _)
  refine (markStringS_any _ _ _ _ 1 _ ho_g0 bg (by omega) (by omega)).mono ?_; rintro e w4 ⟨rfl, ho', hg⟩
  replace ho_w0 := own_kept ho_w0 hg d_w0_g0
  replace ho_g0 := ho'
  replace hB := below_row hg hB hrow
  clear hg hrow ho'
  go_wp2_with fail
  refine (heldStringS_b _ _ 1 _ (own_sl ho_g0 zg) bg (by omega) (by omega)).mono ?_; rintro e w5 ⟨rfl, hb⟩
  replace ho_w0 := own_below ho_w0 hb
  replace ho_g0 := own_below ho_g0 hb
  replace hB := below_tr hb hB
  clear hb
  go_wp2_with fail
  refine (impl_any _ t0 y0 a1 i1 a2 i2 a3 i3).mono ?_; rintro e w6 ⟨h0, rfl, ho_h0, hb⟩
  have d_w0_h0 := dj_new ho_w0 ho_h0
  have d_g0_h0 := dj_new ho_g0 ho_h0
  replace ho_w0 := own_below ho_w0 hb
  replace ho_g0 := own_below ho_g0 hb
  replace ho_h0 := own_mono ho_h0 hB.size
  replace hB := below_tr hb hB
  clear hb
  go_wp2_with fail
  refine (eqStringS_b _ _ _ _ _ (own_sl ho_h0 zg) (own_sl ho_w0 zg)).mono ?_; rintro e w7 ⟨rfl, hb⟩
  replace ho_w0 := own_below ho_w0 hb
  replace ho_g0 := own_below ho_g0 hb
  replace ho_h0 := own_below ho_h0 hb
  replace hB := below_tr hb hB
  clear hb
  go_wp2_with fail
  refine (heldStringS_b _ _ 1 _ (own_sl ho_g0 zg) bg (by omega) (by omega)).mono ?_; rintro e w8 ⟨rfl, hb⟩
  replace ho_w0 := own_below ho_w0 hb
  replace ho_g0 := own_below ho_g0 hb
  replace ho_h0 := own_below ho_h0 hb
  replace hB := below_tr hb hB
  clear hb
  go_wp2_with fail
  go_ret
  exact ⟨rfl, hB⟩

theorem own : ownKnob Try.prog.godebug = none := by kernel_rfl
theorem laidOut : laidOutB Try.prog = true := by kernel_rfl

set_option maxRecDepth 100000 in
theorem lifted (os : Os) (started : os.Started) (H : Type) (enc : TypeId × Value → H) :
    ReturnsInHanded {} Try.checked os 3 .any (Rows.fnExactRotateRosterSpec.pre6 enc Try.prog Try.f3 Rows.fnExactRotateRosterRow.domain false) (Rows.fnExactRotateRosterSpec.post enc Try.prog Try.f3 false true false false) := by
  refine returnsInHanded_of_change (C := Try.checked) own started (by as_aux_lemma => kernel_rfl) Try.func3
    (ChangeSpec.witness6 (enc := enc) (C := Try.checked) false ⟨#[], #[.string ByteArray.empty, .int .i64 0, .int .i64 0, .int .i64 0], []⟩ 8 (by as_aux_lemma => kernel_rfl) (by as_aux_lemma => kernel_rfl) (by as_aux_lemma => kernel_rfl) (by as_aux_lemma => kernel_rfl)) ?_
  intro W base args ds gs before hval0 hW hcnd _
  have hval : ∀ (j : Nat) t v, Try.f3.params[j]? = some t → args[j]? = some v → Value.okWide Try.prog W .any base t v := hval0
  have hW' := hW
  obtain ⟨p, q, hA0, hV, rfl, hfz, hnd⟩ := hW
  have hA : DataW.TrodAll enc Try.prog W 0 (fun _ => true) true Try.f3.params.toList args.toList ds p := hA0
  rw [Try.params3] at hA hval
  obtain ⟨v0, vs0, d0, ds0, p0, q0, hargs, rfl, rfl, h0, r0⟩ := trodAll_cons hA
  obtain ⟨v1, vs1, d1, ds1, p1, q1, rfl, rfl, rfl, h1, r1⟩ := trodAll_cons r0
  obtain ⟨v2, vs2, d2, ds2, p2, q2, rfl, rfl, rfl, h2, r2⟩ := trodAll_cons r1
  obtain ⟨v3, vs3, d3, ds3, p3, q3, rfl, rfl, rfl, h3, r3⟩ := trodAll_cons r2
  obtain ⟨rfl, rfl, rfl⟩ := trodAll_nil r3
  obtain rfl : args = #[v0, v1, v2, v3] := by cases args; simp_all
  obtain ⟨rfl, rfl⟩ := trodVars_none hV
  have k0 := h0
  have lt0 : ∀ x ∈ p0, x.block < W.heap.size := by obtain ⟨m, hm⟩ := k0; exact DataW.trod_lt m _ _ _ hm
  obtain ⟨a0, rfl, _, _, w0⟩ := Go.ChangeMaps.open_string Try.underlying9 (hval 0 9 v0 rfl rfl) h0
  obtain ⟨a1, rfl, rfl, rfl, w1⟩ := open_int Try.underlying2 (hval 1 2 v1 rfl rfl) h1
  obtain ⟨a2, rfl, rfl, rfl, w2⟩ := open_int Try.underlying2 (hval 2 2 v2 rfl rfl) h2
  obtain ⟨a3, rfl, rfl, rfl, w3⟩ := open_int Try.underlying2 (hval 3 2 v3 rfl rfl) h3
  clear hA0 hval0
  refine (walk W a0 w0 a1 (i64_of_wf w1) a2 (i64_of_wf w2) a3 (i64_of_wf w3)).mono fun e W' ⟨he, bel⟩ => ?_
  subst he
  exact ⟨_, rfl, _, _, _, [], _, [], hW', trodAll_mk1 (shut_bool Try.underlying4 _), (trodAll_cons_mk (Below.trod laidOut (by as_aux_lemma => kernel_rfl) (of_decide_eq_true (by as_aux_lemma => kernel_rfl)) k0 bel lt0) (trodAll_cons_mk (shut_int Try.underlying2 w1) (trodAll_cons_mk (shut_int Try.underlying2 w2) (trodAll_cons_mk (shut_int Try.underlying2 w3) (trodAll_mk0))))), rfl, bel.frame _, fun h => by cases h⟩

/-- The given statement. -/
theorem proved : Rows.FnExactRotateRosterSaid :=
  OpenClaim.holds_of_wide 3 Try.f3 rfl rfl rfl rfl rfl rfl rfl ⟨rfl, rfl, rfl, rfl, rfl⟩ rfl rfl rfl rfl rfl (by kernel_rfl) Try.func3 (by kernel_rfl)
    (of_decide_eq_true (by kernel_rfl)) (by unfold Func.isWrapper; first | (rw [if_pos (by decide +kernel)]; kernel_rfl) | (rw [if_neg (by decide +kernel)]; exact ⟨rfl, rfl⟩))
    (fun os started H enc _ => lifted os started H enc)
#print axioms proved

end Go.Proofs.Ytkmbcdjlfcofjaa.lFnExactRotateRoster
