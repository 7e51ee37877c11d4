/- The laws' helpers on slices of strings: equality, marks. -/
import Derived.Test.YtfofokofphcdnaaDoorSlice
import Derived.Test.YtfofokofphcdnaaDoorWords
import Derived.Test.YtfofokofphcdnaaDoorStoreOwn
import Derived.Laws.BytesArg
namespace Go.Proofs.YtfofokofphcdnaaDoor
open Go.RowKit Plain
set_option linter.unusedVariables false
set_option linter.unusedSimpArgs false
attribute [local go_sem ↓] Go.wp_at_zero Go.wp_at_succ

/-- the cells of a list of strings -/
def strs (l : List ByteArray) : List Value := l.map Value.string
theorem strs_len (l : List ByteArray) : (strs l).length = l.length := by simp [strs]
theorem Rd.str {w : World} {A : Option Addr} {n : Nat} {l : List ByteArray} (h : Rd w 1 A n (strs l)) {k : Nat} (hk : k < n) : ∃ b off s, A = some ⟨b, off, none⟩ ∧ Hid (l[k]? = some s) ∧ w.cell? ⟨b, off + k, none⟩ = some (.string s) := by
  obtain ⟨h1, _, h2⟩ := h
  obtain ⟨b, off, hA, hc⟩ := h2 (by omega)
  rw [strs_len] at h1
  have hl : k < l.length := by omega
  exact ⟨b, off, l[k], hA, hd (List.getElem?_eq_getElem hl), hc k _ (by simp [strs, hl])⟩
theorem Rd.strLen {w : World} {A : Option Addr} {n : Nat} {l : List ByteArray} (h : Rd w 1 A n (strs l)) : l.length = n := by
  have := h.1; rw [strs_len] at this; omega
theorem bytes_beq (a b : ByteArray) : (a == b) = decide (a = b) := by
  obtain ⟨a⟩ := a
  obtain ⟨b⟩ := b
  show (a == b) = _
  by_cases h : a = b
  · subst h; simp
  · have h2 : ¬ (ByteArray.mk a = ByteArray.mk b) := fun e => h (by cases e; rfl)
    simp [h, h2]
theorem bytes_eq {a b : ByteArray} (h : (a.toList == b.toList) = true) : a = b := by
  rw [← beq_toListBytes, bytes_beq] at h
  exact of_decide_eq_true h
theorem bytes_ne {a b : ByteArray} (h : (a.toList == b.toList) = false) : ¬ a = b := by
  rintro rfl
  simp at h

/-- the digits of k ahead of a text, at most f of them -/
def mtF : Nat → Nat → ByteArray → ByteArray
  | 0, _, acc => acc
  | f + 1, k, acc => if k = 0 then acc else mtF f (k / 10) (strOfNums [((48 + k % 10 : Nat) : Int)] ++ acc)
theorem mtF_zero (f : Nat) (acc : ByteArray) : mtF f 0 acc = acc := by cases f <;> rfl
/-- the text of a mark -/
def mText (k : Nat) : ByteArray := ⟨#[109]⟩ ++ mtF (k + 1) k ⟨#[]⟩
theorem one_byte_string (W : World) (c : Int) : (convert 40 9 (.slice (some ⟨W.heap.size, 0, none⟩) 1 1)).run Tryd.prog (W.alloc (.cells #[.int .u8 c] 5)) = .ok (.string (strOfNums [c])) (W.alloc (.cells #[.int .u8 c] 5)) :=
  run_convert_bytes_arg _ _ _ Tryd.underlying40 Tryd.underlying5 W.heap.size 0 1 1 [c] rfl (fun i hi => by
    have : i = 0 := by omega
    subst this
    simp) _ Tryd.underlying9
set_option maxHeartbeats 1000000 in
set_option maxRecDepth 100000 in
theorem markText_any (K : Nat) (w : World) (h0 : 0 < K) (h1 : K ≤ 1099511627776) :
    Calls Tryd.prog 19 #[.int .i64 K] w fun r w' => r = .returned (.string (mText K)) ∧ Below w.heap.size w w' := by
  have g0 : (0 : Int) < (K : Int) := by omega
  have kc := one_byte_string
  have g1 : ¬ K = 0 := by omega
  go_enter Tryd.func19, Tryd.ntmps19
  go_wp2
  go_loopw [0, 3] (fun q t wr => ∃ (k f : Nat) (acc : ByteArray), k ≤ K ∧ q = .int .i64 k ∧ t = .string acc ∧ k < f ∧ acc.size + f ≤ K + 1 ∧ Hid (mtF f k acc = mtF (K + 1) K ⟨#[]⟩) ∧ Below w.heap.size w wr) (fun q _ _ => (intOf q).toNat)
  case atStart => exact ⟨K, K + 1, ⟨#[]⟩, Nat.le_refl _, rfl, rfl, by omega, by simp [ByteArray.size], rfl, Below.refl _ _⟩
  case round =>
    obtain ⟨k, f, acc, hk, rfl, rfl, hf, hs, hm, hb⟩ := hrel
    have hz : acc.size ≤ 1099511627777 := by omega
    by_cases hlt : 0 < k
    · have i1 : (0 : Int) < (k : Int) := by omega
      have Hb := hd hb
      have hs1 : (strOfNums [48 + (k : Int) % 10]).size = 1 := strOfNums_size _
      clear hb
      go_wp2
      go_roundw
      case rel =>
        obtain ⟨f', rfl⟩ : ∃ f', f = f' + 1 := ⟨f - 1, by omega⟩
        refine ⟨k / 10, f', strOfNums [((48 + k % 10 : Nat) : Int)] ++ acc, by omega, by push_cast; rfl, by push_cast; rfl, by omega, by rw [ByteArray.size_append, strOfNums_size]; simp only [List.length_singleton]; omega, hd ?_, Hb.out.alloc Hb.out.size _⟩
        rw [← hm.out, mtF, if_neg (by omega)]
      case measure => simp [intOf]; omega
    · have e : k = 0 := by omega
      subst e
      go_wp2
      go_ret
      refine ⟨?_, hb⟩
      rw [mText, ← hm.out, mtF_zero]
      rfl

set_option maxHeartbeats 400000 in
/-- 'laws.eqStringS': the lists are equal. -/
theorem eqStringS_any (v u : Value) (xs ys : List ByteArray) (w : World) (hs : Sl w 1 v xs.length (strs xs)) (ht : Sl w 1 u ys.length (strs ys)) :
    Calls Tryd.prog 10 #[v, u] w fun r w' => r = .returned (.bool (decide (xs = ys))) ∧ Below w.heap.size w w' := by
  obtain ⟨A, cap, rfl, hcap, hr⟩ := hs
  obtain ⟨A', cap', rfl, hcap', hr'⟩ := ht
  have hm := hr.2.1
  have hm' := hr'.2.1
  unfold maxLen at hm hm'
  generalize hn : xs.length = n at *
  generalize hn' : ys.length = n' at *
  have Hn := hd hn.symm
  have Hn' := hd hn'.symm
  clear hn hn'
  by_cases hnn : n = n'
  · subst hnn
    go_enter Tryd.func10, Tryd.ntmps10
    go_wp2
    go_loopw [5] (fun i wr => ∃ k : Nat, k ≤ n ∧ i = .int .i64 k ∧ Hid (xs.take k = ys.take k) ∧ Below w.heap.size w wr) (fun i _ => n - (intOf i).toNat)
    case atStart => exact ⟨0, by omega, rfl, by simp [Hid], Below.refl _ _⟩
    case round =>
      obtain ⟨k, hk, rfl, he, hb⟩ := hrel
      by_cases hlt : k < n
      · obtain ⟨b, off, s, rfl, hq, hc⟩ := (hr.below hb).str hlt
        obtain ⟨b', off', s', rfl, hq', hc'⟩ := (hr'.below hb).str hlt
        have i1 : (0 : Int) ≤ (k : Int) := by omega
        have i2 : (k : Int) < (n : Int) := by omega
        have Hb := hd hb
        clear hr hr' hb
        cases hss : (s.toList == s'.toList) with
        | true =>
          have Hs := hd (bytes_eq hss)
          go_wp2
          go_quiet (fail)
          go_wp2
          go_roundw
          case rel => exact ⟨k + 1, by omega, by go_num, take_succ_of he.out hq.out (Hs.out ▸ hq'.out), below_drewN Hb.out _⟩
          case measure => simp [intOf]; omega
        | false =>
          have Hs := hd (bytes_ne hss)
          go_wp2
          go_quiet (fail)
          go_wp2
          go_ret
          exact ⟨ret_bool (by simpa using ne_of_get hq.out hq'.out Hs.out), below_drewN Hb.out _⟩
      · have hkn : k = n := by omega
        subst hkn
        go_wp2
        go_ret
        exact ⟨ret_bool (by simpa using (eq_of_take he.out Hn.out.symm Hn'.out.symm)), hb⟩
  · go_enter Tryd.func10, Tryd.ntmps10
    have hne : ¬ ((n : Int) = (n' : Int)) := by omega
    go_wp2
    go_ret
    refine ⟨ret_bool ?_, Below.refl _ _⟩
    symm
    rw [decide_eq_false_iff_not]
    rintro rfl
    exact hnn (Hn.out.trans Hn'.out.symm)
theorem eqStringS_b (v u : Value) (xs ys : List ByteArray) (w : World) (hs : Sl w 1 v xs.length (strs xs)) (ht : Sl w 1 u ys.length (strs ys)) :
    Calls Tryd.prog 10 #[v, u] w fun r w' => r = .returned (.bool (decide (xs = ys))) ∧ Below w.heap.size w w' := eqStringS_any v u xs ys w hs ht
/-- the texts of marks -/
def smarks (n : Nat) (m : Int) : List ByteArray := (List.range n).map fun (i : Nat) => mText (m.toNat + i)
theorem smarks_len (n : Nat) (m : Int) : (smarks n m).length = n := by simp [smarks]
theorem smarks_get (n : Nat) (m : Int) (i : Nat) (h : i < n) : (smarks n m)[i]? = some (mText (m.toNat + i)) := by simp [smarks, h]
theorem markText_at (m : Int) (k : Nat) (w : World) (h0 : 1 ≤ m) (h1 : m + k ≤ 1099511627776) :
    Calls Tryd.prog 19 #[.int .i64 (m + k)] w fun r w' => r = .returned (.string (mText (m.toNat + k))) ∧ Below w.heap.size w w' := by
  have := markText_any (m.toNat + k) w (by omega) (by omega)
  rwa [show ((m.toNat + k : Nat) : Int) = m + k by omega] at this
theorem size_string : (Tryd.prog.info? 9).map (·.size) = some 1 := by kernel_rfl
set_option maxHeartbeats 1000000 in
/-- 'laws.markStringS': the slice's cells hold the texts of m, m + 1, ..; nothing else has turned. -/
theorem markStringS_any (v : Value) (xs : List Value) (n base : Nat) (m : Int) (w : World) (ho : w.ownsRow base 9 1 v n xs) (hn : n ≤ 1048576) (hm0 : 1 ≤ m) (hm1 : m ≤ 1073741824) :
    Calls Tryd.prog 11 #[v, .int .i64 m] w (MarkedRow 9 1 v n (strs (smarks n m)) base (m + n) w) := by
  obtain ⟨A, cap, rfl, hcap, hr, hA⟩ := own_rd ho (size_le hn)
  have hl : xs.length = n := by have := ho.1; simpa using this
  have Hl := hd hl
  have hbs := World.ownsRow.lt ho
  clear hl
  go_enter Tryd.func11, Tryd.ntmps11
  go_wp2
  go_loopw [1, 5] (fun q i wr => ∃ k : Nat, k ≤ n ∧ i = .int .i64 k ∧ q = .int .i64 (m + k) ∧ wr.ownsRow base 9 1 (.slice A n cap) n (((List.range k).map fun (i : Nat) => Value.string (mText (m.toNat + i))) ++ xs.drop k) ∧ w.grownBy wr (Value.ownBlock (.slice A n cap))) (fun _ i _ => n - (intOf i).toNat)
  case atStart => exact ⟨0, by omega, rfl, by simp, by simpa using ho, World.grownBy.refl _ _⟩
  case round =>
    obtain ⟨k, hk, rfl, rfl, ho1, hg⟩ := hrel
    clear ho hr
    by_cases hlt : k < n
    · rcases hA with ⟨_, hc0⟩ | ⟨g, rfl, hg1, hg2⟩
      · omega
      have Ho := hd ho1; have Hg := hd hg
      clear ho1 hg
      go_wp2_with (first
        | (go_at_call 19; refine (markText_at m k _ hm0 (by omega)).mono ?_; rintro e w2 ⟨rfl, hb2⟩; have ho2 := own_below Ho.out hb2)
        | ((with_reducible refine wpList_store_own _ base _ 1 n cap g _ ho2 size_string ?_ ?_ ?_ ?_ ?_ ?_ ?_); rotate_left 2; exact rfl; exact rfl; exact rfl; omega; intro w3 ho3 hg3))
      go_roundw
      case rel =>
        have hst := mark_step (fun (i : Nat) => Value.string (mText (m.toNat + i))) xs n k Hl.out hlt
        have e : w3.ownsRow base 9 1 (.slice (some ⟨g, 0, none⟩) n cap) n ((((List.range k).map fun (i : Nat) => Value.string (mText (m.toNat + i))) ++ xs.drop k).set k (Value.string (mText (m.toNat + k)))) := by
          first | exact ho3 | simpa using ho3
        rw [hst] at e
        exact ⟨k + 1, by omega, by go_num, by go_num, e, Hg.out.trans ((below_all hb2 _).trans hg3)⟩
      case measure => simp [intOf]; omega
    · have hkn : k = n := by omega
      subst hkn
      go_wp2
      go_ret
      refine ⟨rfl, ?_, hg⟩
      have e := ho1
      rw [List.drop_eq_nil_of_le (by have := Hl.out; omega), List.append_nil] at e
      simpa [smarks, strs, Function.comp_def] using e

end Go.Proofs.YtfofokofphcdnaaDoor
