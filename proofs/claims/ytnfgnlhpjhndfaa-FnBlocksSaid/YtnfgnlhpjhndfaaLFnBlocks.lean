/- Whatever bytes choose the runs, heads, rules and delays, the program's LeastHead, BlockTimes and SpreadDelays are as the law says: it returns true. No condition. -/
import Derived.Test.YtnfgnlhpjhndfaaRows
import Derived.Test.YtnfgnlhpjhndfaaHeadL
import Derived.Test.YtnfgnlhpjhndfaaBlkI
import Derived.Test.YtnfgnlhpjhndfaaRulesD
import Derived.Test.YtnfgnlhpjhndfaaDelays
import Derived.Test.YtnfgnlhpjhndfaaApp
import Derived.Test.YtnfgnlhpjhndfaaOpen
import Derived.Test.YtnfgnlhpjhndfaaOpen2
namespace Go.Proofs.Ytnfgnlhpjhndfaa.lFnBlocks
open Go.ChangeShapes Go.WideShapes Go.ChangeAt Go.RowKit Go.Proofs.Ytnfgnlhpjhndfaa Plain
set_option linter.unusedVariables false
set_option linter.unusedSimpArgs false
attribute [local go_sem ↓] Go.wp_at_zero Go.wp_at_succ

theorem preT_snoc (rs : List Int) (q : Int) (k : Nat) (h : k ≤ rs.length) : preT (rs ++ [q]) k = preT rs k := by
  induction k with
  | zero => rfl
  | succ k ih =>
    simp only [preT]
    rw [ih (by omega), List.getD_eq_getElem?_getD, List.getElem?_append_left (by omega), ← List.getD_eq_getElem?_getD]
theorem tot_snoc (rs : List Int) (q : Int) : preT (rs ++ [q]) (rs ++ [q]).length = preT rs rs.length + q := by
  rw [List.length_append]
  show preT (rs ++ [q]) rs.length + (rs ++ [q]).getD rs.length 0 = _
  rw [preT_snoc rs q _ (Nat.le_refl _), List.getD_eq_getElem?_getD, List.getElem?_append_right (Nat.le_refl _)]
  simp
theorem sl_two (w : World) (T : TypeId) (x y : Int) : Sl (w.alloc (.cells #[.int .i64 x, .int .i64 y] T)) 1 (.slice (some ⟨w.heap.size, 0, none⟩) 2 2) [x, y].length ([x, y].map vi) := by
  refine ⟨_, 2, rfl, by simp, by simp, by unfold maxLen; simp, fun _ => ⟨_, 0, rfl, fun j u hu => ?_⟩⟩
  match j, hu with
  | 0, hu => simp at hu; subst hu; simp [vi]
  | 1, hu => simp at hu; subst hu; simp [vi]
theorem topTo_le {rs : List Int} {B : Int} (hB : 0 ≤ B) (h : ∀ k, rs.getD k 0 ≤ B) (k : Nat) : topTo rs k ≤ B := by
  induction k with
  | zero => simpa [topTo] using hB
  | succ k ih => have := h k; simp only [topTo]; omega
theorem head_max {rs : List Int} (h : ∀ k, 0 ≤ rs.getD k 0) (h1 : 1 ≤ rs.length) : headI rs rs rs.length = topTo rs rs.length := by
  obtain ⟨m, hm⟩ : ∃ m, rs.length = m + 1 := ⟨rs.length - 1, by omega⟩
  rw [hm]
  exact head_self h m
theorem head_sameL (a b : List Int) (h1 : 1 ≤ a.length) : headS a b a.length = headI a b a.length := by
  obtain ⟨m, hm⟩ : ∃ m, a.length = m + 1 := ⟨a.length - 1, by omega⟩
  rw [hm]
  exact (head_same a b m).symm
theorem own_dd {w : World} {base size n a b : Nat} {e : TypeId} {v : Value} {xs : List Value} (h : w.ownsRow base e size v n xs) : ((w.drewN a).drewN b).ownsRow base e size v n xs := h
theorem own_d1 {w : World} {base size n a : Nat} {e : TypeId} {v : Value} {xs : List Value} (h : w.ownsRow base e size v n xs) : (w.drewN a).ownsRow base e size v n xs := h
theorem i64_small {x B : Int} (h : 0 ≤ x ∧ x ≤ B) (hB : B ≤ 1000000) : I64 x := ⟨by omega, by omega⟩
/-- BlockTimes of two trains -/
theorem two_any (w : World) (v0 v1 : Value) (rs : List Int) (s t : Int) (hr : ∀ x ∈ rs, 0 ≤ x ∧ x ≤ 8) (h1 : 1 ≤ rs.length) (h2 : rs.length ≤ 12) (hs : 0 ≤ s ∧ s ≤ 100) (ht : 0 ≤ t ∧ t ≤ 100) (s0 : Sl w 1 v0 rs.length (rs.map vi)) (s1 : Sl w 1 v1 [s, t].length ([s, t].map vi)) :
    Calls Try.prog 7 #[v0, v1] w (OutL 2 1 (2 * rs.length) ((timesT rs [s, t]).map vi) (fun u => .tuple #[u, .bool true]) w) := by
  have h := BlkI.impl_any w v0 rs (fun x hx => i64_small (hr x hx) (by omega)) (by omega) s0 v1 [s, t] (fun x hx => by
    simp only [List.mem_cons, List.not_mem_nil, or_false] at hx
    rcases hx with rfl | rfl
    · exact i64_small hs (by omega)
    · exact i64_small ht (by omega)) (by simp) s1
  have e1 : manyIn [s, t] 1 12 0 100000 = true := by
    simp only [manyIn, Bool.and_eq_true, decide_eq_true_eq, List.all_eq_true]
    refine ⟨by simp, by simp, fun x hx => ?_⟩
    simp only [List.mem_cons, List.not_mem_nil, or_false] at hx
    rcases hx with rfl | rfl
    · exact inR_iff.2 ⟨by omega, by omega⟩
    · exact inR_iff.2 ⟨by omega, by omega⟩
  have e2 : BlkI.M rs [s, t] = (timesT rs [s, t], true) := by rw [BlkI.M, many_of h1 h2 (by omega) hr, e1]; rfl
  rw [e2] at h
  dsimp only at h
  rw [times_len] at h
  exact h

/-- a rule, its events in order -/
def sortQ (q : Q4) : Q4 := ⟨min q.a q.b, max q.a q.b, q.c, q.d⟩
/-- the first j rules are so, the others are as they were -/
def Swapped (l l' : List Q4) (j : Nat) : Prop := l'.length = l.length ∧ (∀ i, i < j → l'[i]? = (l[i]?).map sortQ) ∧ ∀ i, j ≤ i → l'[i]? = l[i]?
theorem swapped_start (l : List Q4) : Swapped l l 0 := ⟨rfl, fun i hi => absurd hi (by omega), fun i _ => rfl⟩
theorem swapped_step {l l' : List Q4} {j : Nat} {q : Q4} (h : Swapped l l' j) (hq : l'[j]? = some q) : Swapped l (l'.set j (sortQ q)) (j + 1) := by
  obtain ⟨h1, h2, h3⟩ := h
  have hj : j < l'.length := (List.getElem?_eq_some_iff.1 hq).1
  refine ⟨by rw [List.length_set]; exact h1, fun i hi => ?_, fun i hi => ?_⟩
  · rcases Nat.lt_or_ge i j with h | h
    · rw [List.getElem?_set_ne (by omega)]; exact h2 i h
    · obtain rfl : i = j := by omega
      rw [List.getElem?_set_self hj, ← h3 i (Nat.le_refl _), hq]; rfl
  · rw [List.getElem?_set_ne (by omega)]; exact h3 i (by omega)
theorem swapped_end {l l' : List Q4} (h : Swapped l l' l.length) : l' = l.map sortQ := by
  obtain ⟨h1, h2, h3⟩ := h
  apply List.ext_getElem?
  intro i
  rw [List.getElem?_map]
  rcases Nat.lt_or_ge i l.length with h | h
  · exact h2 i h
  · rw [List.getElem?_eq_none (by omega), List.getElem?_eq_none h]; rfl
theorem q4s_set2 (l : List Q4) (k : Nat) (q : Q4) (x y : Int) (h : l[k]? = some q) : ((q4s l).set (k * 4) (.int .i64 x)).set (k * 4 + 1) (.int .i64 y) = q4s (l.set k ⟨x, y, q.c, q.d⟩) := by
  induction l generalizing k with
  | nil => simp at h
  | cons a t ih =>
    cases k with
    | zero =>
      simp at h
      subst h
      simp [q4s, Q4.cells]
    | succ k =>
      have e := ih k (by simpa using h)
      have e1 : q4s (a :: t) = Value.int .i64 a.a :: Value.int .i64 a.b :: Value.int .i64 a.c :: Value.int .i64 a.d :: q4s t := by simp [q4s, Q4.cells]
      have e2 : q4s (a :: t.set k ⟨x, y, q.c, q.d⟩) = Value.int .i64 a.a :: Value.int .i64 a.b :: Value.int .i64 a.c :: Value.int .i64 a.d :: q4s (t.set k ⟨x, y, q.c, q.d⟩) := by simp [q4s, Q4.cells]
      rw [List.set_cons_succ, e1, e2, ← e, show (k + 1) * 4 = k * 4 + 1 + 1 + 1 + 1 by omega, show k * 4 + 1 + 1 + 1 + 1 + 1 = (k * 4 + 1) + 1 + 1 + 1 + 1 by omega]
      simp only [List.set_cons_succ]
theorem rules_sorted {l l' : List Q4} {ev : Nat} (h : ∀ q ∈ l, ruleOk ev q) (e : l' = l.map sortQ) : ∀ q ∈ l', (0 ≤ q.a ∧ q.a < q.b ∧ q.b < (ev : Int)) ∧ (0 ≤ q.c ∧ q.c ≤ 8) ∧ (q.c ≤ q.d ∧ q.d ≤ q.c + 8) := by
  subst e
  intro q hq
  obtain ⟨r, hr, rfl⟩ := List.mem_map.1 hq
  obtain ⟨⟨a0, a1⟩, ⟨b0, b1⟩, hne, h3, h4⟩ := h r hr
  refine ⟨?_, h3, h4⟩
  show 0 ≤ min r.a r.b ∧ min r.a r.b < max r.a r.b ∧ max r.a r.b < (ev : Int)
  omega
theorem small_11 {ls : List Int} (h : ∀ x ∈ ls, 0 ≤ x ∧ x ≤ 11) : smallD ls := fun i => by
  have := getD_bd (B := 11) (by omega) h i
  omega
theorem leastTo_bd {l : List Q4} {sp late : List Int} (hl : ∀ q ∈ l, q.c ≤ q.d) (hs : smallD sp) (h : smallD late) (i k : Nat) : 0 ≤ leastTo l late sp i k ∧ leastTo l late sp i k ≤ 1000 := by
  induction k with
  | zero => exact h i
  | succ k ih =>
    rw [leastTo]
    split
    · rename_i q hq
      have hm := hl q (List.mem_of_getElem? hq)
      split
      · have := hs q.a.toNat; omega
      · exact ih
    · exact ih
theorem spread_any (w : World) (v u : Value) (l : List Q4) (ls : List Int) (hl : l.length ≤ 4) (hq : ∀ q ∈ l, (0 ≤ q.a ∧ q.a < q.b ∧ q.b < (ls.length : Int)) ∧ (0 ≤ q.c ∧ q.c ≤ 8) ∧ (q.c ≤ q.d ∧ q.d ≤ q.c + 8)) (hls : ∀ x ∈ ls, 0 ≤ x ∧ x ≤ 11) (h1 : 1 ≤ ls.length) (h5 : ls.length ≤ 5)
    (s : Sl w 4 v l.length (q4s l)) (t : Sl w 1 u ls.length (ls.map vi)) :
    Calls Try.prog 10 #[.int .i64 ls.length, v, u] w (OutL 2 1 ls.length ((outD l ls ls.length).map vi) (fun z => .tuple #[z, .bool true]) w) := by
  have h := SpreadDelays_any w (ls.length : Int) ⟨by omega, by omega⟩ v l (fun q hm => by
    obtain ⟨⟨a0, a1, a2⟩, ⟨c0, c1⟩, d0, d1⟩ := hq q hm
    exact ⟨⟨by omega, by omega⟩, ⟨by omega, by omega⟩, ⟨by omega, by omega⟩, ⟨by omega, by omega⟩⟩) (by omega) s u ls (fun x hx => i64_small (hls x hx) (by omega)) (by omega) t
  have r1 : rulesB (ls.length : Int) 60 l = true := by
    simp only [rulesB, Bool.and_eq_true, decide_eq_true_eq, List.all_eq_true]
    refine ⟨inR_iff.2 ⟨by omega, by omega⟩, by decide, by omega, fun q hm => ?_⟩
    obtain ⟨⟨a0, a1, a2⟩, ⟨c0, c1⟩, d0, d1⟩ := hq q hm
    simp only [ruleB, Bool.and_eq_true, inR_iff, Bool.not_eq_true', beq_eq_false_iff_ne]
    omega
  have r2 : manyIn ls (ls.length : Int) (ls.length : Int) 0 1000 = true := by
    simp only [manyIn, Bool.and_eq_true, decide_eq_true_eq, List.all_eq_true]
    refine ⟨Int.le_refl _, Int.le_refl _, fun x hx => ?_⟩
    have := hls x hx
    exact inR_iff.2 ⟨by omega, by omega⟩
  have r3 : laterB l = true := by
    rw [laterB, List.all_eq_true]
    intro q hm
    exact decide_eq_true (hq q hm).1.2.1
  have e : MD (ls.length : Int) l ls = (outD l ls ls.length, true) := by rw [MD, r1, r2, r3]; rfl
  rw [e] at h
  dsimp only at h
  rw [outD_len] at h
  exact h
theorem stored2 {w : World} {base N cap g j : Nat} {l' : List Q4} {q : Q4} (ho : w.ownsRow base 33 4 (.slice (some ⟨g, 0, none⟩) N cap) N (q4s l')) (hq : l'[j]? = some q) (m : Nat) (x y : Int) :
    (((w.drewN m).setCell ⟨g, j * 4, none⟩ (.int .i64 x)).setCell ⟨g, j * 4 + 1, none⟩ (.int .i64 y)).ownsRow base 33 4 (.slice (some ⟨g, 0, none⟩) N cap) N (q4s (l'.set j ⟨x, y, q.c, q.d⟩)) ∧
    w.grownBy (((w.drewN m).setCell ⟨g, j * 4, none⟩ (.int .i64 x)).setCell ⟨g, j * 4 + 1, none⟩ (.int .i64 y)) (some g) := by
  have h1 := (own_d1 (a := m) ho).stored (j * 4) (.int .i64 x)
  have h2 := h1.1.stored (j * 4 + 1) (.int .i64 y)
  rw [q4s_set2 l' j q x y hq] at h2
  exact ⟨h2.1, (below_all (below_drewN (Below.refl _ w) m) (some g)).trans (h1.2.trans h2.2)⟩
set_option maxHeartbeats 8000000 in
set_option maxRecDepth 100000 in
theorem walk (w : World) (v0 : Value) (x0 : List Nat) (i0 : ∀ x ∈ x0, x < 256) (s0 : Sl w 1 v0 x0.length (bys x0)) (v1 : Value) (x1 : List Nat) (i1 : ∀ x ∈ x1, x < 256) (s1 : Sl w 1 v1 x1.length (bys x1)) :
    Calls Try.prog 3 #[v0, v1] w fun e w' => e = .returned (.bool true) ∧ Below w.heap.size w w' := by
  have L := hd (b10Long_any v0 v1 x0 x1 w s0 s1)
  have AC := hd (fun w' (h : Below w.heap.size w w') k n hn hn2 hk => b10At_any v0 x0 i0 k n hn hn2 hk w' (s0.below h))
  have AM := hd (fun w' (h : Below w.heap.size w w') k n hn hn2 hk => b10At_any v1 x1 i1 k n hn hn2 hk w' (s1.below h))
  have RL := hd (fun w' (h : Below w.heap.size w w') ev e1 e2 => B10Rules_any v0 x0 i0 w' (s0.below h) ev e1 e2)
  clear s0 s1 i0 i1
  go_enter Try.func3, Try.ntmps3
  go_wp2_with fail
  refine L.out.mono ?_; rintro e w' ⟨b, rfl, hw⟩; replace hw := hw.symm; subst hw
  cases b with
  | true =>
    go_wp2
    go_ret
    exact ⟨rfl, Below.refl _ _⟩
  | false =>
  clear L
  go_wp2_with fail
  refine (AM.out w (Below.refl _ _) 0 6 (by omega) (by omega) (by omega)).mono ?_; rintro e w' ⟨n0, hn0, rfl, hw⟩; replace hw := hw.symm; subst hw
  go_wp2
  obtain ⟨n, hn⟩ : ∃ n : Nat, (n : Int) = 1 + (n0 : Int) := ⟨1 + n0, by push_cast; rfl⟩
  rw [← hn]
  have n1 : 1 ≤ n := by omega
  have n6 : n ≤ 6 := by omega
  clear hn hn0
  go_loopw [6, 7, 8] (fun R tot i wr => ∃ (k : Nat) (rs : List Int), k ≤ n ∧ i = .int .i64 k ∧ Hid (rs.length = k) ∧ Hid (∀ x ∈ rs, 0 ≤ x ∧ x ≤ 8) ∧ tot = .int .i64 (preT rs rs.length) ∧ wr.ownsRow w.heap.size 2 1 R k (rs.map vi) ∧ Below w.heap.size w wr) (fun _ _ i _ => n - (intOf i).toNat)
  case atStart =>
    have hstart := World.ownsRow_made (base := w.heap.size) (size := 1) w #[] 0 (Nat.le_refl _) (by unfold maxLen; omega) rfl (e := 2)
    exact ⟨0, [], by omega, rfl, hd rfl, hd (fun x hx => by cases hx), rfl, by simpa using hstart, (Below.refl _ _).alloc (Nat.le_refl _) _⟩
  case round =>
    obtain ⟨k, rs, hk, rfl, HLn, HV, rfl, ho, hB⟩ := hrel
    by_cases hlt : k < n
    · have HO := hd ho
      have HB := hd hB
      have b1 := preT_bd (getD_bd (B := 8) (by omega) HV.out) rs.length
      rw [HLn.out] at b1
      have b2 : preT rs rs.length = preT rs k := by rw [HLn.out]
      rw [b2]
      have HT := hd (fun q : Int => tot_snoc rs q)
      rw [b2] at HT
      clear ho hB b2
      generalize preT rs k = T at *
      go_wp2_with fail
      refine (AC.out wr HB.out k 9 (by omega) (by omega) (by omega)).mono ?_; rintro e w' ⟨q, hq, rfl, hw⟩; replace hw := hw.symm; subst hw
      go_wp2_with (at_builtin; go_must (refine wpList_app_int _ _ _ rfl _ _ rfl w.heap.size k _ _ rfl HO.out rfl _ rfl (by simp) (by omega) HB.out.size ?_); intro v' w1 ho1 hg1 hap; have HO1 := hd ho1; have HB1 := hd (below_row hg1 HB.out (own_row HO.out (Nat.le_refl _))); obtain ⟨A2, cap2, rfl, hcap2, hr2, hA2⟩ := own_rd ho1 (by unfold maxLen; omega); have hr2' : Rd w1 1 A2 (k + 1) ((rs ++ [(q : Int)]).map vi) := (by simpa [vi] using hr2); obtain ⟨b2, o2, rfl, hc2⟩ := hr2'.int (show k < k + 1 by omega); rw [show (rs ++ [(q : Int)]).getD k 0 = (q : Int) by rw [← HLn.out, List.getD_eq_getElem?_getD, List.getElem?_append_right (Nat.le_refl _)]; simp] at hc2; clear ho1 hg1 hap hr2 hr2' hA2)
      go_roundw
      case rel =>
        refine ⟨k + 1, rs ++ [(q : Int)], by omega, by go_num, hd (by simp [HLn.out]), hd ?_, by rw [HT.out], ?_, HB1.out⟩
        · intro x hx
          rcases List.mem_append.1 hx with h | h
          · exact HV.out x h
          · obtain rfl := List.mem_singleton.1 h
            omega
        · have := HO1.out
          simpa [vi] using this
      case measure => simp [intOf]; omega
    · have e : k = n := by omega
      subst e
      have hl := HLn.out
      subst hl
      clear HLn hlt hk
      obtain ⟨A, cap, rfl, hcap, hr⟩ := own_sl ho (size_le (show rs.length ≤ 1048576 by omega))
      have HR := hd (show Sl wr 1 (.slice A rs.length cap) rs.length (rs.map vi) from ⟨A, cap, rfl, hcap, hr⟩)
      have HD := getD_bd (B := 8) (by omega) HV.out
      have HD0 := hd (fun k => (HD k).1)
      have LH := implHead_any _ _ rs rs wr HR.out HR.out n1 (by omega) rfl HV.out HV.out
      rw [head_max HD0.out n1] at LH
      have F1 := hd (fun (s t : Int) (hs : 0 ≤ s) => two_first (t := t) hs HD0.out n1)
      have F2 := hd (fun (s : Int) (hs : 0 ≤ s) => two_far hs HD0.out n1)
      have F3 := hd (fun (s : Int) (hs : 0 ≤ s) h0 => two_near hs HD0.out n1 h0)
      have t1 := preT_bd HD rs.length
      have m1 := topTo_le (by omega) (fun k => (HD k).2) rs.length
      have m0 := (topTo_ge (rs := rs) rs.length).1
      have HB := hd hB
      have LH := hd LH
      have HDD := hd HD
      clear hr ho hB HD hcap
      obtain ⟨M, hM⟩ : ∃ M, M = topTo rs rs.length := ⟨_, rfl⟩
      obtain ⟨T, hT⟩ : ∃ T, T = preT rs rs.length := ⟨_, rfl⟩
      rw [← hM] at LH F2 F3 m0 m1
      rw [← hT] at F1 F2 F3 t1
      rw [← hT]
      have EM := hd hM
      clear hM hT
      go_wp2_with fail
      refine LH.out.mono ?_; rintro e W2 ⟨rfl, hb⟩
      have HR2 := hd (HR.out.below hb)
      have HB2 := hd (below_tr hb HB.out)
      clear hb LH HR HB
      go_wp2_with fail
      refine (AM.out W2 HB2.out 1 20 (by omega) (by omega) (by omega)).mono ?_; rintro e w' ⟨s, hs, rfl, hw⟩; replace hw := hw.symm; subst hw
      go_wp2_with fail
      refine (two_any (W2.alloc (.cells #[.int .i64 s, .int .i64 ((s : Int) + M)] 2)) _ _ rs s ((s : Int) + M) HV.out n1 (by omega) (by omega) (by omega) (HR2.out.below ((Below.refl _ _).alloc (Nat.le_refl _) _)) (sl_two W2 _ s ((s : Int) + M))).mono ?_
      rintro e W3 ⟨u, rfl, hot, hb⟩
      have HB3 := hd (below_tr hb (HB2.out.alloc HB2.out.size _))
      have HR3 := hd ((HR2.out.below ((Below.refl _ _).alloc (Nat.le_refl _) (.cells #[.int .i64 s, .int .i64 ((s : Int) + M)] 2))).below hb)
      obtain ⟨A3, cap3, rfl, hcap3, hr3⟩ := own_sl hot (size_le (show 2 * rs.length ≤ 1048576 by omega))
      obtain ⟨b3, o3, rfl, hc3⟩ := hr3.int (show rs.length - 1 < 2 * rs.length by omega)
      obtain ⟨b3', o3', e3, hc3'⟩ := hr3.int (show 2 * rs.length - 1 < 2 * rs.length by omega)
      cases e3
      rw [F1.out s _ (by omega)] at hc3
      rw [F2.out s (by omega)] at hc3'
      have z1 : (rs.length : Int) - 1 = ((rs.length - 1 : Nat) : Int) := by omega
      have z2 : 2 * (rs.length : Int) - 1 = ((2 * rs.length - 1 : Nat) : Int) := by omega
      clear hb hot hr3 HB2 HR2
      go_wp2
      clear hc3 hc3' z1 z2 F1 F2
      go_loopw [14, 118] (fun m i wr => ∃ k : Nat, k ≤ rs.length ∧ i = .int .i64 k ∧ m = .int .i64 (topTo rs k) ∧ wr = W3) (fun _ i _ => rs.length - (intOf i).toNat)
      case atStart => exact ⟨0, by omega, rfl, rfl, rfl⟩
      case round =>
        obtain ⟨k, hk, rfl, rfl, rfl⟩ := hrel
        by_cases hlt : k < rs.length
        · obtain ⟨_, _, e, _, hr⟩ := id HR3.out
          cases e
          obtain ⟨bR, oR, rfl, hc⟩ := hr.int hlt
          have E := hd (show topTo rs (k + 1) = max (topTo rs k) (rs.getD k 0) from rfl)
          clear hr
          generalize rs.getD k 0 = x at *
          obtain ⟨m', hm'⟩ : ∃ m', m' = topTo rs (k + 1) := ⟨_, rfl⟩
          rw [← hm'] at E
          have M' := hd hm'
          clear hm'
          generalize topTo rs k = m at *
          go_wp2
          go_roundw
          case rel => exact ⟨k + 1, by omega, by go_num, by rw [← M'.out, E.out]; congr 1; split <;> omega, by trivial⟩
          case measure => simp [intOf]; omega
        · have e : k = rs.length := by omega
          subst e
          rw [← EM.out]
          clear EM hlt hk
          rcases Int.lt_or_le 0 M with hM | hM
          focus
            go_wp2_with fail
            refine (two_any (wr.alloc (.cells #[.int .i64 s, .int .i64 ((s : Int) + M - 1)] 2)) _ _ rs s ((s : Int) + M - 1) HV.out n1 (by omega) (by omega) (by omega) (HR3.out.below ((Below.refl _ _).alloc (Nat.le_refl _) _)) (sl_two wr _ s ((s : Int) + M - 1))).mono ?_
            rintro e W4 ⟨u, rfl, hot, hb⟩
            have HB4 := hd (below_tr hb (HB3.out.alloc HB3.out.size _))
            have HR4 := hd ((HR3.out.below ((Below.refl _ _).alloc (Nat.le_refl _) (.cells #[.int .i64 s, .int .i64 ((s : Int) + M - 1)] 2))).below hb)
            obtain ⟨A4, cap4, rfl, hcap4, hr4⟩ := own_sl hot (size_le (show 2 * rs.length ≤ 1048576 by omega))
            obtain ⟨b4, o4, rfl, hc4⟩ := hr4.int (show 2 * rs.length - 1 < 2 * rs.length by omega)
            rw [F3.out s (by omega) hM] at hc4
            have z2 : 2 * (rs.length : Int) - 1 = ((2 * rs.length - 1 : Nat) : Int) := by omega
            clear hb hot hr4 HB3 HR3
            go_wp2
            clear hc4 z2 F3
          rotate_left
          focus
            have hM2 : ¬ (0 : Int) < M := by omega
            go_wp2
            have HB4 := HB3
            have HR4 := HR3
            clear HB3 HR3
            generalize hW4 : wr = W4 at *
            clear hW4 F3
          all_goals
            go_loopw [18, 19] (fun O i wr => ∃ (k : Nat) (os : List Int), k ≤ rs.length ∧ i = .int .i64 k ∧ Hid (os.length = k) ∧ Hid (∀ x ∈ os, 0 ≤ x ∧ x ≤ 8) ∧ wr.ownsRow W4.heap.size 2 1 O k (os.map vi) ∧ Below W4.heap.size W4 wr) (fun _ i _ => rs.length - (intOf i).toNat)
            case atStart =>
              have hstart := World.ownsRow_made (base := W4.heap.size) (size := 1) W4 #[] 0 (Nat.le_refl _) (by unfold maxLen; omega) rfl (e := 2)
              exact ⟨0, [], by omega, rfl, hd rfl, hd (fun x hx => by cases hx), by simpa using hstart, (Below.refl _ _).alloc (Nat.le_refl _) _⟩
            case round =>
              obtain ⟨k, os, hk, rfl, HLo, HVo, ho, hB⟩ := hrel
              by_cases hlt : k < rs.length
              · have HO := hd ho
                have HB := hd hB
                have hk6 : k ≤ 6 := by omega
                have X := AM.out wr (below_tr HB.out HB4.out) (2 + k) 9 (by omega) (by omega) (by omega)
                rw [show ((2 + k : Nat) : Int) = 2 + (k : Int) by push_cast; rfl] at X
                have X := hd X
                clear ho hB
                go_wp2_with fail
                refine X.out.mono ?_; rintro e w' ⟨q, hq, rfl, hw⟩; replace hw := hw.symm; subst hw
                go_wp2_with (at_builtin; go_must (refine wpList_app_int _ _ _ rfl _ _ rfl W4.heap.size k _ _ rfl HO.out rfl _ rfl (by simp) (by omega) HB.out.size ?_); intro v' w1 ho1 hg1 hap; have HO1 := hd ho1; have HB1 := hd (below_row hg1 HB.out (own_row HO.out (Nat.le_refl _))); clear ho1 hg1 hap)
                go_roundw
                case rel =>
                  refine ⟨k + 1, os ++ [(q : Int)], by omega, by go_num, hd (by simp [HLo.out]), hd ?_, ?_, HB1.out⟩
                  · intro x hx
                    rcases List.mem_append.1 hx with h | h
                    · exact HVo.out x h
                    · obtain rfl := List.mem_singleton.1 h
                      omega
                  · have := HO1.out
                    simpa [vi] using this
                case measure => simp [intOf]; omega
              · have e : k = rs.length := by omega
                have hl := HLo.out.trans e
                subst e
                clear HLo hlt hk
                obtain ⟨Ao, capo, rfl, hcapo, hro⟩ := own_sl ho (size_le (show rs.length ≤ 1048576 by omega))
                have HS0 := hd (HR4.out.below hB)
                have HS1 := hd (show Sl wr 1 (.slice Ao rs.length capo) os.length (os.map vi) by rw [hl]; exact ⟨_, _, rfl, hcapo, hro⟩)
                have LI := hd (fun w' h => implHead_any _ _ rs os w' (HS0.out.below (w := wr) (w' := w') h) (HS1.out.below h) n1 (by omega) hl HV.out HVo.out)
                have LS := fun w' h => specHead_any _ _ rs os w' (HS0.out.below (w := wr) (w' := w') h) (HS1.out.below h) n1 (by omega) hl HV.out HVo.out
                rw [head_sameL rs os n1] at LS
                have LS := hd LS
                generalize headI rs os rs.length = H2 at *
                have HB5 := hd (below_tr hB HB4.out)
                clear ho hB hro hl HR4 HB4
                go_wp2_with fail
                refine (LI.out wr (Below.refl _ _)).mono ?_; rintro e W5 ⟨rfl, hb5⟩
                have HB6 := hd (below_tr hb5 HB5.out)
                have Hb5 := hd hb5
                clear hb5
                go_wp2_with fail
                refine (LS.out W5 Hb5.out).mono ?_; rintro e W6 ⟨rfl, hb6⟩
                have HB7 := hd (below_tr hb6 HB6.out)
                clear hb6 HB6 Hb5 LI LS HS0 HS1 HB5
                go_wp2_with fail
                refine (AM.out W6 HB7.out 9 5 (by omega) (by omega) (by omega)).mono ?_; rintro e w' ⟨ev0, hev0, rfl, hw⟩; replace hw := hw.symm; subst hw
                obtain ⟨ev, hev⟩ : ∃ n : Nat, (n : Int) = 1 + (ev0 : Int) := ⟨1 + ev0, by push_cast; rfl⟩
                have ev1 : 1 ≤ ev := by omega
                have ev5 : ev ≤ 5 := by omega
                have RLx := hd (RL.out W6 HB7.out ev ev1 ev5)
                go_wp2_with fail
                rw [← hev]
                clear hev hev0
                refine RLx.out.mono ?_; rintro e W7 ⟨l, u, rfl, hl4, hlo, hou, hb7⟩
                have HB8 := hd (below_tr hb7 HB7.out)
                have HOu := hd hou
                have HLO := hd hlo
                have hw6 := HB7.out.size
                clear hou hb7 hlo HB7 RLx RL AC
                go_wp2
                go_loopw [26, 27] (fun O i wr => ∃ (k : Nat) (ls : List Int), k ≤ ev ∧ i = .int .i64 k ∧ Hid (ls.length = k) ∧ Hid (∀ x ∈ ls, 0 ≤ x ∧ x ≤ 11) ∧ wr.ownsRow W7.heap.size 2 1 O k (ls.map vi) ∧ Below W7.heap.size W7 wr) (fun _ i _ => ev - (intOf i).toNat)
                case atStart =>
                  have hstart := World.ownsRow_made (base := W7.heap.size) (size := 1) W7 #[] 0 (Nat.le_refl _) (by unfold maxLen; omega) rfl (e := 2)
                  exact ⟨0, [], by omega, rfl, hd rfl, hd (fun x hx => by cases hx), by simpa using hstart, (Below.refl _ _).alloc (Nat.le_refl _) _⟩
                case round =>
                  obtain ⟨k, ls, hk, rfl, HLl, HVl, ho, hB⟩ := hrel
                  by_cases hlt : k < ev
                  · have HO := hd ho
                    have HB := hd hB
                    have X := AM.out wr (below_tr HB.out HB8.out) (10 + k) 12 (by omega) (by omega) (by omega)
                    rw [show ((10 + k : Nat) : Int) = 10 + (k : Int) by push_cast; rfl] at X
                    have X := hd X
                    clear ho hB
                    go_wp2_with fail
                    refine X.out.mono ?_; rintro e w' ⟨q, hq, rfl, hw⟩; replace hw := hw.symm; subst hw
                    go_wp2_with (at_builtin; go_must (refine wpList_app_int _ _ _ rfl _ _ rfl W7.heap.size k _ _ rfl HO.out rfl _ rfl (by simp) (by omega) HB.out.size ?_); intro v' w1 ho1 hg1 hap; have HO1 := hd ho1; have HB1 := hd (below_row hg1 HB.out (own_row HO.out (Nat.le_refl _))); clear ho1 hg1 hap)
                    go_roundw
                    case rel =>
                      refine ⟨k + 1, ls ++ [(q : Int)], by omega, by go_num, hd (by simp [HLl.out]), hd ?_, ?_, HB1.out⟩
                      · intro x hx
                        rcases List.mem_append.1 hx with h | h
                        · exact HVl.out x h
                        · obtain rfl := List.mem_singleton.1 h
                          omega
                      · have := HO1.out
                        simpa [vi] using this
                    case measure => simp [intOf]; omega
                  · have e : k = ev := by omega
                    subst e
                    clear hlt hk AM
                    obtain ⟨Al, capl, rfl, hcapl, hrl, hAl⟩ := own_rd ho (size_le (show k ≤ 1048576 by omega))
                    obtain ⟨ga, rfl, hga, _⟩ : ∃ ga, Al = some ⟨ga, 0, none⟩ ∧ W7.heap.size ≤ ga ∧ ga < wr.heap.size := by
                      rcases hAl with ⟨_, h0⟩ | h
                      · omega
                      · exact h
                    clear hAl
                    have hou := own_below HOu.out hB
                    have HBw := hd (below_tr hB HB8.out)
                    obtain ⟨Au, capu, rfl, hcapu, hru, hAu⟩ := own_rd hou (by unfold maxLen; omega)
                    have HLT := hd (World.ownsRow.lt HOu.out)
                    have hl4' := hl4
                    generalize hN : l.length = N at *
                    have HN := hd hN
                    clear hN hru HOu HB8
                    have HSl := hd (show Sl wr 1 (.slice (some ⟨ga, 0, none⟩) k capl) k (ls.map vi) from ⟨_, _, rfl, hcapl, hrl⟩)
                    clear ho hB hrl
                    go_wp2
                    go_loopw [206] (fun i wr' => ∃ (j : Nat) (l' : List Q4), j ≤ N ∧ i = .int .i64 j ∧ Hid (Swapped l l' j) ∧ wr'.ownsRow W6.heap.size 33 4 (.slice Au N capu) N (q4s l') ∧ Hid (Sl wr' 1 (.slice (some ⟨ga, 0, none⟩) k capl) k (ls.map vi)) ∧ Below w.heap.size w wr') (fun i _ => N - (intOf i).toNat)
                    case atStart => exact ⟨0, l, by omega, rfl, hd (swapped_start l), hou, HSl, HBw.out⟩
                    case round =>
                      clear HSl HBw hou
                      obtain ⟨j, l', hj, rfl, HSw, hou, HSl, hBw⟩ := hrel
                      by_cases hlt : j < N
                      · have HO := hd hou
                        obtain ⟨_, _, e, _, hru, hA⟩ := own_rd hou (by unfold maxLen; omega)
                        cases e
                        obtain ⟨g, rfl, hg1, _⟩ : ∃ g, Au = some ⟨g, 0, none⟩ ∧ W6.heap.size ≤ g ∧ g < wr.heap.size := by
                          rcases hA with ⟨_, h0⟩ | h
                          · omega
                          · exact h
                        obtain ⟨b, off, qa, qb, qc, qd, e, Hq, c0, c1, c2, c3⟩ := hru.q4 hlt
                        cases e
                        rw [Nat.zero_add] at c0 c1 c2 c3
                        have hgl : g < W7.heap.size := (HLT.out g rfl).2
                        have Hs := hd (swapped_step HSw.out Hq.out)
                        have hqq := HLO.out _ (List.mem_of_getElem? ((HSw.out.2.2 j (Nat.le_refl _)).symm.trans Hq.out))
                        obtain ⟨⟨a0, a1⟩, ⟨p0, p1⟩, hne, _, _⟩ := hqq
                        dsimp only at a0 a1 p0 p1 hne
                        have HBw := hd hBw
                        clear hou hru hA hBw
                        have fz0 := HO.out.frozenAt (j * 4)
                        have fz1 := HO.out.frozenAt (j * 4 + 1)
                        have hwg : w.heap.size ≤ g := by omega
                        rcases Int.lt_or_lt_of_ne hne with hlt2 | hlt2
                        · have S := hd (fun m => stored2 HO.out Hq.out m qa qb)
                          have es := hd (show sortQ ⟨qa, qb, qc, qd⟩ = ⟨qa, qb, qc, qd⟩ by show (⟨min qa qb, max qa qb, qc, qd⟩ : Q4) = _; rw [Int.min_eq_left (by omega), Int.max_eq_right (by omega)])
                          go_wp2
                          go_quiet (fail)
                          go_wp2
                          go_quiet (fail)
                          go_wp2
                          go_roundw
                          case rel => exact ⟨j + 1, _, by omega, by go_num, hd (es.out ▸ Hs.out), (S.out _).1, hd (sl_grown HSl.out (fun A n cap e _ e2 => by cases e; simp at e2; omega) (S.out _).2), below_row (S.out _).2 HBw.out (fun q e => by cases e; exact hwg)⟩
                          case measure => simp [intOf]; omega
                        · have S := hd (fun m => stored2 HO.out Hq.out m qb qa)
                          have es := hd (show sortQ ⟨qa, qb, qc, qd⟩ = ⟨qb, qa, qc, qd⟩ by show (⟨min qa qb, max qa qb, qc, qd⟩ : Q4) = _; rw [Int.min_eq_right (by omega), Int.max_eq_left (by omega)])
                          go_wp2
                          go_quiet (fail)
                          go_wp2
                          go_quiet (fail)
                          go_wp2
                          go_roundw
                          case rel => exact ⟨j + 1, _, by omega, by go_num, hd (es.out ▸ Hs.out), (S.out _).1, hd (sl_grown HSl.out (fun A n cap e _ e2 => by cases e; simp at e2; omega) (S.out _).2), below_row (S.out _).2 HBw.out (fun q e => by cases e; exact hwg)⟩
                          case measure => simp [intOf]; omega
                      · have e : j = N := by omega
                        have HO := hd hou
                        have HBw := hd hBw
                        have hsw := HSw.out
                        rw [e, ← HN.out] at hsw
                        have hl2 := swapped_end hsw
                        subst e
                        clear hou hBw hsw HSw hlt hj
                        have hlk := HLl.out
                        subst hlk
                        have hrl := rules_sorted HLO.out hl2
                        have hll : l'.length = j := by rw [hl2, List.length_map]; exact HN.out
                        have HRu := hd (show Sl wr 4 (.slice Au j capu) l'.length (q4s l') by rw [hll]; exact own_sl HO.out (by unfold maxLen; omega))
                        have HSP := hd (spread_any wr _ _ l' ls (by omega) hrl HVl.out (by omega) ev5 HRu.out HSl.out)
                        have HLE := hd (fun i (hi : i < ls.length) => spread_least (l := l') (late := ls) (fun q hq => ⟨(hrl q hq).1.1, (hrl q hq).1.2.1⟩) hi)
                        have HRL := hd hrl
                        have HSM := hd (outD_small (l := l') (fun q hq => (hrl q hq).2.2.1) (late := ls) (small_11 HVl.out) ls.length)
                        have HLN := hd (outD_len l' ls ls.length)
                        clear hl2 hrl HLO HLl HN HO
                        go_wp2_with fail
                        refine HSP.out.mono ?_; rintro e W8 ⟨z, rfl, hoz, hb⟩
                        have HR8 := hd (HRu.out.below hb)
                        have HS8 := hd (HSl.out.below hb)
                        have HB9 := hd (below_tr hb HBw.out)
                        obtain ⟨Az, capz, rfl, hcapz, hrz⟩ := own_sl hoz (size_le (show ls.length ≤ 1048576 by omega))
                        have HZ := hd hrz
                        clear hrz hb hoz HSP HRu HSl HBw
                        generalize outD l' ls ls.length = sp at *
                        have HLB := hd (leastTo_bd (l := l') (sp := sp) (late := ls) (fun q hq => (HRL.out q hq).2.2.1) HSM.out (small_11 HVl.out))
                        subst hll
                        go_wp2
                        go_loopw [272] (fun i wr' => ∃ (i0 m : Nat), i0 ≤ ls.length ∧ i = .int .i64 i0 ∧ wr' = W8.drewN m) (fun i _ => ls.length - (intOf i).toNat)
                        case atStart => exact ⟨0, 0, by omega, rfl, rfl⟩
                        case round =>
                          obtain ⟨i0, m0, hi0, rfl, hw⟩ := hrel
                          by_cases hlt : i0 < ls.length
                          · obtain ⟨_, _, e, _, hrl8⟩ := id HS8.out
                            cases e
                            obtain ⟨bl, ol, e, hcl⟩ := hrl8.int hlt
                            cases e
                            obtain ⟨bz, oz, rfl, hcz⟩ := HZ.out.int hlt
                            rw [HLE.out i0 hlt] at hcz
                            subst hw
                            clear hrl8
                            have e0 : ls.getD i0 0 = leastTo l' ls sp i0 0 := rfl
                            rw [e0, Nat.zero_add] at hcl
                            go_wp2
                            go_loopw [34, 281] (fun lst k wr' => ∃ (k0 m : Nat), k0 ≤ l'.length ∧ k = .int .i64 k0 ∧ lst = .int .i64 (leastTo l' ls sp i0 k0) ∧ wr' = W8.drewN m) (fun _ k _ => l'.length - (intOf k).toNat)
                            case atStart => exact ⟨0, m0, by omega, rfl, rfl, rfl⟩
                            case round =>
                              clear hcl e0
                              obtain ⟨k0, m1, hk0, rfl, rfl, hw⟩ := hrel
                              by_cases hlt2 : k0 < l'.length
                              · subst hw
                                obtain ⟨_, _, e, _, hru8⟩ := id HR8.out
                                cases e
                                obtain ⟨bu, ou, qa, qb, qc, qd, rfl, Hq, c0, c1, c2, c3⟩ := hru8.q4 hlt2
                                obtain ⟨⟨a0, a1, a2⟩, ⟨p0, p1⟩, d0, d1⟩ := HRL.out _ (List.mem_of_getElem? Hq.out)
                                dsimp only at a0 a1 a2 p0 p1 d0 d1
                                have x01 := HLB.out i0 k0
                                clear hru8 hcz
                                by_cases hb : qb = (i0 : Int)
                                · subst hb
                                  obtain ⟨na, rfl⟩ := Int.eq_ofNat_of_zero_le a0
                                  obtain ⟨b', o', e, hcn⟩ := HZ.out.int (show na < ls.length by omega)
                                  cases e
                                  have E := hd (show leastTo l' ls sp i0 (k0 + 1) = max (leastTo l' ls sp i0 k0) (sp.getD na 0 - (qd - qc)) by
                                    rw [leastTo, Hq.out]
                                    simp only
                                    rw [if_pos trivial]
                                    rfl)
                                  have y01 := HSM.out na
                                  generalize sp.getD na 0 = y at *
                                  obtain ⟨x', hx'⟩ : ∃ x', x' = leastTo l' ls sp i0 (k0 + 1) := ⟨_, rfl⟩
                                  rw [← hx'] at E
                                  have X' := hd hx'
                                  clear hx'
                                  generalize leastTo l' ls sp i0 k0 = x at *
                                  go_wp2
                                  go_quiet (fail)
                                  go_wp2
                                  go_roundw
                                  case rel => exact ⟨k0 + 1, _, by omega, by go_num, by rw [← X'.out, E.out]; congr 1; split <;> omega, rfl⟩
                                  case measure => simp [intOf]; omega
                                · have E := hd (show leastTo l' ls sp i0 (k0 + 1) = leastTo l' ls sp i0 k0 by
                                    rw [leastTo, Hq.out]
                                    simp only
                                    rw [if_neg hb])
                                  go_wp2
                                  go_roundw
                                  case rel => exact ⟨k0 + 1, m1, by omega, by go_num, by rw [E.out], rfl⟩
                                  case measure => simp [intOf]; omega
                              · have e : k0 = l'.length := by omega
                                subst e
                                subst hw
                                go_wp2
                                go_roundw
                                case rel => exact ⟨i0 + 1, m1, by omega, by go_num, rfl⟩
                                case measure => simp [intOf]; omega
                          · subst hw
                            go_wp2
                            go_ret
                            exact ⟨rfl, below_drewN HB9.out _⟩

theorem own : ownKnob Try.prog.godebug = none := by kernel_rfl
theorem laidOut : laidOutB Try.prog = true := by kernel_rfl

set_option maxRecDepth 100000 in
theorem lifted (os : Os) (started : os.Started) (H : Type) (enc : TypeId × Value → H) :
    ReturnsInHanded {} Try.checked os 3 .any (Rows.fnBlocksSpec.pre6 enc Try.prog Try.f3 Rows.fnBlocksRow.domain false) (Rows.fnBlocksSpec.post enc Try.prog Try.f3 false true false false) := by
  refine returnsInHanded_of_change (C := Try.checked) own started (by as_aux_lemma => kernel_rfl) Try.func3
    (ChangeSpec.witness6 (enc := enc) (C := Try.checked) false ⟨#[], #[.slice none 0 0, .slice none 0 0], []⟩ 8 (by as_aux_lemma => kernel_rfl) (by as_aux_lemma => kernel_rfl) (by as_aux_lemma => kernel_rfl) (by as_aux_lemma => kernel_rfl)) ?_
  intro W base args ds gs before hval0 hW hcnd _
  have hval : ∀ (j : Nat) t v, Try.f3.params[j]? = some t → args[j]? = some v → Value.okWide Try.prog W .any base t v := hval0
  have hW' := hW
  obtain ⟨p, q, hA0, hV, rfl, hfz, hnd⟩ := hW
  have hA : DataW.TrodAll enc Try.prog W 0 (fun _ => true) true Try.f3.params.toList args.toList ds p := hA0
  rw [Try.params3] at hA hval
  obtain ⟨v0, vs0, d0, ds0, p0, q0, hargs, rfl, rfl, h0, r0⟩ := trodAll_cons hA
  obtain ⟨v1, vs1, d1, ds1, p1, q1, rfl, rfl, rfl, h1, r1⟩ := trodAll_cons r0
  obtain ⟨rfl, rfl, rfl⟩ := trodAll_nil r1
  obtain rfl : args = #[v0, v1] := by cases args; simp_all
  obtain ⟨rfl, rfl⟩ := trodVars_none hV
  have k0 := h0
  have lt0 : ∀ x ∈ p0, x.block < W.heap.size := by obtain ⟨m, hm⟩ := k0; exact DataW.trod_lt m _ _ _ hm
  obtain ⟨s0, len0, cap0, rfl⟩ := okWide_slice Try.underlying22 (hval 0 22 v0 rfl rfl)
  obtain ⟨x0, _, i0, w0⟩ := arg_bytes Try.underlying22 Try.underlying5 (by as_aux_lemma => kernel_rfl) h0
  have k1 := h1
  have lt1 : ∀ x ∈ p1, x.block < W.heap.size := by obtain ⟨m, hm⟩ := k1; exact DataW.trod_lt m _ _ _ hm
  obtain ⟨s1, len1, cap1, rfl⟩ := okWide_slice Try.underlying22 (hval 1 22 v1 rfl rfl)
  obtain ⟨x1, _, i1, w1⟩ := arg_bytes Try.underlying22 Try.underlying5 (by as_aux_lemma => kernel_rfl) h1
  clear hA0 hval0
  refine (walk W _ x0 i0 w0 _ x1 i1 w1).mono fun e W' ⟨he, bel⟩ => ?_
  subst he
  exact ⟨_, rfl, _, _, _, [], _, [], hW', trodAll_mk1 (shut_bool Try.underlying4 _), (trodAll_cons_mk (Below.trod laidOut (by as_aux_lemma => kernel_rfl) (of_decide_eq_true (by as_aux_lemma => kernel_rfl)) k0 bel lt0) (trodAll_cons_mk (Below.trod laidOut (by as_aux_lemma => kernel_rfl) (of_decide_eq_true (by as_aux_lemma => kernel_rfl)) k1 bel lt1) (trodAll_mk0))), rfl, bel.frame _, fun h => by cases h⟩

/-- The given statement. -/
theorem proved : Rows.FnBlocksSaid :=
  OpenClaim.holds_of_wide 3 Try.f3 rfl rfl rfl rfl rfl rfl rfl ⟨rfl, rfl, rfl, rfl, rfl⟩ rfl rfl rfl rfl rfl (by kernel_rfl) Try.func3 (by kernel_rfl)
    (of_decide_eq_true (by kernel_rfl)) (by unfold Func.isWrapper; first | (rw [if_pos (by decide +kernel)]; kernel_rfl) | (rw [if_neg (by decide +kernel)]; exact ⟨rfl, rfl⟩))
    (fun os started H enc _ => lifted os started H enc)
#print axioms proved

end Go.Proofs.Ytnfgnlhpjhndfaa.lFnBlocks
