/- Shifts, the reference's side: the place behind a slot, and a count added to its place. -/
import Derived.Test.YtldehffhpblliaaProg
import Derived.Test.YtldehffhpblliaaCrews
import Derived.Test.YtldehffhpblliaaShiftT
import Derived.Test.YtldehffhpblliaaStoreBox
import Derived.Test.YtldehffhpblliaaApp
import Derived.Test.YtldehffhpblliaaMaxMin
import Derived.Sort.AtCall
namespace Go.Proofs.Ytldehffhpblliaa
open Go.RowKit Plain
set_option linter.unusedVariables false
set_option linter.unusedSimpArgs false
attribute [local go_sem ↓] Go.wp_at_zero Go.wp_at_succ

set_option maxHeartbeats 1000000 in
theorem goes_free (g o : Nat) (a b c : Int) (h1 : -1 ≤ c) (h2 : c ≤ 24) (w : World) :
    Calls Try.prog 57 #[.pointer (some ⟨g, o, none⟩), .agg #[.int .i64 a, .int .i64 b, .int .i64 c], .bool false] w fun r w' => r = .returned (.tuple #[.agg #[.int .i64 a, .int .i64 0, .int .i64 (if 0 ≤ c then c + 1 else c)], .bool true]) ∧ Below w.heap.size w w' := by
  by_cases h : 0 ≤ c
  · rw [if_pos h]
    go_enter Try.func57, Try.ntmps57
    go_wp2
    refine bodyPost_ret (by simp [results, Try.results57, go_sem] <;> rfl) rfl ⟨rfl, ?_⟩
    go_grown
  · rw [if_neg h]
    go_enter Try.func57, Try.ntmps57
    go_wp2
    refine bodyPost_ret (by simp [results, Try.results57, go_sem] <;> rfl) rfl ⟨rfl, ?_⟩
    go_grown
set_option maxHeartbeats 1000000 in
theorem goes_no (g o : Nat) (R : SR) (a b c : Int) (w : World) (hr : SRat w g o R) (h0 : 0 < c) (h1 : c < R.pause) :
    Calls Try.prog 57 #[.pointer (some ⟨g, o, none⟩), .agg #[.int .i64 a, .int .i64 b, .int .i64 c], .bool true] w fun r w' => r = .returned (.tuple #[.agg #[.int .i64 a, .int .i64 b, .int .i64 c], .bool false]) ∧ Below w.heap.size w w' := by
  obtain ⟨e0, e1, e2, e3, e4⟩ := hr
  have hgl := block_lt_of_cell e0
  generalize R.pause = pause at *
  clear e0 e1 e2 e3
  go_enter Try.func57, Try.ntmps57
  go_wp2
  go_quiet (fail)
  go_wp2
  refine bodyPost_ret (by simp [results, Try.results57, go_sem] <;> rfl) rfl ⟨rfl, ?_⟩
  go_grown
  refine below_drewN ?_ _
  go_grown
set_option maxHeartbeats 2000000 in
theorem goes_yes (g o : Nat) (R : SR) (a b c : Int) (w : World) (hr : SRat w g o R) (ha : 0 ≤ a) (ha2 : a ≤ 24) (hb : 0 ≤ b) (hb2 : b ≤ 24) (h0 : (decide (0 < c) && decide (c < R.pause)) = false) :
    Calls Try.prog 57 #[.pointer (some ⟨g, o, none⟩), .agg #[.int .i64 a, .int .i64 b, .int .i64 c], .bool true] w fun r w' => r = .returned (.tuple #[.agg #[.int .i64 (a + 1), .int .i64 (b + 1), .int .i64 0], .bool (decide (a + 1 ≤ R.most) && decide (b + 1 ≤ R.row))]) ∧ Below w.heap.size w w' := by
  obtain ⟨e0, e1, e2, e3, e4⟩ := hr
  have hgl := block_lt_of_cell e0
  obtain ⟨slots, least, most, row, pause⟩ := R
  simp only at *
  clear e0 e1
  by_cases q3 : a + 1 ≤ most <;> by_cases q4 : b + 1 ≤ row
  all_goals
    by_cases q1 : 0 < c
    · have q2 : ¬ c < pause := by simpa [q1] using h0
      clear h0
      go_enter Try.func57, Try.ntmps57
      go_wp2
      go_quiet (fail)
      go_wp2
      first
        | (have q6 : decide (a + 1 ≤ most) = false := by rw [decide_eq_false_iff_not]; omega
           go_region)
        | go_region
      go_wp2
      refine bodyPost_ret (by simp [results, Try.results57, go_sem] <;> rfl) rfl ⟨?_, ?_⟩
      · simp [*]
      · go_grown
        refine below_drewN ?_ _
        go_grown
    · clear h0
      go_enter Try.func57, Try.ntmps57
      go_wp2
      have q5 : decide (0 < c) = false := by rw [decide_eq_false_iff_not]; omega
      go_quiet (fail)
      go_wp2
      first
        | (have q6 : decide (a + 1 ≤ most) = false := by rw [decide_eq_false_iff_not]; omega
           go_region)
        | go_region
      go_wp2
      refine bodyPost_ret (by simp [results, Try.results57, go_sem] <;> rfl) rfl ⟨?_, ?_⟩
      · simp [*]
      · go_grown
        refine below_drewN ?_ _
        go_grown
/-- the cells of the places -/
def ptC (p : ShiftPt) : List Value := [.int .i64 p.w, .int .i64 p.r, .int .i64 p.f]
def flatP (l : List (ShiftPt × Int)) : List Value := l.flatMap fun x => ptC x.1
def cntP (l : List (ShiftPt × Int)) : List Value := l.map fun x => vi x.2
theorem flatP_cons (x : ShiftPt × Int) (l : List (ShiftPt × Int)) : flatP (x :: l) = .int .i64 x.1.w :: .int .i64 x.1.r :: .int .i64 x.1.f :: flatP l := by simp [flatP, ptC]
theorem flatP_app (l m : List (ShiftPt × Int)) : flatP (l ++ m) = flatP l ++ flatP m := by simp [flatP]
theorem flatP_len (l : List (ShiftPt × Int)) : (flatP l).length = l.length * 3 := by
  induction l with
  | nil => rfl
  | cons x l ih => rw [flatP_cons]; simp only [List.length_cons, ih]; omega
theorem flatP_get {l : List (ShiftPt × Int)} {k : Nat} {x : ShiftPt × Int} (hk : l[k]? = some x) (j : Nat) (hj : j < 3) : (flatP l)[k * 3 + j]? = (ptC x.1)[j]? := by
  induction l generalizing k with
  | nil => simp at hk
  | cons y l ih =>
    cases k with
    | zero =>
      simp at hk
      subst hk
      rw [flatP_cons]
      match j, hj with
      | 0, _ => rfl
      | 1, _ => rfl
      | 2, _ => rfl
    | succ k =>
      rw [flatP_cons, show (k + 1) * 3 + j = k * 3 + j + 1 + 1 + 1 by omega, List.getElem?_cons_succ, List.getElem?_cons_succ, List.getElem?_cons_succ]
      exact ih (by simpa using hk)
theorem flatP_set {l : List (ShiftPt × Int)} {k : Nat} {x : ShiftPt × Int} (hk : l[k]? = some x) (c : Int) : flatP (l.set k (x.1, c)) = flatP l := by
  induction l generalizing k with
  | nil => simp at hk
  | cons y l ih =>
    cases k with
    | zero => simp at hk; subst hk; rw [List.set_cons_zero, flatP_cons, flatP_cons]
    | succ k => rw [List.set_cons_succ, flatP_cons, flatP_cons, ih (by simpa using hk)]
theorem cntP_set (l : List (ShiftPt × Int)) (k : Nat) (p : ShiftPt) (c : Int) : cntP (l.set k (p, c)) = (cntP l).set k (vi c) := by simp [cntP, List.map_set]
/-- place k -/
theorem Rd.p3 {w : World} {A : Option Addr} {n : Nat} {l : List (ShiftPt × Int)} (h : Rd w 3 A n (flatP l)) {k : Nat} (hk : k < n) : ∃ b off qa qb qc q, A = some ⟨b, off, none⟩ ∧ Hid (l[k]? = some (⟨qa, qb, qc⟩, q)) ∧
    w.cell? ⟨b, off + k * 3, none⟩ = some (.int .i64 qa) ∧ w.cell? ⟨b, off + k * 3 + 1, none⟩ = some (.int .i64 qb) ∧ w.cell? ⟨b, off + k * 3 + 2, none⟩ = some (.int .i64 qc) := by
  obtain ⟨h1, _, h2⟩ := h
  obtain ⟨b, off, hA, hc⟩ := h2 (by omega)
  rw [flatP_len] at h1
  have hl : k < l.length := by omega
  have e := List.getElem?_eq_getElem hl
  refine ⟨b, off, l[k].1.w, l[k].1.r, l[k].1.f, l[k].2, hA, hd e, hc (k * 3 + 0) _ ?_, ?_, ?_⟩
  · rw [flatP_get e 0 (by omega)]; rfl
  · rw [Nat.add_assoc]; exact hc (k * 3 + 1) _ (by rw [flatP_get e 1 (by omega)]; rfl)
  · rw [Nat.add_assoc]; exact hc (k * 3 + 2) _ (by rw [flatP_get e 2 (by omega)]; rfl)
theorem cntP_int {w : World} {A : Option Addr} {n : Nat} {l : List (ShiftPt × Int)} (h : Rd w 1 A n (cntP l)) {k : Nat} (hk : k < n) {p : ShiftPt} {q : Int} (hq : l[k]? = some (p, q)) : ∃ b off, A = some ⟨b, off, none⟩ ∧ w.cell? ⟨b, off + k, none⟩ = some (.int .i64 q) := by
  obtain ⟨h1, _, h2⟩ := h
  obtain ⟨b, off, hA, hc⟩ := h2 (by omega)
  exact ⟨b, off, hA, hc k _ (by simp [cntP, hq, vi])⟩

theorem info_place : (Try.prog.info? 78).map (fun i => (i.zero, i.size, i.bytes)) = some (some (.agg #[.int .i64 0, .int .i64 0, .int .i64 0]), 3, 24) := by kernel_rfl
theorem cell_three_new (w : World) (x y z : Value) (t : TypeId) : ∀ j u, [x, y, z][j]? = some u → (w.alloc (.cells #[x, y, z] t)).cell? ((⟨w.heap.size, 0, none⟩ : Addr).add j) = some u := by
  intro j u hj
  match j, hj with
  | 0, hj => simp at hj; subst hj; simp [Addr.add]
  | 1, hj => simp at hj; subst hj; simp [Addr.add]
  | 2, hj => simp at hj; subst hj; simp [Addr.add]
theorem wpList_app_place {ops : Array Oper} {rest : List Oper} {o : Oper} {a : Act} {Q : Exit → Act → World → Prop} (w : World) (T : TypeId) (x0 x1 x2 : Int) (hgd : o.guard = none) (s x : Operand)
    (ho : o.op = .call { callee := .builtin .append, args := #[s, x], argTypes := #[95, 95] }) (base n : Nat) (v : Value) (xs : List Value) (hs : a.eval s = v) (hown : w.ownsRow base 78 3 v n xs)
    (g : Nat) (hx : a.eval x = .slice (some ⟨g, 0, none⟩) 1 1) (hg : w.heap.size = g) (hn : n ≤ 67108864) (hbase : base ≤ w.heap.size)
    (h : ∀ v' w', w'.ownsRow base 78 3 v' (n + 1) (xs ++ [.int .i64 x0, .int .i64 x1, .int .i64 x2]) → w.grownBy w' v.ownBlock → Apart w v v' → wpList Try.prog ops Q rest (a.put o.dst v') w') :
    wpList Try.prog ops Q (o :: rest) a (w.alloc (.cells #[.int .i64 x0, .int .i64 x1, .int .i64 x2] T)) := by
  subst hg
  obtain ⟨i0, hi, hz0, hz1, hz2⟩ := info_parts info_place
  refine wpList_append_own_at _ hgd s x 95 ho base 78 i0 _ 3 24 Try.underlying95 hi hz0 hz1 hz2 rfl (by decide) v n xs hs (hown.alloc _) ⟨w.heap.size, 0, none⟩ 1 1 [.int .i64 x0, .int .i64 x1, .int .i64 x2] hx rfl (cell_three_new _ _ _ _ _) (by intro u hu; simp at hu; rcases hu with rfl | rfl | rfl <;> rfl) (by unfold maxLen; omega) (by omega) (Nat.le_trans hbase (by simp)) ?_
  intro v' w' h2 h3 _ h5
  exact h v' w' h2 ((below_all ((Below.refl _ w).alloc (Nat.le_refl _) _) _).trans h3) (apart_of (by simp) h5)
theorem wpList_app_intL {ops : Array Oper} {rest : List Oper} {o : Oper} {a : Act} {Q : Exit → Act → World → Prop} (w : World) (T : TypeId) (val : Value) (hgd : o.guard = none) (s x : Operand)
    (ho : o.op = .call { callee := .builtin .append, args := #[s, x], argTypes := #[24, 24] }) (base n : Nat) (v : Value) (xs : List Value) (hs : a.eval s = v) (hown : w.ownsRow base 2 1 v n xs)
    (h1 : val.oneCell' = true) (g : Nat) (hx : a.eval x = .slice (some ⟨g, 0, none⟩) 1 1) (hg : w.heap.size = g) (hn : n ≤ 67108864) (hbase : base ≤ w.heap.size)
    (h : ∀ v' w', w'.ownsRow base 2 1 v' (n + 1) (xs ++ [val]) → w.grownBy w' v.ownBlock → Apart w v v' → wpList Try.prog ops Q rest (a.put o.dst v') w') :
    wpList Try.prog ops Q (o :: rest) a (w.alloc (.cells #[val] T)) := by
  subst hg
  obtain ⟨i0, hi, hz0, hz1, hz2⟩ := info_parts info_int
  refine wpList_append_own_at _ hgd s x 24 ho base 2 i0 (.int .i64 0) 1 8 Try.underlying24 hi hz0 hz1 hz2 rfl (by decide) v n xs hs (hown.alloc _) ⟨w.heap.size, 0, none⟩ 1 1 [val] hx rfl (cell_one_new _ _ _) (one_cellB h1) (by unfold maxLen; omega) (by omega) (Nat.le_trans hbase (by simp)) ?_
  intro v' w' h2 h3 _ h5
  exact h v' w' h2 ((below_all ((Below.refl _ w).alloc (Nat.le_refl _) _) _).trans h3) (apart_of (by simp) h5)
/-- are two places one? -/
def ptEq (a b c a' b' c' : Int) : Bool := decide ((⟨a, b, c⟩ : ShiftPt) = ⟨a', b', c'⟩)
theorem own_drewN {w : World} {base size n : Nat} {e : TypeId} {v : Value} {xs : List Value} (h : w.ownsRow base e size v n xs) (k : Nat) : (w.drewN k).ownsRow base e size v n xs := h
theorem ptEq_t {a b c a' b' c' : Int} (h : ptEq a b c a' b' c' = true) : (⟨a, b, c⟩ : ShiftPt) = ⟨a', b', c'⟩ := of_decide_eq_true h
theorem ptEq_f {a b c a' b' c' : Int} (h : ptEq a b c a' b' c' = false) : ¬ (⟨a, b, c⟩ : ShiftPt) = ⟨a', b', c'⟩ := of_decide_eq_false h
theorem eqPlace_run (a b c a' b' c' : Int) (w : World) : (binOp .eql 78 (.agg #[.int .i64 a, .int .i64 b, .int .i64 c]) (.agg #[.int .i64 a', .int .i64 b', .int .i64 c'])).run Try.prog w = .ok (.bool (ptEq a b c a' b' c')) w := by
  by_cases e1 : a = a'
  · by_cases e2 : b = b'
    · by_cases e3 : c = c' <;> simp [go_sem, *, ptEq]
    · simp [go_sem, *, ptEq]
  · simp [go_sem, *, ptEq]
set_option maxHeartbeats 2000000 in
set_option maxRecDepth 100000 in
theorem l06Add_any (v u : Value) (l : List (ShiftPt × Int)) (pw pr pf c : Int) (B : Nat) (w : World) (hB : B ≤ w.heap.size) (ho : w.ownsRow B 78 3 v l.length (flatP l)) (hu : w.ownsRow B 2 1 u l.length (cntP l)) (hdj : Dj v u)
    (hn : l.length ≤ 33554432) (hc : 0 ≤ c ∧ c ≤ 33554432) (hl : ∀ x ∈ l, 0 ≤ x.2 ∧ x.2 ≤ 33554432) :
    Calls Try.prog 59 #[v, u, .agg #[.int .i64 pw, .int .i64 pr, .int .i64 pf], .int .i64 c] w fun r w' => ∃ v' u', r = .returned (.tuple #[v', u']) ∧
      w'.ownsRow B 78 3 v' (addC l ⟨pw, pr, pf⟩ c).length (flatP (addC l ⟨pw, pr, pf⟩ c)) ∧ w'.ownsRow B 2 1 u' (addC l ⟨pw, pr, pf⟩ c).length (cntP (addC l ⟨pw, pr, pf⟩ c)) ∧ Dj v' u' ∧ Below B w w' := by
  have HO := hd ho; have HU := hd hu; have HDJ := hd hdj; have HL := hd hl
  obtain ⟨A, cap, rfl, hcap, hrd, hA⟩ := own_rd ho (by unfold maxLen; omega)
  obtain ⟨A', cap', rfl, hcap', hrd', hA'⟩ := own_rd hu (by unfold maxLen; omega)
  have HR := hd hrd; have HR' := hd hrd'
  clear ho hu hdj hl hrd hrd'
  generalize hnn : l.length = n at *
  have Hn := hd hnn
  have hcb := hc.1; have hcc := hc.2
  clear hnn hc
  go_enter Try.func59, Try.ntmps59
  go_wp2
  go_loopw [10] (fun i wr => ∃ k : Nat, k ≤ n ∧ i = .int .i64 k ∧ Hid (∀ (j : Nat) x, j < k → l[j]? = some x → x.1 ≠ ⟨pw, pr, pf⟩) ∧ ∃ m, wr = (w.alloc (.cells #[.int .i64 pw, .int .i64 pr, .int .i64 pf] 78)).drewN m) (fun i _ => n - (intOf i).toNat)
  case atStart => exact ⟨0, by omega, rfl, hd (fun j x h => absurd h (Nat.not_lt_zero _)), 0, rfl⟩
  case round =>
    obtain ⟨k, hk, rfl, HX, m, hwr⟩ := hrel
    have HOW := hd (show wr.ownsRow B 78 3 (.slice A n cap) n (flatP l) by rw [hwr]; exact own_drewN (HO.out.alloc _) _)
    have HUW := hd (show wr.ownsRow B 2 1 (.slice A' n cap') n (cntP l) by rw [hwr]; exact own_drewN (HU.out.alloc _) _)
    have HBW := hd (show Below w.heap.size w wr by rw [hwr]; exact below_drewN ((Below.refl _ _).alloc (Nat.le_refl _) _) _)
    have e0 : wr.cell? ⟨w.heap.size, 0, none⟩ = some (.int .i64 pw) := by rw [hwr]; exact (World.cell?_alloc_new ..).trans rfl
    have e1 : wr.cell? ⟨w.heap.size, 1, none⟩ = some (.int .i64 pr) := by rw [hwr]; exact (World.cell?_alloc_new ..).trans rfl
    have e2 : wr.cell? ⟨w.heap.size, 2, none⟩ = some (.int .i64 pf) := by rw [hwr]; exact (World.cell?_alloc_new ..).trans rfl
    have hsz : w.heap.size < wr.heap.size := by rw [hwr]; exact (show w.heap.size < (w.alloc _).heap.size by simp)
    have HWR := hd hwr
    clear hwr
    by_cases hlt : k < n
    · obtain ⟨g, rfl, hg1, hg2⟩ : ∃ g, A = some ⟨g, 0, none⟩ ∧ B ≤ g ∧ g < w.heap.size := by
        rcases hA with ⟨rfl, _⟩ | h
        · obtain ⟨_, _, h, _⟩ := HR.out.2.2 (by omega); cases h
        · exact h
      obtain ⟨g', rfl, hg1', hg2'⟩ : ∃ g, A' = some ⟨g, 0, none⟩ ∧ B ≤ g ∧ g < w.heap.size := by
        rcases hA' with ⟨rfl, _⟩ | h
        · obtain ⟨_, _, h, _⟩ := HR'.out.2.2 (by omega); cases h
        · exact h
      obtain ⟨b, off, qa, qb, qc, q, hAe, hq, c0, c1, c2⟩ := (HR.out.below HBW.out).p3 hlt
      cases hAe
      obtain ⟨b', off', hAe, d0⟩ := cntP_int (HR'.out.below HBW.out) hlt hq.out
      cases hAe
      simp only [Nat.zero_add] at c0 c1 c2 d0
      have hql := HL.out _ (List.mem_of_getElem? hq.out)
      simp only at hql
      have i1 : (0 : Int) ≤ (k : Int) := by omega
      have i2 : (k : Int) < (n : Int) := by omega
      have heq := eqPlace_run qa qb qc pw pr pf
      cases he : ptEq qa qb qc pw pr pf with
      | false =>
        have HE := hd he
        simp only [he] at heq
        clear he
        go_wp2
        go_quiet (fail)
        clear heq
        go_wp2
        go_roundw
        case rel =>
          refine ⟨k + 1, by omega, by go_num, hd ?_, ?_⟩
          · intro j x hj hx
            by_cases hjk : j = k
            · subst hjk
              have e := Option.some.inj (hx.symm.trans hq.out)
              rw [e]
              exact ptEq_f HE.out
            · exact HX.out j x (by omega) hx
          · rw [HWR.out]
            first | exact ⟨_, rfl⟩ | exact drew2 _ _ _
        case measure => simp [intOf]; try omega
      | true =>
        have HE := hd he
        simp only [he] at heq
        clear he
        go_wp2
        go_quiet (fail)
        clear heq
        go_wp2_with ((with_reducible refine wpList_store_own _ B 2 1 n cap' g' _ (own_drewN HUW.out _) size_int k (.int .i64 (q + c)) ?_ ?_ ?_ ?_ ?_); exact rfl; exact rfl; exact rfl; omega; intro w6 ho7 hg7)
        have hpe := ptEq_t HE.out
        have hqq : l[k]? = some ((⟨pw, pr, pf⟩ : ShiftPt), q) := hpe ▸ hq.out
        have hset := addC_hit hqq HX.out c
        refine bodyPost_ret (by simp [results, Try.results59, go_sem] <;> rfl) rfl ⟨_, _, rfl, ?_, ?_, HDJ.out, ?_⟩
        · rw [hset, List.length_set, Hn.out, flatP_set hqq]
          exact own_kept (u := .slice (some ⟨g', 0, none⟩) n cap') (own_drewN HOW.out _) hg7 HDJ.out
        · rw [hset, List.length_set, Hn.out, cntP_set]
          exact ho7
        · exact ((below_drewN HBW.out _).mono hB).grown hg7 (by have := HBW.out.size; exact Nat.le_trans hB this) (fun k hk => by cases hk; exact hg1')
    · have e : k = n := by omega
      subst e
      clear hA hA'
      go_wp2_with (first
        | (at_builtin; refine wpList_app_place _ _ _ _ _ rfl _ _ rfl B k (.slice A k cap) _ rfl HOW.out _ rfl rfl (by omega) (Nat.le_trans hB HBW.out.size) ?_; intro v1 w1 ho1 hg1 hap1; have hs1 := hg1.size)
        | (at_builtin; go_must (refine wpList_app_intL _ _ _ rfl _ _ rfl B k (.slice A' k cap') _ rfl (own_kept HUW.out hg1 (dj_symm HDJ.out)) rfl _ rfl rfl (by omega) (Nat.le_trans hB (Nat.le_trans HBW.out.size hs1)) ?_); intro u1 w2 hu1 hg2 hap2))
      have hmiss := addC_miss (l := l) (p := ⟨pw, pr, pf⟩) (fun j x hj hx => HX.out j x (by rw [Hn.out] at hj; exact hj) hx) c
      have d1 := hap1 _ (own_in HUW.out) (dj_symm HDJ.out)
      refine bodyPost_ret (by simp [results, Try.results59, go_sem] <;> rfl) rfl ⟨_, _, rfl, ?_, ?_, hap2 _ (own_in ho1) (dj_symm d1), ?_⟩
      · rw [hmiss, List.length_append, Hn.out, flatP_app]
        exact own_kept ho1 hg2 (dj_symm d1)
      · rw [hmiss, List.length_append, Hn.out, cntP, List.map_append]
        exact hu1
      · exact ((HBW.out.mono hB).grown hg1 (Nat.le_trans hB HBW.out.size) (own_row HOW.out (Nat.le_refl _))).grown hg2 (Nat.le_trans hB (Nat.le_trans HBW.out.size hs1)) (own_row HUW.out (Nat.le_refl _))
end Go.Proofs.Ytldehffhpblliaa
