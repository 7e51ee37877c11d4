/- Whatever rules, period, ring and directions are given, the program's RingGap and the reference's return the same two numbers and bool, and the law's own copies are left as they were: the law returns true. No condition. -/
import Derived.Test.YtahhmpaaggeakaaRows
import Derived.Test.YtahhmpaaggeakaaRules
import Derived.Test.YtahhmpaaggeakaaRingT
import Derived.Test.YtahhmpaaggeakaaQSlice
import Derived.Test.YtahhmpaaggeakaaBSlice
import Derived.Test.YtahhmpaaggeakaaApp
import Derived.Test.YtahhmpaaggeakaaStoreOwn
import Derived.OwnWalk
import Derived.Test.YtahhmpaaggeakaaOpen
import Derived.Test.YtahhmpaaggeakaaOpen2
namespace Go.Proofs.Ytahhmpaaggeakaa.lFnExactRingGap
open Go.ChangeShapes Go.WideShapes Go.ChangeAt Go.RowKit Go.Proofs.Ytahhmpaaggeakaa Plain
set_option linter.unusedVariables false
set_option linter.unusedSimpArgs false
attribute [local go_sem ↓] Go.wp_at_zero Go.wp_at_succ

def condR (l : List Q4) (p : Int) (r : List Int) (al : List Bool) : Bool := rulesB 12 p l && (manyIn r 1 32 0 ((l.length : Int) - 1) && decide (al.length = r.length))
def M (l : List Q4) (p : Int) (r : List Int) (al : List Bool) : Int × Int × Bool :=
  if condR l p r al && (chainB l r al r.length && (lkTo l r al (r.length - 1) == lkFrom l r al 0 && decide (upM (lowS l r al r.length) p ≤ downM (highS l r al r.length) p)))
  then (upM (lowS l r al r.length) p, downM (highS l r al r.length) p, true) else (0, 0, false)
theorem M_cond {l : List Q4} {p : Int} {r : List Int} {al : List Bool} (h : condR l p r al = false) : M l p r al = (0, 0, false) := by rw [M, h]; rfl
theorem M_chain {l : List Q4} {p : Int} {r : List Int} {al : List Bool} (h : chainB l r al r.length = false) : M l p r al = (0, 0, false) := by rw [M, h, Bool.false_and, Bool.and_false]; rfl
theorem M_end {l : List Q4} {p : Int} {r : List Int} {al : List Bool} (h : ¬ lkTo l r al (r.length - 1) = lkFrom l r al 0) : M l p r al = (0, 0, false) := by
  rw [M, show (lkTo l r al (r.length - 1) == lkFrom l r al 0) = false by simpa using h, Bool.false_and, Bool.and_false, Bool.and_false]; rfl
theorem M_gap {l : List Q4} {p : Int} {r : List Int} {al : List Bool} (h : ¬ upM (lowS l r al r.length) p ≤ downM (highS l r al r.length) p) : M l p r al = (0, 0, false) := by
  rw [M, decide_eq_false h, Bool.and_false, Bool.and_false, Bool.and_false]; rfl
theorem M_yes {l : List Q4} {p : Int} {r : List Int} {al : List Bool} (h1 : condR l p r al = true) (h2 : chainB l r al r.length = true) (h3 : lkTo l r al (r.length - 1) = lkFrom l r al 0) (h4 : upM (lowS l r al r.length) p ≤ downM (highS l r al r.length) p) :
    M l p r al = (upM (lowS l r al r.length) p, downM (highS l r al r.length) p, true) := by
  rw [M, h1, h2, decide_eq_true h4, show (lkTo l r al (r.length - 1) == lkFrom l r al 0) = true by simpa using h3]; rfl
/-- what stands in the two places behind k links -/
def stZ (z : Int) (l : List Q4) (r : List Int) (al : List Bool) (k : Nat) : Int := if k = 0 then z else lkFrom l r al 0
def atZ (z : Int) (l : List Q4) (r : List Int) (al : List Bool) (k : Nat) : Int := if k = 0 then z else lkTo l r al (k - 1)
def usedL (r : List Int) (m k : Nat) : List Bool := (List.range m).map fun (i : Nat) => (r.take k).contains (i : Int)
theorem used_zero (r : List Int) (m : Nat) : usedL r m 0 = List.replicate m false := by
  apply List.ext_getElem?
  intro j
  by_cases h : j < m <;> simp [usedL, h]
theorem used_get {r : List Int} {m k i : Nat} (h : i < m) : (usedL r m k)[i]? = some ((r.take k).contains (i : Int)) := by simp [usedL, h]
theorem used_step {r : List Int} {m k x : Nat} (h : r[k]? = some (x : Int)) : (usedL r m k).set x true = usedL r m (k + 1) := by
  apply List.ext_getElem?
  intro j
  rw [List.getElem?_set]
  by_cases hj : j < m
  · rw [used_get hj, used_get hj, List.take_add_one, h]
    by_cases e : x = j
    · subst e; simp [usedL, hj]
    · have : ¬ (j : Int) = (x : Int) := by omega
      rw [if_neg e]
      simp [this]
  · have h1 : ∀ q, (usedL r m q)[j]? = none := fun q => List.getElem?_eq_none (by simp [usedL]; omega)
    rw [h1, h1]
    by_cases e : x = j
    · subst e; simp [usedL, hj]
    · simp [e]
/-- what a link is, told by its rule -/
theorem link_t {l : List Q4} {r : List Int} {al : List Bool} {k x : Nat} {a b c d : Int} (h1 : r.getD k 0 = (x : Int)) (h2 : l[x]? = some ⟨a, b, c, d⟩) (h3 : al.getD k false = true) :
    lkFrom l r al k = a ∧ lkTo l r al k = b ∧ lkLow l r al k = c ∧ lkHigh l r al k = d := by
  simp only [lkFrom, lkTo, lkLow, lkHigh, h1, Int.toNat_natCast, h2, h3, if_true, and_self]
theorem link_f {l : List Q4} {r : List Int} {al : List Bool} {k x : Nat} {a b c d : Int} (h1 : r.getD k 0 = (x : Int)) (h2 : l[x]? = some ⟨a, b, c, d⟩) (h3 : al.getD k false = false) :
    lkFrom l r al k = b ∧ lkTo l r al k = a ∧ lkLow l r al k = -d ∧ lkHigh l r al k = -c := by
  simp only [lkFrom, lkTo, lkLow, lkHigh, h1, Int.toNat_natCast, h2, h3]
  simp
theorem chain_used {l : List Q4} {r : List Int} {al : List Bool} {k : Nat} (h : (r.take k).contains (r.getD k 0) = true) : chainB l r al (k + 1) = false := by
  rw [chainB, h]; simp
theorem chain_apart {z : Int} {l : List Q4} {r : List Int} {al : List Bool} {k : Nat} (h0 : ¬ k = 0) (h : ¬ lkFrom l r al k = atZ z l r al k) : chainB l r al (k + 1) = false := by
  rw [atZ, if_neg h0] at h
  rw [chainB]; simp [h0, h]
theorem chain_on {z : Int} {l : List Q4} {r : List Int} {al : List Bool} {k : Nat} (h : chainB l r al k = true) (hu : (r.take k).contains (r.getD k 0) = false) (h1 : k = 0 ∨ lkFrom l r al k = atZ z l r al k) : chainB l r al (k + 1) = true := by
  rw [chainB, h, hu]
  rcases h1 with h1 | h1
  · simp [h1]
  · by_cases h0 : k = 0
    · simp [h0]
    · rw [atZ, if_neg h0] at h1
      simp [h1]
theorem sums_bd {l : List Q4} {p : Int} {r : List Int} {al : List Bool} (h : rulesB 12 p l = true) (k : Nat) : (-120 * (k : Int) ≤ lowS l r al k ∧ lowS l r al k ≤ 120 * k) ∧ (-120 * (k : Int) ≤ highS l r al k ∧ highS l r al k ≤ 120 * k) := by
  induction k with
  | zero => simp [lowS, highS]
  | succ k ih =>
    have hp : p ≤ 60 := by
      simp only [rulesB, Bool.and_eq_true, inR_iff] at h
      omega
    have hq : ∀ q ∈ l, 0 ≤ q.c ∧ q.c ≤ 60 ∧ 0 ≤ q.d ∧ q.d ≤ 120 := by
      intro q hq
      simp only [rulesB, Bool.and_eq_true, List.all_eq_true] at h
      have := h.2.2.2 q hq
      simp only [ruleB, Bool.and_eq_true, inR_iff, Bool.not_eq_true', beq_eq_false_iff_ne] at this
      omega
    have b1 : -120 ≤ lkLow l r al k ∧ lkLow l r al k ≤ 120 := by
      unfold lkLow
      split
      · rename_i q e
        have := hq q (List.mem_of_getElem? e)
        split <;> omega
      · omega
    have b2 : -120 ≤ lkHigh l r al k ∧ lkHigh l r al k ≤ 120 := by
      unfold lkHigh
      split
      · rename_i q e
        have := hq q (List.mem_of_getElem? e)
        split <;> omega
      · omega
    rw [lowS, highS]
    omega

set_option maxHeartbeats 4000000 in
set_option maxRecDepth 100000 in
theorem impl_any (w : World) (v : Value) (l : List Q4) (_i : ∀ q ∈ l, q.I64) (_b : l.length ≤ 1048576) (s : Sl w 4 v l.length (q4s l)) (p : Int) (_p : I64 p) (u : Value) (r : List Int) (_j : ∀ x ∈ r, I64 x) (_c : r.length ≤ 1048576) (t : Sl w 1 u r.length (r.map vi)) (z : Value) (al : List Bool) (_k : ∀ x ∈ al, True) (_d : al.length ≤ 1048576) (tz : Sl w 1 z al.length (al.map vb)) :
    Calls Try.prog 56 #[v, .int .i64 p, u, z] w fun e w' => e = .returned (.tuple #[.int .i64 (M l p r al).1, .int .i64 (M l p r al).2.1, .bool (M l p r al).2.2]) ∧ Below w.heap.size w w' := by
  have A1 := hd (AreRules_any 12 v l p w s)
  have A2 := hd (fun w' h => areMany_any u r 1 32 0 ((l.length : Int) - 1) w' (t.below h))
  clear _i _j _k
  obtain ⟨A, cap, rfl, hcap, hr⟩ := s
  obtain ⟨Ar, capr, rfl, hcapr, hrr⟩ := t
  obtain ⟨Aa, capa, rfl, hcapa, hra⟩ := tz
  have hm0 := hr.2.1
  have hm1 := hrr.2.1
  have hm2 := hra.2.1
  unfold maxLen at hm0 hm1 hm2
  cases h1 : rulesB 12 p l with
  | false =>
    have H := hd (M_cond (r := r) (al := al) (show condR l p r al = false by rw [condR, h1]; rfl))
    rw [h1] at A1
    clear h1
    go_enter Try.func56, Try.ntmps56
    go_wp2_with (first | (go_at_call 94; refine A1.out.mono ?_; rintro e w' ⟨rfl, hb⟩))
    go_ret3
    rw [H.out]
    exact ⟨rfl, hb⟩
  | true =>
    rw [h1] at A1
    cases h2 : manyIn r 1 32 0 ((l.length : Int) - 1) with
    | false =>
      have H := hd (M_cond (al := al) (show condR l p r al = false by rw [condR, h1, h2]; rfl))
      rw [h2] at A2
      clear h1 h2
      go_enter Try.func56, Try.ntmps56
      go_wp2_with (first | (go_at_call 94; refine A1.out.mono ?_; rintro e w' ⟨rfl, hb⟩) | (go_at_call 65; refine (A2.out _ hb).mono ?_; rintro e w' ⟨rfl, rfl⟩))
      go_ret3
      rw [H.out]
      exact ⟨rfl, hb⟩
    | true =>
      rw [h2] at A2
      by_cases h3 : al.length = r.length
      · have hc : condR l p r al = true := by rw [condR, h1, h2, decide_eq_true h3]; rfl
        have HC := hd (fun h => M_chain (l := l) (p := p) (r := r) (al := al) h)
        have HE := hd (fun h => M_end (l := l) (p := p) (r := r) (al := al) h)
        have HG := hd (fun h => M_gap (l := l) (p := p) (r := r) (al := al) h)
        have HY := hd (fun a b c => M_yes (l := l) (p := p) (r := r) (al := al) hc a b c)
        have BD := hd (sums_bd (r := r) (al := al) h1)
        have hp : 1 ≤ p ∧ p ≤ 60 := by
          simp only [rulesB, Bool.and_eq_true, inR_iff] at h1
          omega
        have hr32 : 1 ≤ r.length ∧ r.length ≤ 32 := by
          simp only [manyIn, Bool.and_eq_true, decide_eq_true_eq] at h2
          omega
        have hl32 : l.length ≤ 32 := by
          simp only [rulesB, Bool.and_eq_true, decide_eq_true_eq] at h1
          omega
        obtain ⟨p1, p2⟩ := hp
        obtain ⟨n1, n2⟩ := hr32
        have RX := hd (fun (k : Nat) (h : k < r.length) => (show ∃ x : Nat, r[k]? = some (x : Int) ∧ x < l.length from by
          simp only [manyIn, Bool.and_eq_true, List.all_eq_true, inR_iff] at h2
          have := h2.2.2 r[k] (List.getElem_mem _)
          exact ⟨r[k].toNat, by rw [List.getElem?_eq_getElem h]; congr 1; omega, by omega⟩))
        have LQ := hd (fun k (h : k < l.length) => (show ∃ a b c d, l[k]? = some (⟨a, b, c, d⟩ : Q4) from ⟨l[k].a, l[k].b, l[k].c, l[k].d, List.getElem?_eq_getElem h⟩))
        have RQ := hd (fun (k : Nat) a b c d (hq : l[k]? = some (⟨a, b, c, d⟩ : Q4)) => (show 0 ≤ c ∧ c ≤ 60 ∧ 0 ≤ d ∧ d ≤ 120 from by
          simp only [rulesB, Bool.and_eq_true, List.all_eq_true] at h1
          have := h1.2.2.2 _ (List.mem_of_getElem? hq)
          simp only [ruleB, Bool.and_eq_true, inR_iff, Bool.not_eq_true', beq_eq_false_iff_ne] at this
          omega))
        have CS := hd (fun k (h : chainB l r al k = false) hk => chain_stop (n := r.length) h hk)
        clear h1 h2 hc _p
        rw [h3] at hra hcapa
        generalize hn : r.length = n at *
        generalize hm : l.length = m at *
        have Hn := hd hn
        have Hm := hd hm
        clear hn hm
        rw [h3]
        have H3 := hd h3
        clear h3 _b _c _d
        go_enter Try.func56, Try.ntmps56
        go_wp2_with (first | (go_at_call 94; refine A1.out.mono ?_; rintro e w0 ⟨rfl, hb⟩) | (go_at_call 65; refine (A2.out _ hb).mono ?_; rintro e w1 ⟨rfl, rfl⟩) | (at_make; go_must (refine wpList_make_bool _ rfl _ rfl _ _ m rfl rfl (by omega) ?_); intro w2 ho2 hb2))
        clear A1 A2
        have hB2 := below_tr hb2 hb
        generalize hg : w0.heap.size = g at *
        have Hg := hd (show w.heap.size ≤ g by rw [← hg]; exact hb.size)
        have Ho := hd (own_mono ho2 Hg.out)
        have HB := hd hB2
        clear ho2 hb2 hb hB2 hg
        go_loopw [12, 13, 14, 15, 47] (fun lo hi st at' ix wr => ∃ k : Nat, k ≤ n ∧ ix = .int .i64 k ∧ lo = .int .i64 (lowS l r al k) ∧ hi = .int .i64 (highS l r al k) ∧ st = .int .i64 (stZ (-1) l r al k) ∧ at' = .int .i64 (atZ (-1) l r al k) ∧ Hid (chainB l r al k = true) ∧
          wr.ownsRow w.heap.size 4 1 (.slice (some ⟨g, 0, none⟩) m m) m ((usedL r m k).map vb) ∧ Below w.heap.size w wr) (fun _ _ _ _ ix _ => n - (intOf ix).toNat)
        case atStart => exact ⟨0, by omega, rfl, rfl, rfl, rfl, rfl, rfl, by rw [used_zero]; simpa [vb] using Ho.out, HB.out⟩
        case round =>
          obtain ⟨k, hk, rfl, rfl, rfl, rfl, rfl, hch, ho, hb⟩ := hrel
          clear Ho HB
          by_cases hlt : k < n
          · obtain ⟨x, hx, hxm⟩ := RX.out k hlt
            obtain ⟨a, b, c, d, hq⟩ := LQ.out x hxm
            obtain ⟨c0, c1, d0, d1⟩ := RQ.out x a b c d hq
            obtain ⟨⟨s1, s2⟩, ⟨s3, s4⟩⟩ := BD.out k
            have hxg : r.getD k 0 = (x : Int) := by rw [List.getD_eq_getElem?_getD, hx]; rfl
            obtain ⟨br, offr, rfl, hcr⟩ := (hrr.below hb).int hlt
            rw [hxg] at hcr
            obtain ⟨ba, offa, rfl, hca⟩ := (hra.below hb).bool hlt
            obtain ⟨bl, offl, qa, qb, qc, qd, rfl, hq', e0, e1, e2, e3⟩ := (hr.below hb).q4 hxm
            have eq := Option.some.inj (hq.symm.trans hq'.out)
            obtain ⟨rfl, rfl, rfl, rfl⟩ := Q4.mk.inj eq
            clear eq hq'
            have Ho1 := ho.alloc (.cells #[.int .i64 a, .int .i64 b, .int .i64 c, .int .i64 d] 100)
            have hu := Ho1.cellAt x (by omega)
            rw [List.getElem?_map, used_get hxm] at hu
            have CU := hd (fun h => CS.out (k + 1) (chain_used (l := l) (r := r) (al := al) (k := k) (by rw [hxg]; exact h)) (by omega))
            have CA := hd (fun h0 h => CS.out (k + 1) (chain_apart (z := -1) (l := l) (r := r) (al := al) (k := k) h0 h) (by omega))
            have CO := hd (fun h h1 => chain_on (z := -1) (l := l) (r := r) (al := al) (k := k) hch.out (by rw [hxg]; exact h) h1)
            have US := hd (used_step (m := m) hx)
            have HH : Hid (chainB l r al n = false → M l p r al = (0, 0, false)) := HC
            simp only [Option.map_some, vb] at hu
            generalize hub : (r.take k).contains (x : Int) = ub at *
            have hi1 : (0 : Int) ≤ (x : Int) := by omega
            have hi2 : (x : Int) < (m : Int) := by omega
            have hi3 : (0 : Int) ≤ (k : Int) := by omega
            have hi4 : (k : Int) < (n : Int) := by omega
            have LT := hd (fun (h3 : al.getD k false = true) => link_t hxg hq h3)
            have LF := hd (fun (h3 : al.getD k false = false) => link_f hxg hq h3)
            have hLS : lowS l r al (k + 1) = lowS l r al k + lkLow l r al k := rfl
            have hHS : highS l r al (k + 1) = highS l r al k + lkHigh l r al k := rfl
            have hAT : atZ (-1) l r al (k + 1) = lkTo l r al k := by simp [atZ]
            have hST : stZ (-1) l r al (k + 1) = if k = 0 then lkFrom l r al k else stZ (-1) l r al k := by
              unfold stZ
              by_cases e : k = 0
              · subst e; simp
              · simp [e]
            have Hub := hd hub
            have HOo := hd Ho1; have HOb := hd hb
            have XA := hd (And.intro hLS (And.intro hHS (And.intro hAT hST)))
            generalize lowS l r al k = lo at *
            generalize highS l r al k = hi' at *
            generalize stZ (-1) l r al k = st at *
            generalize atZ (-1) l r al k = att at *
            clear hub hx hq hxg Ho1 ho hb hLS hHS hAT hST CS RX LQ RQ BD
            cases hy : al.getD k false with
            | true =>
              obtain ⟨f1, f2, f3, f4⟩ := LT.out hy
              rw [f1] at CA CO XA
              rw [f2, f3, f4] at XA
              rw [hy] at hca
              clear f1 f2 f3 f4 hy LT LF
              by_cases hk0 : k = 0
              · subst hk0
                have XB := hd (show stZ (-1) l r al (0 + 1) = a from by rw [XA.out.2.2.2]; simp)
                have hub0 : ub = false := by rw [← Hub.out]; simp
                subst hub0
                have CK := CO.out rfl (.inl rfl)
                clear CA CU
                rw [Nat.add_zero] at hcr hca
                go_wp2
                have bx0 : (wr.alloc (.cells #[.int .i64 a, .int .i64 b, .int .i64 c, .int .i64 d] 100)).cell? ⟨wr.heap.size, 0, none⟩ = some (.int .i64 a) := by simp [go_sem]
                have bx1 : (wr.alloc (.cells #[.int .i64 a, .int .i64 b, .int .i64 c, .int .i64 d] 100)).cell? ⟨wr.heap.size, 1, none⟩ = some (.int .i64 b) := by simp [go_sem]
                have bx2 : (wr.alloc (.cells #[.int .i64 a, .int .i64 b, .int .i64 c, .int .i64 d] 100)).cell? ⟨wr.heap.size, 2, none⟩ = some (.int .i64 c) := by simp [go_sem]
                have bx3 : (wr.alloc (.cells #[.int .i64 a, .int .i64 b, .int .i64 c, .int .i64 d] 100)).cell? ⟨wr.heap.size, 3, none⟩ = some (.int .i64 d) := by simp [go_sem]
                replace hca := below_at ((Below.refl _ wr).alloc (Nat.le_refl _) (.cells #[.int .i64 a, .int .i64 b, .int .i64 c, .int .i64 d] 100)) hca
                have HBW := hd (HOb.out.alloc HOb.out.size (.cells #[.int .i64 a, .int .i64 b, .int .i64 c, .int .i64 d] 100))
                have hfr := HOo.out.frozenAt x
                clear HOb e0 e1 e2 e3 hcr
                generalize wr.alloc (.cells #[.int .i64 a, .int .i64 b, .int .i64 c, .int .i64 d] 100) = W at *
                generalize wr.heap.size = gb at *
                go_quiet (fail)
                go_wp2
                have E : ∀ nq, ((World.drewN W nq).setCell ⟨g, x, none⟩ (vb true)).ownsRow w.heap.size 4 1 (.slice (some ⟨g, 0, none⟩) m m) m ((usedL r m (0 + 1)).map vb) := by
                  intro nq
                  have e := ((show (World.drewN W nq).ownsRow w.heap.size 4 1 (.slice (some ⟨g, 0, none⟩) m m) m ((usedL r m 0).map vb) from HOo.out).stored x (vb true)).1
                  rw [← List.map_set, US.out] at e
                  exact e
                go_roundw
                case rel => exact ⟨0 + 1, by omega, by go_num, by rw [XA.out.1]; try go_num, by rw [XA.out.2.1]; try go_num, by rw [XB.out], by rw [XA.out.2.2.1], hd (by first | exact CK | exact CO.out trivial trivial), E _, by first | exact (below_drewN HBW.out _).setCell Hg.out _ | exact (below_drewN (below_drewN HBW.out _) _).setCell Hg.out _⟩
                case measure => simp [intOf]; omega

              · have hk0' : ¬ ((k : Int) = 0) := by omega
                have XB := hd (show stZ (-1) l r al (k + 1) = st from by rw [XA.out.2.2.2]; simp [hk0])
                go_wp2
                have bx0 : (wr.alloc (.cells #[.int .i64 a, .int .i64 b, .int .i64 c, .int .i64 d] 100)).cell? ⟨wr.heap.size, 0, none⟩ = some (.int .i64 a) := by simp [go_sem]
                have bx1 : (wr.alloc (.cells #[.int .i64 a, .int .i64 b, .int .i64 c, .int .i64 d] 100)).cell? ⟨wr.heap.size, 1, none⟩ = some (.int .i64 b) := by simp [go_sem]
                have bx2 : (wr.alloc (.cells #[.int .i64 a, .int .i64 b, .int .i64 c, .int .i64 d] 100)).cell? ⟨wr.heap.size, 2, none⟩ = some (.int .i64 c) := by simp [go_sem]
                have bx3 : (wr.alloc (.cells #[.int .i64 a, .int .i64 b, .int .i64 c, .int .i64 d] 100)).cell? ⟨wr.heap.size, 3, none⟩ = some (.int .i64 d) := by simp [go_sem]
                replace hca := below_at ((Below.refl _ wr).alloc (Nat.le_refl _) (.cells #[.int .i64 a, .int .i64 b, .int .i64 c, .int .i64 d] 100)) hca
                have HBW := hd (HOb.out.alloc HOb.out.size (.cells #[.int .i64 a, .int .i64 b, .int .i64 c, .int .i64 d] 100))
                have hfr := HOo.out.frozenAt x
                clear HOb e0 e1 e2 e3 hcr
                generalize wr.alloc (.cells #[.int .i64 a, .int .i64 b, .int .i64 c, .int .i64 d] 100) = W at *
                generalize wr.heap.size = gb at *
                go_quiet (fail)
                go_wp2
                · have hu1 : ub = true := by assumption
                  go_ret3
                  rw [HC.out (CU.out hu1)]
                  exact ⟨rfl, by first | exact below_drewN HBW.out _ | exact below_drewN (below_drewN HBW.out _) _⟩
                · go_ret3
                  rw [HC.out (CA.out hk0 (bne_t (by assumption)))]
                  exact ⟨rfl, by first | exact below_drewN HBW.out _ | exact below_drewN (below_drewN HBW.out _) _⟩
                · have E : ∀ nq, ((World.drewN W nq).setCell ⟨g, x, none⟩ (vb true)).ownsRow w.heap.size 4 1 (.slice (some ⟨g, 0, none⟩) m m) m ((usedL r m (k + 1)).map vb) := by
                    intro nq
                    have e := ((show (World.drewN W nq).ownsRow w.heap.size 4 1 (.slice (some ⟨g, 0, none⟩) m m) m ((usedL r m k).map vb) from HOo.out).stored x (vb true)).1
                    rw [← List.map_set, US.out] at e
                    exact e
                  go_roundw
                  case rel => exact ⟨k + 1, by omega, by go_num, by rw [XA.out.1]; try go_num, by rw [XA.out.2.1]; try go_num, by rw [XB.out], by rw [XA.out.2.2.1], hd (CO.out (by first | assumption | simp_all) (.inr (bne_f (by assumption)))), E _, by first | exact (below_drewN HBW.out _).setCell Hg.out _ | exact (below_drewN (below_drewN HBW.out _) _).setCell Hg.out _⟩
                  case measure => simp [intOf]; omega

            | false =>
              obtain ⟨f1, f2, f3, f4⟩ := LF.out hy
              rw [f1] at CA CO XA
              rw [f2, f3, f4] at XA
              rw [hy] at hca
              clear f1 f2 f3 f4 hy LT LF
              by_cases hk0 : k = 0
              · subst hk0
                have XB := hd (show stZ (-1) l r al (0 + 1) = b from by rw [XA.out.2.2.2]; simp)
                have hub0 : ub = false := by rw [← Hub.out]; simp
                subst hub0
                have CK := CO.out rfl (.inl rfl)
                clear CA CU
                rw [Nat.add_zero] at hcr hca
                go_wp2
                have bx0 : (wr.alloc (.cells #[.int .i64 a, .int .i64 b, .int .i64 c, .int .i64 d] 100)).cell? ⟨wr.heap.size, 0, none⟩ = some (.int .i64 a) := by simp [go_sem]
                have bx1 : (wr.alloc (.cells #[.int .i64 a, .int .i64 b, .int .i64 c, .int .i64 d] 100)).cell? ⟨wr.heap.size, 1, none⟩ = some (.int .i64 b) := by simp [go_sem]
                have bx2 : (wr.alloc (.cells #[.int .i64 a, .int .i64 b, .int .i64 c, .int .i64 d] 100)).cell? ⟨wr.heap.size, 2, none⟩ = some (.int .i64 c) := by simp [go_sem]
                have bx3 : (wr.alloc (.cells #[.int .i64 a, .int .i64 b, .int .i64 c, .int .i64 d] 100)).cell? ⟨wr.heap.size, 3, none⟩ = some (.int .i64 d) := by simp [go_sem]
                replace hca := below_at ((Below.refl _ wr).alloc (Nat.le_refl _) (.cells #[.int .i64 a, .int .i64 b, .int .i64 c, .int .i64 d] 100)) hca
                have HBW := hd (HOb.out.alloc HOb.out.size (.cells #[.int .i64 a, .int .i64 b, .int .i64 c, .int .i64 d] 100))
                have hfr := HOo.out.frozenAt x
                clear HOb e0 e1 e2 e3 hcr
                generalize wr.alloc (.cells #[.int .i64 a, .int .i64 b, .int .i64 c, .int .i64 d] 100) = W at *
                generalize wr.heap.size = gb at *
                go_quiet (fail)
                go_wp2
                have w1 : IntKind.i64.wrap (-d) = -d := IntWalk.i64_in _ (by omega)
                have w2 : IntKind.i64.wrap (-c) = -c := IntWalk.i64_in _ (by omega)
                go_quiet (fail)
                clear w1 w2
                go_wp2
                have E : ∀ nq, ((World.drewN W nq).setCell ⟨g, x, none⟩ (vb true)).ownsRow w.heap.size 4 1 (.slice (some ⟨g, 0, none⟩) m m) m ((usedL r m (0 + 1)).map vb) := by
                  intro nq
                  have e := ((show (World.drewN W nq).ownsRow w.heap.size 4 1 (.slice (some ⟨g, 0, none⟩) m m) m ((usedL r m 0).map vb) from HOo.out).stored x (vb true)).1
                  rw [← List.map_set, US.out] at e
                  exact e
                go_roundw
                case rel => exact ⟨0 + 1, by omega, by go_num, by rw [XA.out.1]; try go_num, by rw [XA.out.2.1]; try go_num, by rw [XB.out], by rw [XA.out.2.2.1], hd (by first | exact CK | exact CO.out trivial trivial), E _, by first | exact (below_drewN HBW.out _).setCell Hg.out _ | exact (below_drewN (below_drewN HBW.out _) _).setCell Hg.out _⟩
                case measure => simp [intOf]; omega

              · have hk0' : ¬ ((k : Int) = 0) := by omega
                have XB := hd (show stZ (-1) l r al (k + 1) = st from by rw [XA.out.2.2.2]; simp [hk0])
                go_wp2
                have bx0 : (wr.alloc (.cells #[.int .i64 a, .int .i64 b, .int .i64 c, .int .i64 d] 100)).cell? ⟨wr.heap.size, 0, none⟩ = some (.int .i64 a) := by simp [go_sem]
                have bx1 : (wr.alloc (.cells #[.int .i64 a, .int .i64 b, .int .i64 c, .int .i64 d] 100)).cell? ⟨wr.heap.size, 1, none⟩ = some (.int .i64 b) := by simp [go_sem]
                have bx2 : (wr.alloc (.cells #[.int .i64 a, .int .i64 b, .int .i64 c, .int .i64 d] 100)).cell? ⟨wr.heap.size, 2, none⟩ = some (.int .i64 c) := by simp [go_sem]
                have bx3 : (wr.alloc (.cells #[.int .i64 a, .int .i64 b, .int .i64 c, .int .i64 d] 100)).cell? ⟨wr.heap.size, 3, none⟩ = some (.int .i64 d) := by simp [go_sem]
                replace hca := below_at ((Below.refl _ wr).alloc (Nat.le_refl _) (.cells #[.int .i64 a, .int .i64 b, .int .i64 c, .int .i64 d] 100)) hca
                have HBW := hd (HOb.out.alloc HOb.out.size (.cells #[.int .i64 a, .int .i64 b, .int .i64 c, .int .i64 d] 100))
                have hfr := HOo.out.frozenAt x
                clear HOb e0 e1 e2 e3 hcr
                generalize wr.alloc (.cells #[.int .i64 a, .int .i64 b, .int .i64 c, .int .i64 d] 100) = W at *
                generalize wr.heap.size = gb at *
                go_quiet (fail)
                go_wp2
                have w1 : IntKind.i64.wrap (-d) = -d := IntWalk.i64_in _ (by omega)
                have w2 : IntKind.i64.wrap (-c) = -c := IntWalk.i64_in _ (by omega)
                go_quiet (fail)
                clear w1 w2
                go_wp2
                · have hu1 : ub = true := by assumption
                  go_ret3
                  rw [HC.out (CU.out hu1)]
                  exact ⟨rfl, by first | exact below_drewN HBW.out _ | exact below_drewN (below_drewN HBW.out _) _⟩
                · go_ret3
                  rw [HC.out (CA.out hk0 (bne_t (by assumption)))]
                  exact ⟨rfl, by first | exact below_drewN HBW.out _ | exact below_drewN (below_drewN HBW.out _) _⟩
                · have E : ∀ nq, ((World.drewN W nq).setCell ⟨g, x, none⟩ (vb true)).ownsRow w.heap.size 4 1 (.slice (some ⟨g, 0, none⟩) m m) m ((usedL r m (k + 1)).map vb) := by
                    intro nq
                    have e := ((show (World.drewN W nq).ownsRow w.heap.size 4 1 (.slice (some ⟨g, 0, none⟩) m m) m ((usedL r m k).map vb) from HOo.out).stored x (vb true)).1
                    rw [← List.map_set, US.out] at e
                    exact e
                  go_roundw
                  case rel => exact ⟨k + 1, by omega, by go_num, by rw [XA.out.1]; try go_num, by rw [XA.out.2.1]; try go_num, by rw [XB.out], by rw [XA.out.2.2.1], hd (CO.out (by first | assumption | simp_all) (.inr (bne_f (by assumption)))), E _, by first | exact (below_drewN HBW.out _).setCell Hg.out _ | exact (below_drewN (below_drewN HBW.out _) _).setCell Hg.out _⟩
                  case measure => simp [intOf]; omega

          · have e : k = n := by omega
            subst e
            obtain ⟨⟨s1, s2⟩, ⟨s3, s4⟩⟩ := BD.out k
            have z1 : stZ (-1) l r al k = lkFrom l r al 0 := by rw [stZ, if_neg (by omega)]
            have z2 : atZ (-1) l r al k = lkTo l r al (k - 1) := by rw [atZ, if_neg (by omega)]
            rw [z1, z2]
            have HYc := hd (HY.out hch.out)
            have m0 := Int.emod_nonneg (-(lowS l r al k)) (show p ≠ 0 by omega)
            have m1 := Int.emod_lt_of_pos (-(lowS l r al k)) (show 0 < p by omega)
            have m2 := Int.emod_nonneg (highS l r al k) (show p ≠ 0 by omega)
            have m3 := Int.emod_lt_of_pos (highS l r al k) (show 0 < p by omega)
            have Hb := hd hb
            have I1 : I64 (-(lowS l r al k)) := ⟨by omega, by omega⟩
            have I2 : I64 (highS l r al k) := ⟨by omega, by omega⟩
            simp only [upM, downM] at HG HYc
            generalize lowS l r al k = lo at *
            generalize highS l r al k = hi' at *
            generalize lkFrom l r al 0 = fr at *
            generalize lkTo l r al (k - 1) = to at *
            clear z1 z2 hb ho BD HY HC CS RX LQ RQ hch
            by_cases he : to = fr
            · subst he
              by_cases hg : lo + -lo % p ≤ hi' - hi' % p
              · have H := hd (HYc.out rfl hg)
                have hg' : ¬ (hi' - hi' % p < lo + -lo % p) := by omega
                clear HG HYc HE
                go_wp2_with (first | (go_at_call 107; refine (floorMod_any _ _ _ (by omega) (by omega) (by first | exact I1 | exact I2)).mono ?_; rintro e w' ⟨rfl, rfl⟩))
                go_ret3
                rw [H.out]
                exact ⟨rfl, Hb.out⟩
              · have hg' : hi' - hi' % p < lo + -lo % p := by omega
                have H := hd (HG.out (by first | exact hg | exact hg'))
                clear HG HYc HE
                go_wp2_with (first | (go_at_call 107; refine (floorMod_any _ _ _ (by omega) (by omega) (by first | exact I1 | exact I2)).mono ?_; rintro e w' ⟨rfl, rfl⟩))
                go_ret3
                rw [H.out]
                exact ⟨rfl, Hb.out⟩
            · have H := hd (HE.out he)
              clear HG HYc HE
              go_wp2_with (first | (go_at_call 107; refine (floorMod_any _ _ _ (by omega) (by omega) (by first | exact I1 | exact I2)).mono ?_; rintro e w' ⟨rfl, rfl⟩))
              go_ret3
              rw [H.out]
              exact ⟨rfl, Hb.out⟩
      · have H := hd (M_cond (p := p) (show condR l p r al = false by rw [condR, h1, h2, decide_eq_false h3]; rfl))
        have hne : ¬ ((al.length : Int) = (r.length : Int)) := by omega
        clear h1 h2 h3
        go_enter Try.func56, Try.ntmps56
        go_wp2_with (first | (go_at_call 94; refine A1.out.mono ?_; rintro e w' ⟨rfl, hb⟩) | (go_at_call 65; refine (A2.out _ hb).mono ?_; rintro e w' ⟨rfl, rfl⟩))
        go_ret3
        rw [H.out]
        exact ⟨rfl, hb⟩

theorem has_yes {xs : List Int} {k : Nat} {y : Int} (h : xs[k]? = some y) : xs.contains y = true := by
  rw [List.contains_iff_mem]; exact List.mem_of_getElem? h
theorem has_on {xs : List Int} {k : Nat} {q y : Int} (h : (xs.take k).contains y = false) (hq : xs[k]? = some q) (hn : ¬ q = y) : (xs.take (k + 1)).contains y = false := by
  rw [List.take_add_one, hq]
  simp only [Option.toList, List.contains_append, h, Bool.false_or]
  simp; omega
theorem rd_take {w : World} {A : Option Addr} {n : Nat} {xs : List Int} (h : Rd w 1 A n (xs.map vi)) {k : Nat} (hk : k ≤ n) : Rd w 1 A k ((xs.take k).map vi) := by
  have hl := h.intLen
  refine ⟨by simp; omega, by have := h.2.1; omega, fun h0 => ?_⟩
  obtain ⟨b, off, hA, hc⟩ := h.2.2 (by omega)
  refine ⟨b, off, hA, fun j u hu => hc j u ?_⟩
  rw [List.map_take, List.getElem?_take] at hu
  split at hu
  · exact hu
  · cases hu
set_option maxHeartbeats 400000 in
theorem l00Has_any (v : Value) (xs : List Int) (n : Nat) (y : Int) (w : World) (hs : Sl w 1 v n (xs.map vi)) :
    Calls Try.prog 106 #[v, .int .i64 y] w fun r w' => r = .returned (.bool (decide (y ∈ xs))) ∧ w = w' := by
  obtain ⟨A, cap, rfl, hcap, hr⟩ := hs
  have hn := hr.intLen
  have hm := hr.2.1
  unfold maxLen at hm
  have Hn := hd hn
  clear hn
  go_enter Try.func106, Try.ntmps106
  go_wp2
  go_loop [5] (fun i => ∃ k : Nat, k ≤ n ∧ i = .int .i64 k ∧ Hid ((xs.take k).contains y = false)) (fun i => n - (intOf i).toNat)
  case atStart => exact ⟨0, by omega, rfl, hd (by simp)⟩
  case round =>
    obtain ⟨k, hk, rfl, he⟩ := hrel
    by_cases hlt : k < n
    · obtain ⟨b, off, rfl, hc⟩ := hr.int hlt
      obtain ⟨x, hx⟩ : ∃ x, xs[k]? = some x := ⟨_, List.getElem?_eq_getElem (by have := Hn.out; omega)⟩
      rw [List.getD_eq_getElem?_getD, hx, Option.getD_some] at hc
      have Hx := hd hx
      clear hx hr
      by_cases e : x = y
      · subst e
        go_wp2
        go_ret
        exact ⟨ret_bool (decide_eq_true (List.mem_of_getElem? Hx.out)).symm, rfl⟩
      · go_wp2
        go_round
        case rel => exact ⟨k + 1, by omega, by go_num, hd (has_on he.out Hx.out e)⟩
        case measure => simp [intOf]; omega
    · have e : k = n := by omega
      subst e
      have e := he.out
      rw [List.take_of_length_le (by have := Hn.out; omega)] at e
      have E := hd e
      clear e
      go_wp2
      go_ret
      exact ⟨ret_bool (decide_eq_false (by simpa using E.out)).symm, rfl⟩
theorem l00Has_t (v : Value) (xs : List Int) (n : Nat) (y : Int) (w : World) (hs : Sl w 1 v n (xs.map vi)) (h : xs.contains y = true) :
    Calls Try.prog 106 #[v, .int .i64 y] w fun r w' => r = .returned (.bool true) ∧ w' = w := (l00Has_any v xs n y w hs).mono fun _ _ k => ⟨by rw [k.1, decide_eq_true (by simpa using h)], k.2.symm⟩
theorem l00Has_f (v : Value) (xs : List Int) (n : Nat) (y : Int) (w : World) (hs : Sl w 1 v n (xs.map vi)) (h : xs.contains y = false) :
    Calls Try.prog 106 #[v, .int .i64 y] w fun r w' => r = .returned (.bool false) ∧ w' = w := (l00Has_any v xs n y w hs).mono fun _ _ k => ⟨by rw [k.1, decide_eq_false (by simpa using h)], k.2.symm⟩
theorem M_ring {l : List Q4} {p : Int} {r : List Int} {al : List Bool} (h : r.all (inR · 0 ((l.length : Int) - 1)) = false) : M l p r al = (0, 0, false) :=
  M_cond (by rw [condR, show manyIn r 1 32 0 ((l.length : Int) - 1) = false by rw [manyIn, h, Bool.and_false, Bool.and_false], Bool.false_and, Bool.and_false])

set_option maxHeartbeats 4000000 in
set_option maxRecDepth 100000 in
theorem spec_any (w : World) (v : Value) (l : List Q4) (_i : ∀ q ∈ l, q.I64) (_b : l.length ≤ 1048576) (s : Sl w 4 v l.length (q4s l)) (p : Int) (_p : I64 p) (u : Value) (r : List Int) (_j : ∀ x ∈ r, I64 x) (_c : r.length ≤ 1048576) (t : Sl w 1 u r.length (r.map vi)) (z : Value) (al : List Bool) (_k : ∀ x ∈ al, True) (_d : al.length ≤ 1048576) (tz : Sl w 1 z al.length (al.map vb)) :
    Calls Try.prog 54 #[v, .int .i64 p, u, z] w fun e w' => e = .returned (.tuple #[.int .i64 (M l p r al).1, .int .i64 (M l p r al).2.1, .bool (M l p r al).2.2]) ∧ Below w.heap.size w w' := by
  have A1 := hd (l05Rules_any 12 v l p w s)
  clear _i _j _k
  obtain ⟨A, cap, rfl, hcap, hr⟩ := s
  obtain ⟨Ar, capr, rfl, hcapr, hrr⟩ := t
  obtain ⟨Aa, capa, rfl, hcapa, hra⟩ := tz
  have hm0 := hr.2.1
  have hm1 := hrr.2.1
  have hm2 := hra.2.1
  unfold maxLen at hm0 hm1 hm2
  cases h1 : rulesB 12 p l with
  | false =>
    have H := hd (M_cond (r := r) (al := al) (show condR l p r al = false by rw [condR, h1]; rfl))
    rw [h1] at A1
    clear h1
    go_enter Try.func54, Try.ntmps54
    go_wp2_with (first | (go_at_call 80; refine A1.out.mono ?_; rintro e w' ⟨rfl, hb⟩))
    go_ret3
    rw [H.out]
    exact ⟨rfl, hb⟩
  | true =>
    rw [h1] at A1
    by_cases h2 : 1 ≤ r.length ∧ r.length ≤ 32 ∧ al.length = r.length
    · obtain ⟨n1, n2, h3⟩ := h2
      have HR := hd (fun h => M_ring (l := l) (p := p) (r := r) (al := al) h)
      have HC := hd (fun h => M_chain (l := l) (p := p) (r := r) (al := al) h)
      have HE := hd (fun h => M_end (l := l) (p := p) (r := r) (al := al) h)
      have HG := hd (fun h => M_gap (l := l) (p := p) (r := r) (al := al) h)
      have HY0 := hd (fun (h : r.all (inR · 0 ((l.length : Int) - 1)) = true) a b c => M_yes (l := l) (p := p) (r := r) (al := al) (by rw [condR, h1, manyIn, h, decide_eq_true h3, decide_eq_true (show (1 : Int) ≤ r.length by omega), decide_eq_true (show (r.length : Int) ≤ 32 by omega)]; rfl) a b c)
      have BD := hd (sums_bd (r := r) (al := al) h1)
      have hp : 1 ≤ p ∧ p ≤ 60 := by
        simp only [rulesB, Bool.and_eq_true, inR_iff] at h1
        omega
      have hl32 : l.length ≤ 32 := by
        simp only [rulesB, Bool.and_eq_true, decide_eq_true_eq] at h1
        omega
      obtain ⟨p1, p2⟩ := hp
      have LQ := hd (fun k (h : k < l.length) => (show ∃ a b c d, l[k]? = some (⟨a, b, c, d⟩ : Q4) from ⟨l[k].a, l[k].b, l[k].c, l[k].d, List.getElem?_eq_getElem h⟩))
      have RQ := hd (fun (k : Nat) a b c d (hq : l[k]? = some (⟨a, b, c, d⟩ : Q4)) => (show 0 ≤ c ∧ c ≤ 60 ∧ 0 ≤ d ∧ d ≤ 120 from by
        simp only [rulesB, Bool.and_eq_true, List.all_eq_true] at h1
        have := h1.2.2.2 _ (List.mem_of_getElem? hq)
        simp only [ruleB, Bool.and_eq_true, inR_iff, Bool.not_eq_true', beq_eq_false_iff_ne] at this
        omega))
      have CS := hd (fun k (h : chainB l r al k = false) hk => chain_stop (n := r.length) h hk)
      clear h1 _p
      rw [h3] at hra hcapa
      generalize hn : r.length = n at *
      generalize hm : l.length = m at *
      have Hn := hd hn
      have Hm := hd hm
      clear hn hm
      rw [h3]
      have H3 := hd h3
      clear h3 _b _c _d hm2
      go_enter Try.func54, Try.ntmps54
      go_wp2_with (first | (go_at_call 80; refine A1.out.mono ?_; rintro e w0 ⟨rfl, hb⟩))
      clear A1
      go_loopw [12, 13, 14, 15, 44] (fun lo hi st at' ix wr => ∃ k : Nat, k ≤ n ∧ ix = .int .i64 k ∧ lo = .int .i64 (lowS l r al k) ∧ hi = .int .i64 (highS l r al k) ∧ st = .int .i64 (stZ 0 l r al k) ∧ at' = .int .i64 (atZ 0 l r al k) ∧ Hid (chainB l r al k = true) ∧
        Hid ((r.take k).all (inR · 0 ((m : Int) - 1)) = true) ∧ Below w.heap.size w wr) (fun _ _ _ _ ix _ => n - (intOf ix).toNat)
      case atStart => exact ⟨0, by omega, rfl, rfl, rfl, rfl, rfl, rfl, hd (by simp), hb⟩
      case round =>
        obtain ⟨k, hk, rfl, rfl, rfl, rfl, rfl, hch, hal, hb0⟩ := hrel
        clear hb
        by_cases hlt : k < n
        · obtain ⟨x, hx⟩ : ∃ x, r[k]? = some x := ⟨_, List.getElem?_eq_getElem (by have := Hn.out; omega)⟩
          have hxg : r.getD k 0 = x := by rw [List.getD_eq_getElem?_getD, hx]; rfl
          obtain ⟨br, offr, rfl, hcr⟩ := (hrr.below hb0).int hlt
          rw [hxg] at hcr
          have HT := hd (fun W h => l00Has_t (.slice (some ⟨br, offr, none⟩) k capr) (r.take k) k x W ⟨_, capr, rfl, by omega, (rd_take (hrr.below hb0) (by omega)).below h⟩)
          have HF := hd (fun W h => l00Has_f (.slice (some ⟨br, offr, none⟩) k capr) (r.take k) k x W ⟨_, capr, rfl, by omega, (rd_take (hrr.below hb0) (by omega)).below h⟩)
          obtain ⟨ba, offa, rfl, hca⟩ := (hra.below hb0).bool hlt
          have hi3 : (0 : Int) ≤ (k : Int) := by omega
          have hi4 : (k : Int) < (n : Int) := by omega
          have wm : IntKind.i64.wrap ((m : Int) - 1) = (m : Int) - 1 := IntWalk.i64_in _ (by omega)
          cases hin : inR x 0 ((m : Int) - 1) with
          | false =>
            have H := hd (HR.out (all_false_of hx hin))
            have Hb := hd hb0
            clear hb0 hx hxg HT HF
            go_wp2
            go_quiet (first | (go_at_call 62; exact Calls.quiet_of_same (l00In_f _ _ _ _ (by assumption))))
            go_wp2
            go_ret3
            rw [H.out]
            exact ⟨rfl, by first | exact Hb.out | exact below_drewN Hb.out _ | exact below_drewN (below_drewN Hb.out _) _⟩
          | true =>
            cases hct : (r.take k).contains x with
            | true =>
              have H := hd (HC.out (CS.out (k + 1) (chain_used (by rw [hxg]; exact hct)) (by omega)))
              have HT2 := hd (fun W h => HT.out W h hct)
              have Hb := hd hb0
              clear hb0 hx hxg HT HF hct
              go_wp2
              go_quiet (first | (go_at_call 62; exact Calls.quiet_of_same (l00In_t _ _ _ _ (by assumption))) | (go_at_call 106; exact Calls.quiet_of_same (HT2.out _ (by first | exact Below.refl _ _ | exact below_drewN (Below.refl _ _) _))))
              go_wp2
              go_ret3
              rw [H.out]
              exact ⟨rfl, by first | exact Hb.out | exact below_drewN Hb.out _ | exact below_drewN (below_drewN Hb.out _) _⟩
            | false =>
              obtain ⟨i1, i2⟩ := inR_iff.1 hin
              obtain ⟨x, rfl⟩ := Int.eq_ofNat_of_zero_le i1
              have hxm : x < m := by omega
              obtain ⟨a, b, c, d, hq⟩ := LQ.out x hxm
              obtain ⟨c0, c1, d0, d1⟩ := RQ.out x a b c d hq
              obtain ⟨⟨s1, s2⟩, ⟨s3, s4⟩⟩ := BD.out k
              obtain ⟨bl, offl, qa, qb, qc, qd, rfl, hq', e0, e1, e2, e3⟩ := (hr.below hb0).q4 hxm
              have eq := Option.some.inj (hq.symm.trans hq'.out)
              obtain ⟨rfl, rfl, rfl, rfl⟩ := Q4.mk.inj eq
              clear eq hq'
              have CA := hd (fun h0 h => CS.out (k + 1) (chain_apart (z := 0) (l := l) (r := r) (al := al) (k := k) h0 h) (by omega))
              have CO := hd (fun h1 => chain_on (z := 0) (l := l) (r := r) (al := al) (k := k) hch.out (by rw [hxg]; exact hct) h1)
              have HF2 := hd (fun W h => HF.out W h hct)
              have HAL2 := hd (all_take_of hal.out hx hin)
              have LT := hd (fun (h3 : al.getD k false = true) => link_t hxg hq h3)
              have LF := hd (fun (h3 : al.getD k false = false) => link_f hxg hq h3)
              have hLS : lowS l r al (k + 1) = lowS l r al k + lkLow l r al k := rfl
              have hHS : highS l r al (k + 1) = highS l r al k + lkHigh l r al k := rfl
              have hAT : atZ 0 l r al (k + 1) = lkTo l r al k := by simp [atZ]
              have hST : stZ 0 l r al (k + 1) = if k = 0 then lkFrom l r al k else stZ 0 l r al k := by
                unfold stZ
                by_cases e : k = 0
                · subst e; simp
                · simp [e]
              have XA := hd (And.intro hLS (And.intro hHS (And.intro hAT hST)))
              have Hb := hd hb0
              generalize lowS l r al k = lo at *
              generalize highS l r al k = hi' at *
              generalize stZ 0 l r al k = st at *
              generalize atZ 0 l r al k = att at *
              clear hx hq hxg hb0 hLS hHS hAT hST CS LQ RQ BD HT HF hct hal HR HY0 HE HG hrr hra hr
              cases hy : al.getD k false with
              | true =>
                obtain ⟨f1, f2, f3, f4⟩ := LT.out hy
                rw [f1] at CA CO XA
                rw [f2, f3, f4] at XA
                rw [hy] at hca
                clear f1 f2 f3 f4 hy LT LF
                by_cases hk0 : k = 0
                · subst hk0
                  have XB := hd (show stZ 0 l r al (0 + 1) = a from by rw [XA.out.2.2.2]; simp)
                  have CK := CO.out (.inl rfl)
                  clear CA
                  rw [Nat.add_zero] at hcr hca
                  go_wp2
                  go_quiet (first | (go_at_call 62; exact Calls.quiet_of_same (l00In_t _ _ _ _ (by assumption))) | (go_at_call 106; exact Calls.quiet_of_same (HF2.out _ (by first | exact Below.refl _ _ | exact below_drewN (Below.refl _ _) _))))
                  go_wp2
                  go_roundw
                  case rel => exact ⟨0 + 1, by omega, by go_num, by rw [XA.out.1]; first | done | go_num | (congr 1; omega), by rw [XA.out.2.1]; first | done | go_num | (congr 1; omega), by rw [XB.out], by rw [XA.out.2.2.1], hd CK, HAL2, by first | exact Hb.out | exact below_drewN Hb.out _ | exact below_drewN (below_drewN Hb.out _) _⟩
                  case measure => simp [intOf]; omega

                · have hk0' : ¬ ((k : Int) = 0) := by omega
                  have XB := hd (show stZ 0 l r al (k + 1) = st from by rw [XA.out.2.2.2]; simp [hk0])
                  go_wp2
                  go_quiet (first | (go_at_call 62; exact Calls.quiet_of_same (l00In_t _ _ _ _ (by assumption))) | (go_at_call 106; exact Calls.quiet_of_same (HF2.out _ (by first | exact Below.refl _ _ | exact below_drewN (Below.refl _ _) _))))
                  go_wp2
                  · go_ret3
                    rw [HC.out (CA.out hk0 (bne_t (by assumption)))]
                    exact ⟨rfl, by first | exact Hb.out | exact below_drewN Hb.out _ | exact below_drewN (below_drewN Hb.out _) _⟩
                  · go_roundw
                    case rel => exact ⟨k + 1, by omega, by go_num, by rw [XA.out.1]; first | done | go_num | (congr 1; omega), by rw [XA.out.2.1]; first | done | go_num | (congr 1; omega), by rw [XB.out], by rw [XA.out.2.2.1], hd (CO.out (.inr (bne_f (by assumption)))), HAL2, by first | exact Hb.out | exact below_drewN Hb.out _ | exact below_drewN (below_drewN Hb.out _) _⟩
                    case measure => simp [intOf]; omega

              | false =>
                obtain ⟨f1, f2, f3, f4⟩ := LF.out hy
                rw [f1] at CA CO XA
                rw [f2, f3, f4] at XA
                rw [hy] at hca
                clear f1 f2 f3 f4 hy LT LF
                by_cases hk0 : k = 0
                · subst hk0
                  have XB := hd (show stZ 0 l r al (0 + 1) = b from by rw [XA.out.2.2.2]; simp)
                  have CK := CO.out (.inl rfl)
                  clear CA
                  rw [Nat.add_zero] at hcr hca
                  go_wp2
                  go_quiet (first | (go_at_call 62; exact Calls.quiet_of_same (l00In_t _ _ _ _ (by assumption))) | (go_at_call 106; exact Calls.quiet_of_same (HF2.out _ (by first | exact Below.refl _ _ | exact below_drewN (Below.refl _ _) _))))
                  go_wp2
                  go_roundw
                  case rel => exact ⟨0 + 1, by omega, by go_num, by rw [XA.out.1]; first | done | go_num | (congr 1; omega), by rw [XA.out.2.1]; first | done | go_num | (congr 1; omega), by rw [XB.out], by rw [XA.out.2.2.1], hd CK, HAL2, by first | exact Hb.out | exact below_drewN Hb.out _ | exact below_drewN (below_drewN Hb.out _) _⟩
                  case measure => simp [intOf]; omega

                · have hk0' : ¬ ((k : Int) = 0) := by omega
                  have XB := hd (show stZ 0 l r al (k + 1) = st from by rw [XA.out.2.2.2]; simp [hk0])
                  go_wp2
                  go_quiet (first | (go_at_call 62; exact Calls.quiet_of_same (l00In_t _ _ _ _ (by assumption))) | (go_at_call 106; exact Calls.quiet_of_same (HF2.out _ (by first | exact Below.refl _ _ | exact below_drewN (Below.refl _ _) _))))
                  go_wp2
                  · go_ret3
                    rw [HC.out (CA.out hk0 (bne_t (by assumption)))]
                    exact ⟨rfl, by first | exact Hb.out | exact below_drewN Hb.out _ | exact below_drewN (below_drewN Hb.out _) _⟩
                  · go_roundw
                    case rel => exact ⟨k + 1, by omega, by go_num, by rw [XA.out.1]; first | done | go_num | (congr 1; omega), by rw [XA.out.2.1]; first | done | go_num | (congr 1; omega), by rw [XB.out], by rw [XA.out.2.2.1], hd (CO.out (.inr (bne_f (by assumption)))), HAL2, by first | exact Hb.out | exact below_drewN Hb.out _ | exact below_drewN (below_drewN Hb.out _) _⟩
                    case measure => simp [intOf]; omega

        · have e : k = n := by omega
          subst e
          obtain ⟨⟨s1, s2⟩, ⟨s3, s4⟩⟩ := BD.out k
          have z1 : stZ 0 l r al k = lkFrom l r al 0 := by rw [stZ, if_neg (by omega)]
          have z2 : atZ 0 l r al k = lkTo l r al (k - 1) := by rw [atZ, if_neg (by omega)]
          rw [z1, z2]
          have HYc := hd (HY0.out (all_whole hal.out (by have := Hn.out; omega)) hch.out)
          have r0 : ¬ p = 0 := by omega
          have Hb := hd hb0
          have U1 := hd (fun h => upM_neg (n := lowS l r al k) (show 0 < p by omega) h)
          have U2 := hd (fun (h : ¬ (lowS l r al k).tmod p < 0) => (show lowS l r al k + -(lowS l r al k).tmod p % p = upM (lowS l r al k) p from by
            rw [← upM_pos (show 0 < p by omega) h, Int.tmod_eq_emod_of_nonneg (a := p - (lowS l r al k).tmod p) (by have := Int.tmod_lt_of_pos (lowS l r al k) (show 0 < p by omega); omega), show p - (lowS l r al k).tmod p = -(lowS l r al k).tmod p + p * 1 by omega, Int.add_mul_emod_self_left]))
          have U3 := hd (show highS l r al k - (highS l r al k).tmod p % p = downM (highS l r al k) p from by
            rw [← downM_ref (show 0 < p by omega), Int.tmod_eq_emod_of_nonneg (a := (highS l r al k).tmod p + p) (by have := Int.lt_tmod_of_pos (highS l r al k) (show 0 < p by omega); omega), Int.add_emod_right])
          generalize lowS l r al k = lo at *
          generalize highS l r al k = hi' at *
          have l1 := Int.tmod_lt_of_pos lo (show 0 < p by omega)
          have l2 : -p < lo.tmod p := by have := Int.lt_tmod_of_pos lo (show 0 < p by omega); omega
          have l3 := Int.emod_lt_of_pos (-lo.tmod p) (show 0 < p by omega)
          have l4 := Int.emod_nonneg (-lo.tmod p) r0
          have g1 := Int.tmod_lt_of_pos hi' (show 0 < p by omega)
          have g2 : -p < hi'.tmod p := by have := Int.lt_tmod_of_pos hi' (show 0 < p by omega); omega
          have g3 := Int.emod_lt_of_pos (hi'.tmod p) (show 0 < p by omega)
          have g4 := Int.emod_nonneg (hi'.tmod p) r0
          generalize upM lo p = U at *
          generalize downM hi' p = V at *
          generalize lkFrom l r al 0 = fr at *
          generalize lkTo l r al (k - 1) = to at *
          clear z1 z2 hb0 BD HY0 HC CS LQ RQ hch HR hal
          by_cases he : to = fr
          · subst he
            by_cases hlo : lo.tmod p < 0
            · have u1 := U1.out hlo
              by_cases hg : U ≤ V
              · have H := hd (HYc.out rfl hg)
                have hv : ¬ (hi' - hi'.tmod p % p < lo - lo.tmod p) := by have := U3.out; omega
                have u1 := hd u1
                clear HG HYc HE
                go_wp2
                go_ret3
                rw [H.out, ← u1.out, ← U3.out]
                exact ⟨rfl, Hb.out⟩
              · have H := hd (HG.out (by first | exact hg | omega))
                have hv : hi' - hi'.tmod p % p < lo - lo.tmod p := by have := U3.out; omega
                have u1 := hd u1
                clear HG HYc HE
                go_wp2
                go_ret3
                rw [H.out]
                exact ⟨rfl, Hb.out⟩
            · have u1 := U2.out hlo
              by_cases hg : U ≤ V
              · have H := hd (HYc.out rfl hg)
                have hv : ¬ (hi' - hi'.tmod p % p < lo + -lo.tmod p % p) := by have := U3.out; omega
                have u1 := hd u1
                clear HG HYc HE
                go_wp2
                go_ret3
                rw [H.out, ← u1.out, ← U3.out]
                exact ⟨rfl, Hb.out⟩
              · have H := hd (HG.out (by first | exact hg | omega))
                have hv : hi' - hi'.tmod p % p < lo + -lo.tmod p % p := by have := U3.out; omega
                have u1 := hd u1
                clear HG HYc HE
                go_wp2
                go_ret3
                rw [H.out]
                exact ⟨rfl, Hb.out⟩
          · have H := hd (HE.out he)
            clear HG HYc HE
            go_wp2
            go_ret3
            rw [H.out]
            exact ⟨rfl, Hb.out⟩
    · have H := hd (M_cond (p := p) (show condR l p r al = false by
        rw [Bool.eq_false_iff]
        intro e
        simp only [condR, manyIn, Bool.and_eq_true, decide_eq_true_eq] at e
        omega))
      clear h1
      by_cases c1 : (r.length : Int) < 1
      · go_enter Try.func54, Try.ntmps54
        go_wp2_with (first | (go_at_call 80; refine A1.out.mono ?_; rintro e w' ⟨rfl, hb⟩))
        go_ret3
        rw [H.out]
        exact ⟨rfl, hb⟩
      · by_cases c2 : (32 : Int) < r.length
        · go_enter Try.func54, Try.ntmps54
          go_wp2_with (first | (go_at_call 80; refine A1.out.mono ?_; rintro e w' ⟨rfl, hb⟩))
          go_ret3
          rw [H.out]
          exact ⟨rfl, hb⟩
        · have c3 : ((al.length : Int) != (r.length : Int)) = true := by rw [bne_iff_ne]; omega
          go_enter Try.func54, Try.ntmps54
          go_wp2_with (first | (go_at_call 80; refine A1.out.mono ?_; rintro e w' ⟨rfl, hb⟩))
          go_ret3
          rw [H.out]
          exact ⟨rfl, hb⟩

set_option maxHeartbeats 2000000 in
set_option maxRecDepth 100000 in
theorem walk (w : World) (v0 : Value) (x0 : List Q4) (i0 : ∀ x ∈ x0, x.I64) (s0 : Sl w 4 v0 x0.length (q4s x0)) (a1 : Int) (i1 : I64 a1) (v2 : Value) (x2 : List Int) (i2 : ∀ x ∈ x2, I64 x) (s2 : Sl w 1 v2 x2.length (x2.map vi)) (v3 : Value) (x3 : List Bool) (i3 : ∀ x ∈ x3, True) (s3 : Sl w 1 v3 x3.length (x3.map vb)) :
    Calls Try.prog 13 #[v0, .int .i64 a1, v2, v3] w fun e w' => e = .returned (.bool true) ∧ Below w.heap.size w w' := by
  obtain ⟨A0, cap0, hw0, _, hr0⟩ := id s0
  have hv0 := hd hw0; clear hw0
  obtain ⟨A2, cap2, hw2, _, hr2⟩ := id s2
  have hv2 := hd hw2; clear hw2
  obtain ⟨A3, cap3, hw3, _, hr3⟩ := id s3
  have hv3 := hd hw3; clear hw3
  have hm0 := hr0.2.1
  have hm2 := hr2.2.1
  have hm3 := hr3.2.1
  by_cases b2 : x2.length ≤ 1048576
  rotate_left
  · have e2 := hv2.out; subst e2
    unfold maxLen at hm2
    have hx' : ¬ ((x2.length : Int) ≤ 1048576) := by omega
    go_enter Try.func13, Try.ntmps13
    go_wp2
    go_ret
    exact ⟨rfl, Below.refl _ _⟩
  by_cases b3 : x3.length ≤ 1048576
  rotate_left
  · have e3 := hv3.out; subst e3
    have e2 := hv2.out; subst e2
    unfold maxLen at hm3
    have hx' : ¬ ((x3.length : Int) ≤ 1048576) := by omega
    have hx2 : (x2.length : Int) ≤ 1048576 := by omega
    go_enter Try.func13, Try.ntmps13
    go_wp2
    go_ret
    exact ⟨rfl, Below.refl _ _⟩
  have hz0 := hd (szRuleS_any v0 x0.length (1048576) w ⟨A0, cap0, hv0.out, hm0⟩ (by omega) (by omega))
  by_cases c0 : (1048576 : Int) < x0.length
  · rw [if_pos c0] at hz0
    have e2 := hv2.out; subst e2
    have hx2 : (x2.length : Int) ≤ 1048576 := by omega
    have e3 := hv3.out; subst e3
    have hx3 : (x3.length : Int) ≤ 1048576 := by omega
    go_enter Try.func13, Try.ntmps13
    go_wp2_with fail
    refine hz0.out.mono ?_; rintro e w' ⟨rfl, rfl⟩
    go_wp2
    go_ret
    exact ⟨rfl, Below.refl _ _⟩
  rw [if_neg c0] at hz0
  have l0 : (0 : Int) ≤ 1048576 - x0.length := by omega
  have b0 : x0.length ≤ 1048576 := by omega
  have hx2 : (x2.length : Int) ≤ 1048576 := by omega
  have hx3 : (x3.length : Int) ≤ 1048576 := by omega
  have z0 := size_le b0
  have z2 := size_le b2
  have z3 := size_le b3
  have hB := Below.refl w.heap.size w
  clear hr0 hm0
  clear hr2 hm2
  clear hr3 hm3
  clear hv0
  have e2 := hv2.out; subst e2; clear hv2
  have e3 := hv3.out; subst e3; clear hv3
  go_enter Try.func13, Try.ntmps13
  go_wp2_with fail
  refine hz0.out.mono ?_; rintro e w' ⟨rfl, rfl⟩
  clear hz0
  go_wp2_with fail
  refine (toRuleS_any _ x0 _ (s0.below hB) b0).mono ?_; rintro e w1 ⟨s0_, rfl, ho_s0_, hb⟩
  replace ho_s0_ := own_mono ho_s0_ hB.size
  replace hB := below_tr hb hB
  clear hb
  go_wp2_with fail
  refine (toInt64S_any _ x2 _ (s2.below hB) b2).mono ?_; rintro e w2 ⟨s2_, rfl, ho_s2_, hb⟩
  have d_s0__s2_ := dj_new ho_s0_ ho_s2_
  replace ho_s0_ := own_below ho_s0_ hb
  replace ho_s2_ := own_mono ho_s2_ hB.size
  replace hB := below_tr hb hB
  clear hb
  go_wp2_with fail
  refine (toBoolS_any _ x3 _ (s3.below hB) b3).mono ?_; rintro e w3 ⟨s3_, rfl, ho_s3_, hb⟩
  have d_s0__s3_ := dj_new ho_s0_ ho_s3_
  have d_s2__s3_ := dj_new ho_s2_ ho_s3_
  replace ho_s0_ := own_below ho_s0_ hb
  replace ho_s2_ := own_below ho_s2_ hb
  replace ho_s3_ := own_mono ho_s3_ hB.size
  replace hB := below_tr hb hB
  clear hb
  go_wp2_with fail
  refine (spec_any _ _ x0 i0 b0 (own_sl ho_s0_ z0) a1 i1 _ x2 i2 b2 (own_sl ho_s2_ z2) _ x3 i3 b3 (own_sl ho_s3_ z3)).mono ?_; rintro e w4 ⟨rfl, hb⟩
  replace ho_s0_ := own_below ho_s0_ hb
  replace ho_s2_ := own_below ho_s2_ hb
  replace ho_s3_ := own_below ho_s3_ hb
  replace hB := below_tr hb hB
  clear hb
  clear ho_s0_ d_s0__s2_ d_s0__s3_
  clear ho_s2_ d_s2__s3_
  clear ho_s3_
  go_wp2_with fail
  refine (toRuleS_any _ x0 _ (s0.below hB) b0).mono ?_; rintro e w5 ⟨x0_, rfl, ho_x0_, hb⟩
  replace ho_x0_ := own_mono ho_x0_ hB.size
  replace hB := below_tr hb hB
  clear hb
  go_wp2_with fail
  refine (toInt64S_any _ x2 _ (s2.below hB) b2).mono ?_; rintro e w6 ⟨x2_, rfl, ho_x2_, hb⟩
  have d_x0__x2_ := dj_new ho_x0_ ho_x2_
  replace ho_x0_ := own_below ho_x0_ hb
  replace ho_x2_ := own_mono ho_x2_ hB.size
  replace hB := below_tr hb hB
  clear hb
  go_wp2_with fail
  refine (toBoolS_any _ x3 _ (s3.below hB) b3).mono ?_; rintro e w7 ⟨x3_, rfl, ho_x3_, hb⟩
  have d_x0__x3_ := dj_new ho_x0_ ho_x3_
  have d_x2__x3_ := dj_new ho_x2_ ho_x3_
  replace ho_x0_ := own_below ho_x0_ hb
  replace ho_x2_ := own_below ho_x2_ hb
  replace ho_x3_ := own_mono ho_x3_ hB.size
  replace hB := below_tr hb hB
  clear hb
  go_wp2_with fail
  refine (impl_any _ _ x0 i0 b0 (own_sl ho_x0_ z0) a1 i1 _ x2 i2 b2 (own_sl ho_x2_ z2) _ x3 i3 b3 (own_sl ho_x3_ z3)).mono ?_; rintro e w8 ⟨rfl, hb⟩
  replace ho_x0_ := own_below ho_x0_ hb
  replace ho_x2_ := own_below ho_x2_ hb
  replace ho_x3_ := own_below ho_x3_ hb
  replace hB := below_tr hb hB
  clear hb
  go_wp2_with fail
  refine (toRuleS_any _ x0 _ (s0.below hB) b0).mono ?_; rintro e w9 ⟨c0_, rfl, ho_c0_, hb⟩
  have d_x0__c0_ := dj_new ho_x0_ ho_c0_
  have d_x2__c0_ := dj_new ho_x2_ ho_c0_
  have d_x3__c0_ := dj_new ho_x3_ ho_c0_
  replace ho_x0_ := own_below ho_x0_ hb
  replace ho_x2_ := own_below ho_x2_ hb
  replace ho_x3_ := own_below ho_x3_ hb
  replace ho_c0_ := own_mono ho_c0_ hB.size
  replace hB := below_tr hb hB
  clear hb
  go_wp2_with fail
  refine (eqRuleS_any _ _ x0 x0 _ (own_sl ho_x0_ z0) (own_sl ho_c0_ z0)).mono ?_; rintro e w10 ⟨rfl, hb⟩
  replace ho_x0_ := own_below ho_x0_ hb
  replace ho_x2_ := own_below ho_x2_ hb
  replace ho_x3_ := own_below ho_x3_ hb
  replace ho_c0_ := own_below ho_c0_ hb
  replace hB := below_tr hb hB
  clear hb
  clear ho_c0_ d_x0__c0_ d_x2__c0_ d_x3__c0_
  go_wp2_with fail
  refine (toInt64S_any _ x2 _ (s2.below hB) b2).mono ?_; rintro e w11 ⟨c2_, rfl, ho_c2_, hb⟩
  have d_x0__c2_ := dj_new ho_x0_ ho_c2_
  have d_x2__c2_ := dj_new ho_x2_ ho_c2_
  have d_x3__c2_ := dj_new ho_x3_ ho_c2_
  replace ho_x0_ := own_below ho_x0_ hb
  replace ho_x2_ := own_below ho_x2_ hb
  replace ho_x3_ := own_below ho_x3_ hb
  replace ho_c2_ := own_mono ho_c2_ hB.size
  replace hB := below_tr hb hB
  clear hb
  go_wp2_with fail
  refine (eqInt64S_b _ _ x2 x2 _ (own_sl ho_x2_ z2) (own_sl ho_c2_ z2)).mono ?_; rintro e w12 ⟨rfl, hb⟩
  replace ho_x0_ := own_below ho_x0_ hb
  replace ho_x2_ := own_below ho_x2_ hb
  replace ho_x3_ := own_below ho_x3_ hb
  replace ho_c2_ := own_below ho_c2_ hb
  replace hB := below_tr hb hB
  clear hb
  clear ho_c2_ d_x0__c2_ d_x2__c2_ d_x3__c2_
  go_wp2_with fail
  refine (toBoolS_any _ x3 _ (s3.below hB) b3).mono ?_; rintro e w13 ⟨c3_, rfl, ho_c3_, hb⟩
  have d_x0__c3_ := dj_new ho_x0_ ho_c3_
  have d_x2__c3_ := dj_new ho_x2_ ho_c3_
  have d_x3__c3_ := dj_new ho_x3_ ho_c3_
  replace ho_x0_ := own_below ho_x0_ hb
  replace ho_x2_ := own_below ho_x2_ hb
  replace ho_x3_ := own_below ho_x3_ hb
  replace ho_c3_ := own_mono ho_c3_ hB.size
  replace hB := below_tr hb hB
  clear hb
  go_wp2_with fail
  refine (eqBoolS_b _ _ x3 x3 _ (own_sl ho_x3_ z3) (own_sl ho_c3_ z3)).mono ?_; rintro e w14 ⟨rfl, hb⟩
  replace ho_x0_ := own_below ho_x0_ hb
  replace ho_x2_ := own_below ho_x2_ hb
  replace ho_x3_ := own_below ho_x3_ hb
  replace ho_c3_ := own_below ho_c3_ hb
  replace hB := below_tr hb hB
  clear hb
  clear ho_c3_ d_x0__c3_ d_x2__c3_ d_x3__c3_
  go_wp2_with fail
  go_ret
  exact ⟨rfl, hB⟩

theorem own : ownKnob Try.prog.godebug = none := by kernel_rfl
theorem laidOut : laidOutB Try.prog = true := by kernel_rfl

set_option maxRecDepth 100000 in
theorem lifted (os : Os) (started : os.Started) (H : Type) (enc : TypeId × Value → H) :
    ReturnsInHanded {} Try.checked os 13 .any (Rows.fnExactRingGapSpec.pre6 enc Try.prog Try.f13 Rows.fnExactRingGapRow.domain false) (Rows.fnExactRingGapSpec.post enc Try.prog Try.f13 false true false false) := by
  refine returnsInHanded_of_change (C := Try.checked) own started (by as_aux_lemma => kernel_rfl) Try.func13
    (ChangeSpec.witness6 (enc := enc) (C := Try.checked) false ⟨#[], #[.slice none 0 0, .int .i64 0, .slice none 0 0, .slice none 0 0], []⟩ 8 (by as_aux_lemma => kernel_rfl) (by as_aux_lemma => kernel_rfl) (by as_aux_lemma => kernel_rfl) (by as_aux_lemma => kernel_rfl)) ?_
  intro W base args ds gs before hval0 hW hcnd _
  have hval : ∀ (j : Nat) t v, Try.f13.params[j]? = some t → args[j]? = some v → Value.okWide Try.prog W .any base t v := hval0
  have hW' := hW
  obtain ⟨p, q, hA0, hV, rfl, hfz, hnd⟩ := hW
  have hA : DataW.TrodAll enc Try.prog W 0 (fun _ => true) true Try.f13.params.toList args.toList ds p := hA0
  rw [Try.params13] at hA hval
  obtain ⟨v0, vs0, d0, ds0, p0, q0, hargs, rfl, rfl, h0, r0⟩ := trodAll_cons hA
  obtain ⟨v1, vs1, d1, ds1, p1, q1, rfl, rfl, rfl, h1, r1⟩ := trodAll_cons r0
  obtain ⟨v2, vs2, d2, ds2, p2, q2, rfl, rfl, rfl, h2, r2⟩ := trodAll_cons r1
  obtain ⟨v3, vs3, d3, ds3, p3, q3, rfl, rfl, rfl, h3, r3⟩ := trodAll_cons r2
  obtain ⟨rfl, rfl, rfl⟩ := trodAll_nil r3
  obtain rfl : args = #[v0, v1, v2, v3] := by cases args; simp_all
  obtain ⟨rfl, rfl⟩ := trodVars_none hV
  have k0 := h0
  have lt0 : ∀ x ∈ p0, x.block < W.heap.size := by obtain ⟨m, hm⟩ := k0; exact DataW.trod_lt m _ _ _ hm
  obtain ⟨s0, len0, cap0, rfl⟩ := okWide_slice Try.underlying41 (hval 0 41 v0 rfl rfl)
  obtain ⟨x0, _, i0, w0⟩ := arg_q4 Try.underlying41 Try.underlying102 Try.underlying2 rfl (by as_aux_lemma => kernel_rfl) (by as_aux_lemma => kernel_rfl) h0
  obtain ⟨a1, rfl, rfl, rfl, w1⟩ := open_int Try.underlying2 (hval 1 2 v1 rfl rfl) h1
  have k2 := h2
  have lt2 : ∀ x ∈ p2, x.block < W.heap.size := by obtain ⟨m, hm⟩ := k2; exact DataW.trod_lt m _ _ _ hm
  obtain ⟨s2, len2, cap2, rfl⟩ := okWide_slice Try.underlying22 (hval 2 22 v2 rfl rfl)
  obtain ⟨x2, _, i2, w2⟩ := arg_ints Try.underlying22 Try.underlying2 (by as_aux_lemma => kernel_rfl) h2
  have k3 := h3
  have lt3 : ∀ x ∈ p3, x.block < W.heap.size := by obtain ⟨m, hm⟩ := k3; exact DataW.trod_lt m _ _ _ hm
  obtain ⟨s3, len3, cap3, rfl⟩ := okWide_slice Try.underlying50 (hval 3 50 v3 rfl rfl)
  obtain ⟨x3, _, i3, w3⟩ := arg_bools Try.underlying50 Try.underlying4 (by as_aux_lemma => kernel_rfl) h3
  clear hA0 hval0
  refine (walk W _ x0 i0 w0 a1 (i64_of_wf w1) _ x2 i2 w2 _ x3 i3 w3).mono fun e W' ⟨he, bel⟩ => ?_
  subst he
  exact ⟨_, rfl, _, _, _, [], _, [], hW', trodAll_mk1 (shut_bool Try.underlying4 _), (trodAll_cons_mk (Below.trod laidOut (by as_aux_lemma => kernel_rfl) (of_decide_eq_true (by as_aux_lemma => kernel_rfl)) k0 bel lt0) (trodAll_cons_mk (shut_int Try.underlying2 w1) (trodAll_cons_mk (Below.trod laidOut (by as_aux_lemma => kernel_rfl) (of_decide_eq_true (by as_aux_lemma => kernel_rfl)) k2 bel lt2) (trodAll_cons_mk (Below.trod laidOut (by as_aux_lemma => kernel_rfl) (of_decide_eq_true (by as_aux_lemma => kernel_rfl)) k3 bel lt3) (trodAll_mk0))))), rfl, bel.frame _, fun h => by cases h⟩

/-- The given statement. -/
theorem proved : Rows.FnExactRingGapSaid :=
  OpenClaim.holds_of_wide 13 Try.f13 rfl rfl rfl rfl rfl rfl rfl ⟨rfl, rfl, rfl, rfl, rfl⟩ rfl rfl rfl rfl rfl (by kernel_rfl) Try.func13 (by kernel_rfl)
    (of_decide_eq_true (by kernel_rfl)) (by unfold Func.isWrapper; first | (rw [if_pos (by decide +kernel)]; kernel_rfl) | (rw [if_neg (by decide +kernel)]; exact ⟨rfl, rfl⟩))
    (fun os started H enc _ => lifted os started H enc)
#print axioms proved

end Go.Proofs.Ytahhmpaaggeakaa.lFnExactRingGap
