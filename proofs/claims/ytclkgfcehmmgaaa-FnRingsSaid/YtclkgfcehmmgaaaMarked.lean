/- Arcs without marks alone: whether each ring has a mark, on both sides. -/
import Derived.Test.YtclkgfcehmmgaaaProg
import Derived.Test.YtclkgfcehmmgaaaRelax
import Derived.Test.YtclkgfcehmmgaaaRises
import Derived.Deep.RegionLaw
namespace Go.Proofs.Ytclkgfcehmmgaaa
open Go.RowKit Plain
set_option linter.unusedVariables false
set_option linter.unusedSimpArgs false
attribute [local go_sem ↓] Go.wp_at_zero Go.wp_at_succ

/-- the arcs without marks, each 1 long -/
def bareOf (l : List Q4) : List Q4 := (l.filter fun a => a.d == 0).map fun a => ⟨a.a, a.b, 1, 0⟩
theorem bare_yes {l : List Q4} {k : Nat} {a : Q4} (h : l[k]? = some a) (hd : a.d = 0) : bareOf (l.take (k + 1)) = bareOf (l.take k) ++ [⟨a.a, a.b, 1, 0⟩] := by
  rw [List.take_add_one, h, bareOf, List.filter_append]; simp [bareOf, hd]
theorem bare_no {l : List Q4} {k : Nat} {a : Q4} (h : l[k]? = some a) (hd : ¬ a.d = 0) : bareOf (l.take (k + 1)) = bareOf (l.take k) := by
  rw [List.take_add_one, h, bareOf, List.filter_append]; simp [bareOf, hd]
theorem bare_len (l : List Q4) : (bareOf l).length ≤ l.length := by
  simp only [bareOf, List.length_map]; exact List.length_filter_le _ _
theorem bare_ok {n : Nat} {l : List Q4} (h : ∀ a ∈ l, arcB (n : Int) a = true) : ∀ a ∈ bareOf l, arcB (n : Int) a = true := by
  intro a ha
  simp only [bareOf, List.mem_map, List.mem_filter] at ha
  obtain ⟨z, ⟨hz, _⟩, rfl⟩ := ha
  have := h z hz
  obtain ⟨a, b, c, d⟩ := z
  obtain ⟨h1, h2, _⟩ := arcB_iff.1 this
  exact arcB_iff.2 ⟨h1, h2, by omega, by omega⟩
theorem q4s_snoc (l : List Q4) (a b c d : Int) : q4s (l ++ [⟨a, b, c, d⟩]) = q4s l ++ [.int .i64 a, .int .i64 b, .int .i64 c, .int .i64 d] := by rw [q4s_append]; rfl

theorem eqlNilA_run (a : Option Addr) (n c : Nat) (w : World) : (binOp .eql 25 (.slice a n c) (.slice none 0 0)).run Try.prog w = .ok (.bool a.isNone) w := Lib.run_eql_slice_nil w _ _ _ _ _ _ _ Try.underlying25
set_option maxHeartbeats 2000000 in
set_option maxRecDepth 100000 in
theorem areMarked_any (n : Nat) (v : Value) (l : List Q4) (w : World) (n1 : 1 ≤ n) (n2 : n ≤ 12) (hs : Sl w 4 v l.length (q4s l)) (hl : l.length ≤ 32) (ha : ∀ a ∈ l, arcB (n : Int) a = true) :
    Calls Try.prog 31 #[.int .i64 n, v] w fun e w' => e = .returned (.bool (fixA (asQ 0 1 (bareOf l)) n)) ∧ Below w.heap.size w w' := by
  have RX := hd (fun w' v' (h : Sl w' 4 v' (bareOf l).length (q4s (bareOf l))) => relax_any n v' (bareOf l) 0 1 w' n1 n2 h (Nat.le_trans (bare_len l) hl) (bare_ok ha) (by omega) (by omega) (by omega) (by omega))
  have BL := bare_len l
  have BY := hd (fun k a h1 h2 => bare_yes (l := l) (k := k) (a := a) h1 h2)
  have BN := hd (fun k a h1 h2 => bare_no (l := l) (k := k) (a := a) h1 h2)
  have BK := hd (fun k => bare_len (l.take k))
  obtain ⟨A, cap, rfl, hcap, hr⟩ := hs
  have hm0 := hr.2.1
  unfold maxLen at hm0
  have HR := hd hr
  generalize fixA (asQ 0 1 (bareOf l)) n = fx at *
  obtain ⟨N, hN⟩ : ∃ N, N = l.length := ⟨_, rfl⟩
  rw [← hN] at hl hcap hm0 HR BL ⊢
  have HN := hd hN
  clear ha hr hN
  have EN := eqlNilA_run
  go_enter Try.func31, Try.ntmps31
  go_wp2
  have hstart := World.ownsRow_made (size := 4) w #[] 0 (Nat.le_refl _) (by unfold maxLen; omega) rfl (e := 37)
  go_loopw [5, 13] (fun out ix wr => ∃ k : Nat, k ≤ N ∧ ix = .int .i64 k ∧ wr.ownsRow w.heap.size 37 4 out (bareOf (l.take k)).length (q4s (bareOf (l.take k))) ∧ Below w.heap.size w wr) (fun _ ix _ => N - (intOf ix).toNat)
  case atStart => exact ⟨0, by omega, rfl, by simpa [bareOf, q4s] using hstart, (Below.refl _ _).alloc (Nat.le_refl _) _⟩
  case round =>
    clear hstart
    obtain ⟨k, hk, rfl, ho, hb⟩ := hrel
    by_cases hkt : k < N
    · obtain ⟨bb, off, qa, qb, qc, qd, rfl, hq, c0, c1, c2, c3⟩ := (HR.out.below hb).q4 hkt
      have Ho := hd ho; have Hb := hd hb
      have hlen : (bareOf (l.take k)).length ≤ 1048576 := by
        have h1 := BK.out k
        have h2 : (l.take k).length ≤ k := List.length_take_le k l
        omega
      have i1 : (0 : Int) ≤ (k : Int) := by omega
      have i2 : (k : Int) < (N : Int) := by omega
      have HOA := hd (ho.alloc (.cells #[.int .i64 qa, .int .i64 qb, .int .i64 qc, .int .i64 qd] 37))
      have HBA := hd ((Below.refl wr.heap.size wr).alloc (Nat.le_refl _) (.cells #[.int .i64 qa, .int .i64 qb, .int .i64 qc, .int .i64 qd] 37))
      have hsz : w.heap.size ≤ (wr.alloc (.cells #[.int .i64 qa, .int .i64 qb, .int .i64 qc, .int .i64 qd] 37)).heap.size := by have := hb.size; simp; omega
      have HSZ := hd hsz
      clear ho hb hsz
      by_cases hd0 : qd = 0
      · subst hd0
        have HBY := hd (BY.out k _ hq.out rfl)
        go_wp2_with (at_builtin; go_must (refine wpList_app_arc _ _ _ _ _ _ rfl _ _ rfl w.heap.size _ _ _ rfl HOA.out _ rfl (by simp) hlen HSZ.out ?_); intro v' w6 ho6 hg6 hap)
        go_roundw
        case rel =>
          refine ⟨k + 1, by omega, by go_num, ?_, below_row hg6 (below_tr HBA.out Hb.out) (own_row HOA.out (Nat.le_refl _))⟩
          rw [HBY.out, q4s_snoc, List.length_append]
          exact ho6
        case measure => simp [intOf]; omega
      · have HBN := hd (BN.out k _ hq.out hd0)
        go_wp2
        go_roundw
        case rel => exact ⟨k + 1, by omega, by go_num, by rw [HBN.out]; exact own_below Ho.out HBA.out, below_tr HBA.out Hb.out⟩
        case measure => simp [intOf]; omega
    · have e : k = N := by omega
      subst e
      rw [List.take_of_length_le (by rw [← HN.out]; exact Nat.le_refl _)] at ho
      have hsl := own_sl ho (by unfold maxLen; omega)
      have RX2 := hd (RX.out wr u5 hsl)
      have Hb := hd hb
      clear ho hb hsl
      cases fx with
      | true =>
        go_wp2_with (go_at_call 32; refine RX2.out.mono ?_; rintro e w2 ⟨hb2, ⟨_, u, rfl, _⟩ | ⟨h, _⟩⟩; rotate_left; (cases h))
        go_ret
        exact ⟨rfl, below_tr hb2 Hb.out⟩
      | false =>
        go_wp2_with (go_at_call 32; refine RX2.out.mono ?_; rintro e w2 ⟨hb2, ⟨h, _⟩ | ⟨_, u, g, m, c, rfl, _⟩⟩; (cases h))
        go_ret
        exact ⟨rfl, below_tr hb2 Hb.out⟩
theorem step_app_arc {ops : Array Oper} {o : Oper} {a : Act} {w : World} {K : Act → World → Prop} {Q : Exit → Act → World → Prop} {E : Prop} (hgd : o.guard = none) (s x : Operand)
    (ho : o.op = .call { callee := .builtin .append, args := #[s, x], argTypes := #[25, 25] }) (base n : Nat) (v : Value) (xs : List Value) (hs : a.eval s = v) (hown : w.ownsRow base 37 4 v n xs)
    (q : Nat) (x0 x1 x2 x3 : Int) (hx : a.eval x = .slice (some ⟨q, 0, none⟩) 1 1) (hc : ∀ j u, [Value.int .i64 x0, .int .i64 x1, .int .i64 x2, .int .i64 x3][j]? = some u → w.cell? ((⟨q, 0, none⟩ : Addr).add j) = some u) (hn : n ≤ 1048576) (hbase : base ≤ w.heap.size)
    (h : ∀ v' w', w'.ownsRow base 37 4 v' (n + 1) (xs ++ [.int .i64 x0, .int .i64 x1, .int .i64 x2, .int .i64 x3]) → w.grownBy w' v.ownBlock → K (a.put o.dst v') w') :
    if Region.wanted o (yielded ops a.tmps) = true then Oper.wp Try.prog o a w K Q else E := by
  obtain ⟨i0, hi, hz0, hz1, hz2⟩ := info_parts infoArcA
  rw [if_pos (by simp [Region.wanted, hgd])]
  exact wp_append_own _ s x 25 ho base 37 i0 _ 4 32 Try.underlying25 hi hz0 hz1 hz2 rfl (by decide) v n xs hs hown ⟨q, 0, none⟩ 1 1 _ hx rfl hc (by intro u hu; simp at hu; rcases hu with rfl | rfl | rfl | rfl <;> rfl) (by unfold maxLen; omega) (by omega) hbase (fun v' w' h2 h3 _ => h v' w' h2 h3)

set_option maxHeartbeats 2000000 in
set_option maxRecDepth 100000 in
theorem l05Marked_any (n : Nat) (v : Value) (l : List Q4) (w : World) (n1 : 1 ≤ n) (n2 : n ≤ 12) (hs : Sl w 4 v l.length (q4s l)) (hl : l.length ≤ 32) (ha : ∀ a ∈ l, arcB (n : Int) a = true) :
    Calls Try.prog 29 #[.int .i64 n, v] w fun e w' => e = .returned (.bool (fixA (asQ 0 1 (bareOf l)) n)) ∧ Below w.heap.size w w' := by
  have RX := hd (fun w' v' (h : Sl w' 4 v' (bareOf l).length (q4s (bareOf l))) => rises_any n v' (bareOf l) 0 1 w' n1 n2 h (Nat.le_trans (bare_len l) hl) (bare_ok ha) (by omega) (by omega) (by omega) (by omega))
  have BL := bare_len l
  have BY := hd (fun k a h1 h2 => bare_yes (l := l) (k := k) (a := a) h1 h2)
  have BN := hd (fun k a h1 h2 => bare_no (l := l) (k := k) (a := a) h1 h2)
  have BK := hd (fun k => bare_len (l.take k))
  obtain ⟨A, cap, rfl, hcap, hr⟩ := hs
  have hm0 := hr.2.1
  unfold maxLen at hm0
  have HR := hd hr
  generalize fixA (asQ 0 1 (bareOf l)) n = fx at *
  obtain ⟨N, hN⟩ : ∃ N, N = l.length := ⟨_, rfl⟩
  rw [← hN] at hl hcap hm0 HR BL ⊢
  have HN := hd hN
  clear ha hr hN
  go_enter Try.func29, Try.ntmps29
  go_wp2
  have hstart := World.ownsRow_made (size := 4) w #[] 0 (Nat.le_refl _) (by unfold maxLen; omega) rfl (e := 37)
  go_loopw [5, 13] (fun out ix wr => ∃ k : Nat, k ≤ N ∧ ix = .int .i64 k ∧ wr.ownsRow w.heap.size 37 4 out (bareOf (l.take k)).length (q4s (bareOf (l.take k))) ∧ Below w.heap.size w wr) (fun _ ix _ => N - (intOf ix).toNat)
  case atStart => exact ⟨0, by omega, rfl, by simpa [bareOf, q4s] using hstart, (Below.refl _ _).alloc (Nat.le_refl _) _⟩
  case round =>
    clear hstart
    obtain ⟨k, hk, rfl, ho, hb⟩ := hrel
    by_cases hkt : k < N
    · obtain ⟨bb, off, qa, qb, qc, qd, rfl, hq, c0, c1, c2, c3⟩ := (HR.out.below hb).q4 hkt
      have Ho := hd ho; have Hb := hd hb
      have hlen : (bareOf (l.take k)).length ≤ 1048576 := by
        have h1 := BK.out k
        have h2 : (l.take k).length ≤ k := List.length_take_le k l
        omega
      have i1 : (0 : Int) ≤ (k : Int) := by omega
      have i2 : (k : Int) < (N : Int) := by omega
      have HOA := hd (show ((wr.drew).alloc (.cells #[.int .i64 qa, .int .i64 qb, .int .i64 1, .int .i64 0] 37)).ownsRow w.heap.size 37 4 u5 (bareOf (l.take k)).length (q4s (bareOf (l.take k))) from (show (wr.drew).ownsRow w.heap.size 37 4 u5 (bareOf (l.take k)).length (q4s (bareOf (l.take k))) from ho).alloc _)
      have HBA := hd (show Below wr.heap.size wr ((wr.drew).alloc (.cells #[.int .i64 qa, .int .i64 qb, .int .i64 1, .int .i64 0] 37)) from ((Below.refl wr.heap.size wr).drew).alloc (Nat.le_refl _) _)
      have HNW := hd (fun j u h => cell_four_new wr.drew (.int .i64 qa) (.int .i64 qb) (.int .i64 1) (.int .i64 0) 37 j u h)
      have hsz : w.heap.size ≤ ((wr.drew).alloc (.cells #[.int .i64 qa, .int .i64 qb, .int .i64 1, .int .i64 0] 37)).heap.size := by
        have h1 := hb.size
        have h2 : ((wr.drew).alloc (.cells #[.int .i64 qa, .int .i64 qb, .int .i64 1, .int .i64 0] 37)).heap.size = wr.heap.size + 1 := by simp
        omega
      have HSZ := hd hsz
      clear ho hb hsz
      by_cases hd0 : qd = 0
      · subst hd0
        have HBY := hd (BY.out k _ hq.out rfl)
        go_wp2
        go_region_law (refine step_app_arc rfl (.tmp 22) (.tmp 34) rfl w.heap.size _ u5 _ rfl HOA.out wr.heap.size qa qb 1 0 rfl HNW.out hlen HSZ.out ?_; intro v' w6 ho6 hg6)
        all_goals
          go_wp2
          go_roundw
          case rel =>
            refine ⟨k + 1, by omega, by go_num, ?_, below_row hg6 (below_tr HBA.out Hb.out) (own_row HOA.out (Nat.le_refl _))⟩
            rw [HBY.out, q4s_snoc, List.length_append]
            exact ho6
          case measure => simp [intOf]; omega
      · have HBN := hd (BN.out k _ hq.out hd0)
        go_wp2
        go_roundw
        case rel => exact ⟨k + 1, by omega, by go_num, by rw [HBN.out]; exact Ho.out, Hb.out⟩
        case measure => simp [intOf]; omega
    · have e : k = N := by omega
      subst e
      rw [List.take_of_length_le (by rw [← HN.out]; exact Nat.le_refl _)] at ho
      have hsl := own_sl ho (by unfold maxLen; omega)
      have RX2 := hd (RX.out wr u5 hsl)
      have Hb := hd hb
      clear ho hb hsl
      cases fx with
      | true =>
        go_wp2_with (go_at_call 47; refine RX2.out.mono ?_; rintro e w2 ⟨hb2, ⟨_, u, rfl, _⟩ | ⟨h, _⟩⟩; rotate_left; (cases h))
        go_ret
        exact ⟨rfl, below_tr hb2 Hb.out⟩
      | false =>
        go_wp2_with (go_at_call 47; refine RX2.out.mono ?_; rintro e w2 ⟨hb2, ⟨h, _⟩ | ⟨_, u, rfl, _⟩⟩; (cases h))
        go_ret
        exact ⟨rfl, below_tr hb2 Hb.out⟩
end Go.Proofs.Ytclkgfcehmmgaaa
