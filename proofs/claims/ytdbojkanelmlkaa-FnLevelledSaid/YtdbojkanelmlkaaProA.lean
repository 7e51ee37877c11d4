/- Tasks as the walk holds them; valid tasks are told to be valid. -/
import Derived.Test.YtdbojkanelmlkaaProg
import Derived.Test.YtdbojkanelmlkaaNum
import Derived.Test.YtdbojkanelmlkaaProT
import Derived.Test.YtdbojkanelmlkaaOwnF
import Derived.Test.YtdbojkanelmlkaaApp
import Derived.Test.YtdbojkanelmlkaaStoreOwn
import Derived.Sort.AtCall
import Derived.Deep.CutRange
namespace Go.Proofs.Ytdbojkanelmlkaa
open Go.RowKit Plain
set_option linter.unusedVariables false
set_option linter.unusedSimpArgs false
attribute [local go_sem ↓] Go.wp_at_zero Go.wp_at_succ
/-- the cells of one task -/
def TCell (w : World) (b p : Nat) (t : TK) : Prop := ∃ Ab cb Al cl, w.cell? ⟨b, p, none⟩ = some (.int .i64 t.a) ∧ w.cell? ⟨b, p + 1, none⟩ = some (.int .i64 t.b) ∧ w.cell? ⟨b, p + 2, none⟩ = some (.slice Ab t.bf.length cb) ∧ w.cell? ⟨b, p + 3, none⟩ = some (.slice Al t.bf.length cl) ∧
  Rd w 1 Ab t.bf.length (t.bf.map vi) ∧ Rd w 1 Al t.bf.length (t.lg.map vi) ∧ t.bf.length ≤ cb ∧ t.bf.length ≤ cl
/-- a slice of valid tasks -/
structure TA (w : World) (b o c : Nat) (ts : List TK) (n : Nat) : Prop where
  ok : TasksOk ts n
  n1 : 1 ≤ n
  n9 : n ≤ 9
  nc : n ≤ c
  cl : ∀ i, i < n → TCell w b (o + i * 4) (tkAt ts i)
theorem TCell.below {w w' : World} {b p : Nat} {t : TK} (h : TCell w b p t) (hb : Below w.heap.size w w') : TCell w' b p t := by
  obtain ⟨Ab, cb, Al, cl, h0, h1, h2, h3, h4, h5, h6, h7⟩ := h
  exact ⟨Ab, cb, Al, cl, below_at hb h0, below_at hb h1, below_at hb h2, below_at hb h3, h4.below hb, h5.below hb, h6, h7⟩
theorem TA.below {w w' : World} {b o c : Nat} {ts : List TK} {n : Nat} (h : TA w b o c ts n) (hb : Below w.heap.size w w') : TA w' b o c ts n := ⟨h.ok, h.n1, h.n9, h.nc, fun i hi => (h.cl i hi).below hb⟩
theorem TA.blk {w : World} {b o c : Nat} {ts : List TK} {n : Nat} (h : TA w b o c ts n) : b < w.heap.size := by
  obtain ⟨_, _, _, _, h0, _⟩ := h.cl 0 h.n1
  exact block_lt_of_cell h0
/-- a slice of starts -/
structure SA (w : World) (V : Value) (s : List Int) (n : Nat) (lo hi : Int) : Prop where
  sl : Sl w 1 V n (s.map vi)
  bd : ∀ k, k < n → lo ≤ s.getD k 0 ∧ s.getD k 0 ≤ hi
theorem SA.below {w w' : World} {V : Value} {s : List Int} {n : Nat} {lo hi : Int} (h : SA w V s n lo hi) (hb : Below w.heap.size w w') : SA w' V s n lo hi := ⟨h.sl.below hb, h.bd⟩
theorem max_ifT (a b : Int) : max a b = if a < b then b else a := by split <;> omega
theorem min_ifT (a b : Int) : min a b = if b < a then b else a := by split <;> omega
set_option maxHeartbeats 2000000 in
theorem AreTasks_any (b o c : Nat) (ts : List TK) (n : Nat) (w : World) (h : TA w b o c ts n) :
    Calls Try.prog 28 #[.slice (some ⟨b, o, none⟩) n c] w fun r w' => r = .returned (.bool true) ∧ Below w.heap.size w w' := by
  have HT := hd h
  have n1 := h.n1
  have n9 := h.n9
  have hnc := h.nc
  clear h
  go_enter Try.func28, Try.ntmps28
  go_wp2
  go_loopw [9] (fun i wr => ∃ k : Nat, k ≤ n ∧ i = .int .i64 k ∧ Hid (Below w.heap.size w wr)) (fun i _ => n - (intOf i).toNat)
  case atStart => exact ⟨0, by omega, rfl, hd (Below.refl _ _)⟩
  case round =>
    obtain ⟨i, hi, rfl, HB⟩ := hrel
    by_cases hlt : i < n
    · obtain ⟨Ab, cb, Al, cl, c0, c1, c2, c3, hb, hl, hcb, hcl⟩ := (HT.out.below HB.out).cl i hlt
      have OK := hd (HT.out.ok i hlt)
      have hi2 : (i : Int) < (n : Int) := Int.ofNat_lt.2 hlt
      generalize tkAt ts i = t at *
      obtain ⟨m, hm⟩ : ∃ m, m = t.bf.length := ⟨_, rfl⟩
      have HM := hd hm
      have g1 : inR t.a 0 100 = true := inR_iff.2 ⟨OK.out.a0, OK.out.a1⟩
      have g2 : inR t.b 0 20 = true := inR_iff.2 ⟨OK.out.b0, OK.out.b1⟩
      have hs := OK.out.short
      have GL := hd (show t.lg.all (inR · (-100) 100) = true from List.all_eq_true.2 fun x hx => by
        obtain ⟨k, hk, rfl⟩ := List.mem_iff_getElem.1 hx
        have := OK.out.l0 k (by rw [← OK.out.ll]; exact hk)
        rw [List.getD_eq_getElem?_getD, List.getElem?_eq_getElem hk] at this
        exact inR_iff.2 this)
      rw [← hm] at c2 c3 hb hl hcb hcl hs
      have HBW := hd (HB.out.alloc HB.out.size (.cells #[.int .i64 t.a, .int .i64 t.b, .slice Ab m cb, .slice Al m cl] 34))
      have ALW := (Below.refl _ wr).alloc (Nat.le_refl _) (.cells #[.int .i64 t.a, .int .i64 t.b, .slice Ab m cb, .slice Al m cl] 34)
      have RB := hd (hb.below ALW)
      have RL := hd (show Sl _ 1 (.slice Al m cl) t.lg.length (t.lg.map vi) from by rw [OK.out.ll, ← hm]; exact ⟨Al, cl, rfl, hcl, hl.below ALW⟩)
      clear hm hb hl ALW
      go_upto_region 4 with fail
      have k0 : (wr.alloc (.cells #[.int .i64 t.a, .int .i64 t.b, .slice Ab m cb, .slice Al m cl] 34)).cell? ⟨wr.heap.size, 0, none⟩ = some (.int .i64 t.a) := (World.cell?_alloc_new ..).trans rfl
      have k1 : (wr.alloc (.cells #[.int .i64 t.a, .int .i64 t.b, .slice Ab m cb, .slice Al m cl] 34)).cell? ⟨wr.heap.size, 1, none⟩ = some (.int .i64 t.b) := (World.cell?_alloc_new ..).trans rfl
      have k2 : (wr.alloc (.cells #[.int .i64 t.a, .int .i64 t.b, .slice Ab m cb, .slice Al m cl] 34)).cell? ⟨wr.heap.size, 2, none⟩ = some (.slice Ab m cb) := (World.cell?_alloc_new ..).trans rfl
      have k3 : (wr.alloc (.cells #[.int .i64 t.a, .int .i64 t.b, .slice Ab m cb, .slice Al m cl] 34)).cell? ⟨wr.heap.size, 3, none⟩ = some (.slice Al m cl) := (World.cell?_alloc_new ..).trans rfl
      generalize World.alloc wr (.cells #[.int .i64 t.a, .int .i64 t.b, .slice Ab m cb, .slice Al m cl] 34) = W at *
      generalize wr.heap.size = G at *
      clear c0 c1 c2 c3 HB
      generalize t.a = ta at *
      generalize t.b = tb at *
      go_wp2_with (first
        | (go_at_call_has 20 (Value.int .i64 ta); refine (within_t _ _ _ _ g1).mono ?_; rintro e w' ⟨rfl, hw⟩; subst w')
        | (go_at_call_has 20 (Value.int .i64 tb); refine (within_t _ _ _ _ g2).mono ?_; rintro e w' ⟨rfl, hw⟩; subst w')
        | (go_at_call 43; refine (areWithin_any _ t.lg _ _ _ RL.out).mono ?_; rw [GL.out]; rintro e w' ⟨rfl, hw⟩; subst w'))
      have K2 := hd k2
      clear k0 k1 k2 k3 g1 g2 GL RL
      go_loopw [42] (fun iv wr => ∃ k : Nat, k ≤ m ∧ iv = .int .i64 k ∧ Hid (Below W.heap.size W wr)) (fun iv _ => m - (intOf iv).toNat)
      case atStart => exact ⟨0, by omega, rfl, hd (Below.refl _ _)⟩
      case round =>
        obtain ⟨k, hk, rfl, HB⟩ := hrel
        by_cases hkm : k < m
        · have hk2 : (k : Int) < (m : Int) := Int.ofNat_lt.2 hkm
          have hkl : k < t.bf.length := by have := HM.out; omega
          obtain ⟨bb, ob, rfl, cb'⟩ := (RB.out.below HB.out).int hkm
          have k2 := below_at HB.out K2.out
          have p0 := OK.out.p0 k hkl
          have g3 : inR (t.bf.getD k 0) 0 ((i : Int) - 1) = true := inR_iff.2 ⟨by omega, by omega⟩
          have hwi : IntKind.i64.wrap ((i : Int) - 1) = (i : Int) - 1 := IntWalk.i64_in _ (by omega)
          rcases Nat.eq_zero_or_pos k with k0 | k0
          · subst k0
            rw [Nat.add_zero] at cb'
            generalize t.bf.getD 0 0 = x at *
            clear p0 hkl
            go_wp2_with (go_at_call 20; refine (within_t _ _ _ _ g3).mono ?_; rintro e w' ⟨rfl, hw⟩; subst w')
            go_roundw
            case rel => exact ⟨1, by omega, by go_num, HB⟩
            case measure => simp [intOf]; omega
          · obtain ⟨kk, hkk⟩ : ∃ kk, k = kk + 1 := ⟨k - 1, by omega⟩
            have hwk : IntKind.i64.wrap ((k : Int) - 1) = (kk : Int) := by rw [IntWalk.i64_in _ (by omega)]; omega
            obtain ⟨_, _, e0, cb2⟩ := (RB.out.below HB.out).int (show kk < m by omega)
            cases e0
            have hup := OK.out.up kk (by omega)
            rw [← hkk] at hup
            have hkk2 : (kk : Int) < (m : Int) := by omega
            have hk0 : (0 : Int) < (k : Int) := by omega
            generalize t.bf.getD k 0 = x at *
            generalize t.bf.getD kk 0 = y at *
            have hxy : ¬ x ≤ y := by omega
            clear p0 hkl hup
            have HKK := hd hkk
            clear hkk
            go_wp2_with (go_at_call 20; refine (within_t _ _ _ _ g3).mono ?_; rintro e w' ⟨rfl, hw⟩; subst w')
            go_roundw
            case rel => exact ⟨k + 1, by omega, by go_num, HB⟩
            case measure => simp [intOf]; omega
        · go_wp2
          go_roundw
          case rel => exact ⟨i + 1, by omega, by go_num, hd (below_tr HB.out HBW.out)⟩
          case measure => simp [intOf]; omega
    · have e1 : ((n : Int) ≥ 1) := by omega
      have e2 : ((n : Int) ≤ 16) := by omega
      go_wp2
      all_goals (go_ret; exact ⟨ret_bool (by simp; try omega), HB.out⟩)
end Go.Proofs.Ytdbojkanelmlkaa
