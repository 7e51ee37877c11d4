/- Shifts listed: FirstShifts, on both sides. -/
import Derived.Test.YtfhcpfikakllbaaProg
import Derived.Test.YtfhcpfikakllbaaRule
import Derived.Test.YtfhcpfikakllbaaShiftM
import Derived.Test.YtfhcpfikakllbaaListK
import Derived.Test.YtfhcpfikakllbaaListP
import Derived.Carry
namespace Go.Proofs.Ytfhcpfikakllbaa
open Go.RowKit Plain
set_option linter.unusedVariables false
set_option linter.unusedSimpArgs false
attribute [local go_sem ↓] Go.wp_at_zero Go.wp_at_succ

theorem below_of_grew {w w1 w' : World} {b : Option Nat} {v : Value} (h : Below w.heap.size w w1) (g : Grew w1 w' b v) (hb : ∀ k, b = some k → w.heap.size ≤ k) (hv : ∀ k, v.ownBlock = some k → w.heap.size ≤ k) : Below w.heap.size w w' :=
  ⟨g.os.trans h.os, g.tape.trans h.tape, g.output.trans h.output, Nat.le_trans h.size g.size, fun k hk => by
    rw [g.block k (Nat.lt_of_lt_of_le hk h.size) (fun e => by have := hb k e.symm; omega) (fun e => by have := hv k e; omega)]
    exact h.block k hk⟩
/-- what both return -/
def okF (r : SR) (c : Int) : Bool := validS r && inR c 0 64
def allF (r : SR) (c : Nat) : List ByteArray := fillS c [] (listS (limS r) r.slots.toNat ShiftPt.start ⟨#[]⟩)
def Mf (r : SR) (c : Int) : List ByteArray × Bool := if okF r c then (allF r c.toNat, true) else ([], false)
theorem Mf_no {r : SR} {c : Int} (h : okF r c = false) : Mf r c = ([], false) := by rw [Mf, h]; rfl
theorem Mf_yes {r : SR} {c : Int} (h : okF r c = true) : Mf r c = (allF r c.toNat, true) := by rw [Mf, h]; rfl
theorem Mf_len (r : SR) (c : Int) : (Mf r c).1.length ≤ 1048576 := by
  cases h : okF r c with
  | false => rw [Mf_no h]; simp
  | true =>
    rw [Mf_yes h]
    simp only [okF, Bool.and_eq_true] at h
    have := inR_iff.1 h.2
    have := fill_len (c := c.toNat) (o := []) (l := listS (limS r) r.slots.toNat ShiftPt.start ⟨#[]⟩)
    show (allF r c.toNat).length ≤ _
    unfold allF
    omega
theorem srat_box (w : World) (r : SR) (t : TypeId) : SRat (w.alloc (.cells #[.int .i64 r.slots, .int .i64 r.least, .int .i64 r.most, .int .i64 r.row, .int .i64 r.pause] t)) w.heap.size 0 r := ⟨by simp [go_sem], by simp [go_sem], by simp [go_sem], by simp [go_sem], by simp [go_sem]⟩
theorem srat_drewN {w : World} {g o : Nat} {R : SR} (h : SRat w g o R) (n : Nat) : SRat (w.drewN n) g o R := h.below (below_drewN (Below.refl _ _) n)

set_option maxHeartbeats 2000000 in
set_option maxRecDepth 100000 in
theorem implFirst_any (r : SR) (c : Int) (w : World) :
    Calls Try.prog 20 #[r.val, .int .i64 c] w (OutL 9 1 (Mf r c).1.length (strs (Mf r c).1) (fun u => .tuple #[u, .bool (Mf r c).2]) w) := by
  have A1 := hd (fun W => ValidRule_any r W)
  have A2 := hd (fun w' => within_any c 0 64 w')
  have S0 := hd (srat_box w r 28)
  cases hok : okF r c with
  | false =>
    have H := hd (Mf_no hok)
    rw [H.out]
    unfold okF at hok
    generalize validS r = b1 at *
    generalize inR c 0 64 = b2 at *
    obtain ⟨a0, a1, a2, a3, a4⟩ := r
    simp only [SR.val] at *
    cases b1 <;> cases b2
    all_goals first
      | (exfalso; simp at hok; done)
      | (clear hok
         go_enter Try.func20, Try.ntmps20
         go_wp2_with (first
           | (go_at_call 18; refine (A1.out _).mono ?_; rintro e w1 ⟨rfl, hb1⟩)
           | (go_at_call 26; refine (A2.out _).mono ?_; rintro e w' ⟨rfl, hw⟩; subst hw))
         go_ret2
         exact ⟨_, rfl, World.ownsRow_nil _ _ _ _, below_tr hb1 (by go_grown)⟩)
  | true =>
    have H := hd (Mf_yes hok)
    rw [H.out]
    simp only [okF, Bool.and_eq_true] at hok
    obtain ⟨h1, h2⟩ := hok
    obtain ⟨b1, b2, b3, b4, b5⟩ := valid_bd h1
    have hc := inR_iff.1 h2
    rw [h1] at A1; rw [h2] at A2
    clear h1 h2
    obtain ⟨cn, rfl⟩ : ∃ cn : Nat, c = cn := ⟨c.toNat, by omega⟩
    simp only [Int.toNat_natCast]
    have PW : capN r.slots.toNat ≤ 2 ^ 30 := by
      have h : (2 : Nat) ^ r.slots.toNat ≤ 2 ^ 24 := Nat.pow_le_pow_right (by omega) (by omega)
      have h2 : (r.slots.toNat + 1) * 2 ^ r.slots.toNat ≤ 25 * 2 ^ 24 := Nat.mul_le_mul (by omega) h
      unfold capN
      omega
    have hA := hd (fun W => asShifts_any r W)
    have A3 := hd (fun b B w' v hbB hk hB ho => list_any r.slots r.least r.most r.row r.pause b B cn hbB b1 b2 b3 b4 b5 (by omega) r.slots.toNat 0 ⟨#[]⟩ 0 0 0 0 false v [] w' (by omega) (by omega) (by omega) (by omega) (good_start _ b3.1 (by show (0 : Int) ≤ r.row; omega)) hk (by omega) rfl (by simp) hB ho)
    have E := hd (show fillS cn [] (listS ⟨r.least, r.most, r.row, r.pause⟩ r.slots.toNat (absS 0 0 0 false) ⟨#[]⟩) = allF r cn from rfl)
    rw [E.out] at A3
    generalize allF r cn = q at *
    obtain ⟨a0, a1, a2, a3, a4⟩ := r
    simp only [SR.val, stV, limS] at *
    clear hc b1 b2 b3 b4 b5 PW
    go_enter Try.func20, Try.ntmps20
    go_wp2_with (first
      | (go_at_call 18; refine (A1.out _).mono ?_; rintro e w1 ⟨rfl, hb1⟩; have HB1 := hd (below_tr hb1 ((Below.refl w.heap.size w).alloc (Nat.le_refl _) (.cells #[.int .i64 a0, .int .i64 a1, .int .i64 a2, .int .i64 a3, .int .i64 a4] 28))); obtain ⟨r0, r1, r2, r3, r4⟩ := S0.out.below hb1; clear hb1; simp only at r0 r1 r2 r3 r4)
      | (go_at_call 26; refine (A2.out _).mono ?_; rintro e w' ⟨rfl, hw⟩; subst hw)
      | (go_at_call 28; refine (hA.out _).mono ?_; rintro e w2 ⟨g, rfl, hk, hg, hb2⟩; have HB2 := hd (below_tr hb2 HB1.out); have HK2 := hd hk; have HG2 := hd hg; have HS := hd HB1.out.size; clear hb2 hk hg)
      | (go_at_call 29; refine (A3.out _ w2.heap.size _ _ (known_lt HK2.out) (known_below HK2.out ((Below.refl _ _).alloc (Nat.le_refl _) _)) ?_ ?_).mono ?_; simp only [World.size_alloc]; omega; exact (World.ownsRow_made (size := 1) w2 #[] 0 (Nat.le_refl _) (by unfold maxLen; omega) rfl (e := 9)); rintro e w3 ⟨u, rfl, ho3, _, hg3, hl3⟩))
    go_ret2
    refine ⟨_, rfl, own_mono ho3 HB2.out.size, below_of_grew (below_tr ((Below.refl _ _).alloc (Nat.le_refl _) _) HB2.out) hg3 (fun k hk => by have := HG2.out; have := HS.out; cases hk; omega) (fun k hk => ?_)⟩
    have e : w2.heap.size = k := by simpa [Value.ownBlock] using hk
    have := HB2.out.size
    omega
end Go.Proofs.Ytfhcpfikakllbaa
