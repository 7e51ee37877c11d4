/- Times that bytes choose, from 1 to 9: R8Times (turned from R8I). -/
import Derived.Test.YtkaopdpdfbkchaaR8I
namespace Go.Proofs.Ytkaopdpdfbkchaa
open Go.RowKit Plain
set_option linter.unusedVariables false
set_option linter.unusedSimpArgs false
attribute [local go_sem ↓] Go.wp_at_zero Go.wp_at_succ
/-- so many numbers from 1 to 9 -/
def Times8 (n : Nat) (w : World) (r : Ending) (w' : World) : Prop :=
  ∃ (l : List Int) (u : Value), r = .returned u ∧ l.length = n ∧ (∀ x ∈ l, 1 ≤ x ∧ x ≤ 9) ∧ w'.ownsRow w.heap.size 2 1 u n (l.map vi) ∧ Below w.heap.size w w'
theorem sl_grown8T {w w' : World} {cv : Value} {n size g : Nat} {cs : List Value} (h : Sl w size cv n cs) (hne : NeSl cv g) (hg : w.grownBy w' (some g)) : Sl w' size cv n cs := by
  obtain ⟨A, cap, rfl, hcap, hr⟩ := h
  rcases Nat.eq_zero_or_pos n with h0 | h0
  · subst h0
    exact ⟨A, cap, rfl, hcap, hr.1, hr.2.1, fun h => absurd h (Nat.lt_irrefl 0)⟩
  · exact ⟨A, cap, rfl, hcap, hr.grown hg (.inl (hne _ _ _ rfl h0))⟩
theorem grown_row8T {w w1 w2 : World} {g : Nat} {row : Option Nat} (h1 : w.grownBy w1 (some g)) (h2 : w1.grownBy w2 row) (hR : ∀ k, row = some k → w.heap.size ≤ k) : w.grownBy w2 (some g) :=
  ⟨h2.os.trans h1.os, h2.tape.trans h1.tape, h2.output.trans h1.output, Nat.le_trans h1.size h2.size, fun k hk hne => by
    rw [h2.block k (Nat.lt_of_lt_of_le hk h1.size) (by intro e; have := hR k e.symm; omega), h1.block k hk hne]⟩
set_option maxHeartbeats 4000000 in
set_option maxRecDepth 100000 in
theorem R8Times_any (cv : Value) (xs : List Nat) (hx : ∀ x ∈ xs, x < 256) (w : World) (hs : Sl w 1 cv xs.length (bys xs)) (n : Nat) (n1 : n ≤ 100) :
    Calls Try.prog 6 #[cv, .int .i64 n] w (Times8 n w) := by
  have HSL := hd hs
  obtain ⟨A, cap, rfl, hcap, hr⟩ := hs
  have HF := hd (l00From_any A xs.length cap w)
  have hne : NeSl (.slice A xs.length cap) w.heap.size := by
    intro A' n' c' e h0 e2
    cases e
    obtain ⟨b, off, rfl, hc⟩ := hr.2.2 h0
    have hc0 := hc 0 (.int .u8 (xs[0] : Int)) (by simp [bys, List.getElem?_eq_getElem h0])
    have hlt : b < w.heap.size := block_lt_of_cell hc0
    simp only [Option.map_some, Option.some.injEq] at e2
    omega
  clear hr
  obtain ⟨g, hg⟩ : ∃ g, g = w.heap.size := ⟨_, rfl⟩
  have HGW := hd hg
  rw [← hg] at HF hne
  clear hg
  have PK := hd (fun (w' : World) (A' : Nat) (sd : Int) (hg : Below w.heap.size w w') (hA : A' ≤ 1000) (h0 : 0 ≤ sd) (h1 : sd < 18446744073709551616) (hb : SrcBox w' g (.slice A xs.length cap) A' sd) =>
    pick_any g (.slice A xs.length cap) xs hx A' (by omega) sd h0 h1 w' (HSL.out.below hg) hne hb 9 (by omega) (by omega))
  clear hne hx HSL
  go_enter Try.func6, Try.ntmps6
  go_wp2_with fail
  refine HF.out.mono ?_
  rintro e w1 ⟨rfl, hb, hB⟩
  have HSB := hd hb
  have HB1 := hd (show Below w.heap.size w w1 by rw [← HGW.out]; exact hB)
  have hg1 : g < w1.heap.size := by
    rcases Nat.lt_or_ge g w1.heap.size with h1 | h1
    · exact h1
    · have h2 : w1.heap[g]? = _ := hb
      rw [Array.getElem?_eq_none h1] at h2; cases h2
  clear hb hB HF
  go_wp2
  go_loopw [1, 6] (fun nn O wr => ∃ (k A' : Nat) (sd : Int) (l : List Int), k ≤ n ∧ nn = .int .i64 k ∧ l.length + k = n ∧ Hid (∀ x ∈ l, 1 ≤ x ∧ x ≤ 9) ∧ A' ≤ l.length ∧ 0 ≤ sd ∧ sd < 18446744073709551616 ∧ Hid (SrcBox wr g (.slice A xs.length cap) A' sd) ∧ Hid (wr.ownsRow w1.heap.size 2 1 O l.length (l.map vi)) ∧ Hid (Below w.heap.size w wr) ∧ w1.heap.size ≤ wr.heap.size) (fun nn _ _ => (intOf nn).toNat)
  case atStart =>
    have hstart := World.ownsRow_made (base := w1.heap.size) (size := 1) w1 #[] 0 (Nat.le_refl _) (by unfold maxLen; omega) rfl (e := 2)
    exact ⟨n, 0, 0, [], by omega, rfl, by simp, hd (fun x hx => by cases hx), by simp, by omega, by omega, hd (sbox_below HSB.out ((Below.refl _ _).alloc (Nat.le_refl _) _)), hd (by simpa using hstart), hd (HB1.out.alloc HB1.out.size _), by simp⟩
  case round =>
    obtain ⟨k, A', sd, l, hk, rfl, hl, HV, hA, h0, h1, HS, HO, HB, hz⟩ := hrel
    rcases Nat.eq_zero_or_pos k with hk0 | hk0
    · subst hk0
      go_wp2
      go_ret
      refine ⟨l, _, rfl, by omega, HV.out, ?_, HB.out⟩
      have e : l.length = n := by omega
      rw [← e]
      exact own_mono HO.out HB1.out.size
    · have hk1 : (0 : Int) < (k : Int) := by omega
      go_wp2_with fail
      refine (PK.out wr A' sd HB.out (by omega) h0 h1 HS.out).mono ?_
      rintro e w2 ⟨q, A2, sd2, hq, rfl, b1, b2, b3, b4, b5⟩
      have HS2 := hd b1
      have hne2 := HO.out
      have HLt := hd (World.ownsRow.lt HO.out)
      have HO2 := hd (HO.out.kept b5 (.inr (fun e => by have := (HLt.out g e).1; omega)))
      have HB2 := hd (below_row b5 HB.out (fun k e => by cases e; rw [HGW.out]; exact Nat.le_refl _))
      have hbs : w1.heap.size ≤ w2.heap.size := Nat.le_trans hz b5.size
      clear b1 b5 HS HO HB hne2
      have hwq : IntKind.i64.wrap (1 + (q : Int)) = 1 + (q : Int) := IntWalk.i64_in _ (by omega)
      go_wp2_with (at_builtin; go_must (refine wpList_app_int _ _ _ rfl _ _ rfl w1.heap.size l.length _ _ rfl HO2.out rfl _ rfl (by simp) (by omega) hbs ?_); intro v' w3 ho3 hg3 hap)
      go_roundw
      case rel =>
        refine ⟨k - 1, A2, sd2, l ++ [1 + (q : Int)], by omega, by go_num, by simp; omega, hd ?_, by simp; omega, b3, b4, hd ?_, hd ?_, hd ?_, Nat.le_trans hbs hg3.size⟩
        · intro x hx
          rcases List.mem_append.1 hx with h | h
          · exact HV.out x h
          · obtain rfl := List.mem_singleton.1 h
            omega
        · exact sbox_kept (show SBox w2 g _ _ from HS2.out) hg3 (fun e => by have := (HLt.out g e).1; omega)
        · have := ho3
          rw [List.length_append]
          simpa [vi] using this
        · exact below_row hg3 HB2.out (fun k e => by have a := HB1.out.size; have b := (HLt.out k e).1; have c := HGW.out; omega)
      case measure => simp [intOf]; omega
end Go.Proofs.Ytkaopdpdfbkchaa
