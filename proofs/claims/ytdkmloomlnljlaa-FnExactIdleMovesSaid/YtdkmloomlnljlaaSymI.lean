/- The insertion sort of a part of a row, as the library's stable sort does it: a contract. -/
import Derived.Test.YtdkmloomlnljlaaProg
import Derived.Test.YtdkmloomlnljlaaSymR
import Derived.Test.YtdkmloomlnljlaaSymU
namespace Go.Proofs.Ytdkmloomlnljlaa
open Go.RowKit Plain
set_option linter.unusedVariables false
set_option linter.unusedSimpArgs false
attribute [local go_sem ↓] Go.wp_at_zero Go.wp_at_succ
/-- the closure that compares tells how the keys stand, while nothing but the row has turned -/
def CmpOk (K : Int → Int) (n g bK : Nat) (w : World) : Prop := ∀ wr, w.grownBy wr (some g) → ∀ x y : Int, 0 ≤ x → x < (n : Int) → 0 ≤ y → y < (n : Int) → ∀ m,
  Calls Try.prog 30 #[.int .i64 x, .int .i64 y, .pointer (some ⟨bK, 0, none⟩)] (wr.drewN m) fun r w' => r = .returned (.int .i64 (cmpI (K x) (K y))) ∧ ∃ k, w' = wr.drewN k
theorem CmpOk.grown {K : Int → Int} {n g bK : Nat} {w w' : World} (h : CmpOk K n g bK w) (hg : w.grownBy w' (some g)) : CmpOk K n g bK w' := fun wr h2 => h wr (hg.trans h2)
theorem cmpOk_of (l : List Q4) (ht : tripsB l = true) (A : Option Addr) (n cap bT bK g : Nat) (hn : l.length = n) (w : World) (hk : KeyB w bT bK A n cap) (hr : Rd w 4 A n (q4s l)) (e1 : bT ≠ g) (e2 : bK ≠ g) (e3 : A.map (·.block) ≠ some g) : CmpOk (keyL l) n g bK w := by
  intro wr hg x y x0 x1 y0 y1 m
  obtain ⟨xn, rfl⟩ : ∃ xn : Nat, x = xn := ⟨x.toNat, by omega⟩
  obtain ⟨yn, rfl⟩ : ∃ yn : Nat, y = yn := ⟨y.toNat, by omega⟩
  have hk2 : KeyB wr bT bK A n cap := ⟨hg.cell hk.t (by simp; omega), hg.cell hk.k (by simp; omega)⟩
  have hr2 : Rd wr 4 A n (q4s l) := hr.grown hg (.inl e3)
  refine (less_any l ht A n cap bT bK hn xn yn (by omega) (by omega) (wr.drewN m) ⟨hk2.t, hk2.k⟩ (show Rd (wr.drewN m) 4 A n (q4s l) from hr2)).mono fun r w' h => ⟨?_, ?_⟩
  · rw [h.1, keyL, keyL, Int.toNat_natCast, Int.toNat_natCast]
  · obtain ⟨k, hk⟩ := h.2
    exact ⟨_, by rw [hk, World.drewN_drewN]⟩
/-- a row has turned in part, and nothing else has -/
def PartB (K : Int → Int) (base g n cd : Nat) (f : Nat → Int) (a b : Nat) (w : World) (r : Ending) (w' : World) : Prop := (∃ v, r = .returned v) ∧ (∃ f', RowF w' base g n cd f' ∧ SymPost (qK K) f f' a b) ∧ w.grownBy w' (some g)
theorem post_in {Q : Int → Int} {f h : Nat → Int} {a b n : Nat} (p : SymPost Q f h a b) (hb : b ≤ n) (hf : ∀ k, k < n → 0 ≤ f k ∧ f k < (n : Int)) (k : Nat) (hk : k < n) : 0 ≤ h k ∧ h k < (n : Int) := by
  by_cases h1 : k < a ∨ b ≤ k
  · rw [p.out k h1]; exact hf k hk
  · obtain ⟨j, _, j2, je⟩ := p.mem k (by omega) (by omega)
    rw [je]; exact hf j (by omega)
set_option maxHeartbeats 4000000 in
set_option maxRecDepth 100000 in
theorem insertA_any (K : Int → Int) (base g n cd bK : Nat) (f : Nat → Int) (a b : Nat) (hab : a < b) (hb : b ≤ n) (n64 : n ≤ 64) (hf : ∀ k, k < n → 0 ≤ f k ∧ f k < (n : Int)) (hx : ∀ i j, a ≤ i → i < j → j < b → f i < f j) (w : World) (ho : RowF w base g n cd f) (hc : CmpOk K n g bK w) :
    Calls Try.prog 37 #[.slice (some ⟨g, 0, none⟩) n cd, .int .i64 a, .int .i64 b, .func (.func 30) #[] #[.pointer (some ⟨bK, 0, none⟩)]] w (PartB K base g n cd f a b w) := by
  have HO := hd ho
  have HF := hd hf
  have HX := hd hx
  have LS := hd hc
  clear ho hf hx hc
  obtain ⟨a1, ha1⟩ : ∃ a1, a1 = a + 1 := ⟨_, rfl⟩
  have w0 : IntKind.i64.wrap ((a : Int) + 1) = (a1 : Int) := by rw [IntWalk.i64_in _ (by omega)]; omega
  go_enter Try.func37, Try.ntmps37
  go_upto_region 1 with fail
  clear w0
  go_loopw [8] (fun iv wr => ∃ (i : Nat) (G : Nat → Int), a1 ≤ i ∧ i ≤ b ∧ iv = .int .i64 i ∧ Hid (RowF wr base g n cd G) ∧ Hid (SymPost (qK K) f G a i) ∧ Hid (w.grownBy wr (some g))) (fun iv _ => b - (intOf iv).toNat)
  case atStart => exact ⟨a1, f, Nat.le_refl _, by omega, by rw [ha1]; go_num, HO, hd (sym_same (fun i j h1 h2 h3 => by omega)), hd (World.grownBy.refl _ _)⟩
  case round =>
    obtain ⟨i, G, hi1, hi, rfl, HR, HP, HG⟩ := hrel
    by_cases hlt : i < b
    · have i2 : (i : Int) < (b : Int) := Int.ofNat_lt.2 hlt
      have PRE := hd (show SymPre (qK K) G a i (i + 1) from ⟨HP.out.srt, fun x y h1 h2 h3 => by omega, fun x y h1 h2 h3 h4 => by
        obtain rfl : y = i := by omega
        obtain ⟨z, z1, z2, ze⟩ := HP.out.mem x h1 h2
        rw [ze, HP.out.out y (.inr (Nat.le_refl _))]
        exact HX.out z y z1 z2 hlt⟩)
      have GB := hd (fun k hk => post_in HP.out (Nat.le_trans hi hb) HF.out k hk)
      go_wp2
      go_loopw [9] (fun jv wr => ∃ j : Nat, a ≤ j ∧ j ≤ i ∧ jv = .int .i64 j ∧ Hid (RowF wr base g n cd (rotF G j i (i + 1))) ∧ Hid (j < i → qK K (G i) < qK K (G j)) ∧ Hid (w.grownBy wr (some g))) (fun jv _ => (intOf jv).toNat)
      case atStart => exact ⟨i, by omega, Nat.le_refl _, rfl, hd (by rw [rot_no _ _ _ _ (Nat.le_refl _) (by omega) (by omega)]; exact HR.out), hd (fun h => by omega), HG⟩
      case round =>
        clear HR HG
        obtain ⟨j, hj1, hj, rfl, HR, HC, HG⟩ := hrel
        rcases Nat.lt_or_ge a j with j0 | j0
        · obtain ⟨k, hk⟩ : ∃ k, j = k + 1 := ⟨j - 1, by omega⟩
          have zi : (j : Int) - 1 = (k : Int) := by omega
          have jp : (a : Int) < (j : Int) := by omega
          have jn : j < n := by omega
          have kn : k < n := by omega
          have jn2 : (j : Int) < (n : Int) := Int.ofNat_lt.2 jn
          have kn2 : (k : Int) < (n : Int) := Int.ofNat_lt.2 kn
          have hwj : IntKind.i64.wrap ((j : Int) - 1) = (k : Int) := by rw [zi]; exact IntWalk.i64_in _ (by omega)
          have hvj : rotF G j i (i + 1) j = G i := rot_at G j i hj
          have hvk : rotF G j i (i + 1) k = G k := rot_lo (by omega)
          have cx := HR.out.cell jn
          have cy := HR.out.cell kn
          have fx := HR.out.frozen j
          have fy := HR.out.frozen k
          have HS := hd (HR.out.swap jn kn)
          rw [hvj] at cx HS
          rw [hvk] at cy HS
          have bx := GB.out i (by omega)
          have by' := GB.out k kn
          have hgt : G k < G i := PRE.out.x k i (by omega) (by omega) (Nat.le_refl _) (by omega)
          have q1 := qK_lt (K := K) by'.1 hgt (by omega)
          have q2 := qK_ge (K := K) by'.1 hgt (by omega)
          have LSx := LS.out wr HG.out (G i) (G k) bx.1 bx.2 by'.1 by'.2
          have hjk : ¬ (j : Int) = (k : Int) := by omega
          have hjk2 : ¬ j = k := by omega
          have EF := hd (show rotF G k i (i + 1) = fun x => if x = k then G i else if x = j then G k else rotF G j i (i + 1) x by
            rw [rot_step G k i (by omega), ← hk, hvj, hvk])
          have HVJ := hd hvj
          have HVK := hd hvk
          by_cases hc : K (G i) < K (G k)
          · rw [cmp_lt hc] at LSx
            have HC2 := hd (show k < i → qK K (G i) < qK K (G k) from fun _ => q1.2 hc)
            have HKJ := hd hk
            clear hc q1 q2 HC bx by' hgt hvj hvk hk
            generalize G i = va at *
            obtain ⟨vb', hvb⟩ : ∃ x, G k = x := ⟨_, rfl⟩
            rw [hvb] at cy LSx HVK EF
            have HVB := hd hvb
            clear hvb
            go_wp2
            go_quiet ((go_at_call 30; exact (LSx _).mono fun _ _ h => by obtain ⟨h1, m, h2⟩ := h; exact ⟨h1, _, h2⟩))
            go_upto_region 6 with fail
            obtain ⟨W, hW⟩ : ∃ W, W = wr.drewN nq := ⟨_, rfl⟩
            have cx' : W.cell? ⟨g, j, none⟩ = some (.int .i64 va) := by rw [hW]; exact cx
            have cy' : W.cell? ⟨g, k, none⟩ = some (.int .i64 vb') := by rw [hW]; exact cy
            have fx' : W.frozen? ⟨g, j, none⟩ = false := by rw [hW]; exact fx
            have fy' : W.frozen? ⟨g, k, none⟩ = false := by rw [hW]; exact fy
            have HRW := hd (show RowF W base g n cd (rotF G j i (i + 1)) by rw [hW]; exact HR.out)
            have HGW := hd (show w.grownBy W (some g) by rw [hW]; exact HG.out.trans (below_all (below_drewN (Below.refl _ _) _) _))
            rw [← hW]
            clear hW cx cy fx fy HS LSx
            go_region
            have q := HRW.out.swap jn kn
            rw [HVJ.out, HVK.out] at q
            have hg9 : w.grownBy ((W.setCell ⟨g, j, none⟩ (.int .i64 vb')).setCell ⟨g, k, none⟩ (.int .i64 va)).drew (some g) := (HGW.out.trans q.2).trans (below_all ((Below.refl _ _).drew) _)
            have ho9 : RowF ((W.setCell ⟨g, j, none⟩ (.int .i64 vb')).setCell ⟨g, k, none⟩ (.int .i64 va)).drew base g n cd (rotF G k i (i + 1)) := by rw [EF.out]; exact World.ownsRow.drew q.1
            obtain ⟨w9, hw9⟩ : ∃ w9, w9 = ((W.setCell ⟨g, j, none⟩ (.int .i64 vb')).setCell ⟨g, k, none⟩ (.int .i64 va)).drew := ⟨_, rfl⟩
            rw [← hw9] at hg9 ho9 ⊢
            have HO9 := hd ho9
            have HG9 := hd hg9
            clear hw9 q cx' cy' fx' fy' hg9 ho9 HVJ HVK EF HRW
            go_wp2
            go_roundw
            case rel => exact ⟨k, by have := HKJ.out; omega, by have := HKJ.out; omega, by first | rfl | go_num, HO9, HC2, HG9⟩
            case measure => have := HKJ.out; simp [intOf]; omega
          · have EP := hd (sym_trans HP.out (sym_last PRE.out hj1 hj (fun _ => by rw [show j - 1 = k by omega]; exact q2.2 hc) HC.out) (Nat.le_succ i))
            have hz := cmp_ge hc
            clear hc q1 q2 HC bx by' hgt hvj hvk hk HS EF fx fy HVJ HVK
            generalize cmpI (K (G i)) (K (G k)) = z at *
            generalize G i = va at *
            generalize G k = vb' at *
            go_wp2
            go_quiet ((go_at_call 30; exact (LSx _).mono fun _ _ h => by obtain ⟨h1, m, h2⟩ := h; exact ⟨h1, _, h2⟩))
            clear LSx cx cy
            go_wp2
            go_roundw
            case rel => exact ⟨i + 1, _, by omega, by omega, by go_num, hd (by exact HR.out), EP, hd (HG.out.trans (below_all (below_drewN (Below.refl _ _) _) _))⟩
            case measure => simp [intOf]; omega
        · obtain rfl : j = a := by omega
          have EP := hd (sym_trans HP.out (sym_last PRE.out (Nat.le_refl _) hj (fun h => by omega) HC.out) (Nat.le_succ i))
          clear HC
          go_wp2
          go_quiet (fail)
          go_wp2
          go_roundw
          case rel => exact ⟨i + 1, _, by omega, by omega, by go_num, hd (by exact HR.out), EP, hd (HG.out.trans (below_all (below_drewN (Below.refl _ _) _) _))⟩
          case measure => simp [intOf]; omega
    · obtain rfl : i = b := by omega
      go_wp2
      refine bodyPost_end (results_none rfl _ _ _) rfl ?_
      exact ⟨⟨_, rfl⟩, ⟨G, HR.out, HP.out⟩, HG.out⟩
end Go.Proofs.Ytdkmloomlnljlaa
