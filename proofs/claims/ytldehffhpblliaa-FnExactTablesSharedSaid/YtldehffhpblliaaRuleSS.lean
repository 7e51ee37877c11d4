/- The laws' helpers on a list of lists of rules: its size, its copy, its equality, its marks. -/
import Derived.Test.YtldehffhpblliaaProg
import Derived.Test.YtldehffhpblliaaQSlice
namespace Go.Proofs.Ytldehffhpblliaa
open Go.RowKit Plain
set_option linter.unusedVariables false
set_option linter.unusedSimpArgs false
attribute [local go_sem ↓] Go.wp_at_zero Go.wp_at_succ

/-- what is left of a number behind all lists; -1 if it is not enough -/
def szL : Int → List (Value × List Q4) → Int
  | l, [] => l
  | l, m :: ms => if l < m.2.length then -1 else szL (l - m.2.length) ms
theorem szL_neg (ms : List (Value × List Q4)) (l : Int) : szL l ms ≤ l ∨ szL l ms = -1 := by
  induction ms generalizing l with
  | nil => exact .inl (Int.le_refl _)
  | cons m ms ih =>
    rw [szL]
    split
    · exact .inr rfl
    · rcases ih (l - m.2.length) with h | h
      · exact .inl (by omega)
      · exact .inr h
theorem szL_all {ms : List (Value × List Q4)} {l : Int} (h : 0 ≤ szL l ms) : ∀ m ∈ ms, (m.2.length : Int) ≤ l := by
  induction ms generalizing l with
  | nil => intro m hm; cases hm
  | cons m ms ih =>
    rw [szL] at h
    split at h
    · omega
    · intro x hx
      rcases List.mem_cons.1 hx with rfl | hx
      · omega
      · have := ih h x hx; omega
/-- all rules, one behind the other -/
def sumL (ms : List (List Q4)) : Nat := (ms.map List.length).sum
theorem szL_sum {ms : List (Value × List Q4)} {l : Int} (h : 0 ≤ szL l ms) : (sumL (ms.map Prod.snd) : Int) ≤ l := by
  induction ms generalizing l with
  | nil => simpa [sumL, szL] using h
  | cons m ms ih =>
    rw [szL] at h
    split at h
    · omega
    · have := ih h
      simp only [sumL, List.map_cons, List.sum_cons] at this ⊢
      omega
theorem szL_drop {ms : List (Value × List Q4)} {k : Nat} {m : Value × List Q4} (hk : ms[k]? = some m) (l : Int) : szL l (ms.drop k) = if l < m.2.length then -1 else szL (l - m.2.length) (ms.drop (k + 1)) := by
  obtain ⟨hl, rfl⟩ := List.getElem?_eq_some_iff.1 hk
  rw [List.drop_eq_getElem_cons hl, szL]
theorem sum_take {xs : List (List Q4)} {k : Nat} {x : List Q4} (hk : xs[k]? = some x) : sumL (xs.take (k + 1)) = sumL (xs.take k) + x.length := by
  rw [List.take_add_one, hk]; simp [sumL]
theorem sum_le (xs : List (List Q4)) (k : Nat) : sumL (xs.take k) ≤ sumL xs := by
  have : sumL xs = sumL (xs.take k) + sumL (xs.drop k) := by
    have e := congrArg sumL (List.take_append_drop k xs)
    simp only [sumL, List.map_append, List.sum_append] at e ⊢
    exact e.symm
  omega

set_option maxHeartbeats 1000000 in
theorem szRuleSS_any (w : World) (v : Value) (ms : List (Value × List Q4)) (left : Int) (h0 : 0 ≤ left) (h1 : left ≤ 1048576) (s : Sl w 1 v ms.length (ms.map Prod.fst)) (hq : ∀ m ∈ ms, Sl w 4 m.1 m.2.length (q4s m.2)) :
    Calls Try.prog 8 #[v, .int .i64 left] w fun r w' => r = .returned (.int .i64 (if left < ms.length then -1 else szL (left - ms.length) ms)) ∧ w' = w := by
  obtain ⟨A, cap, rfl, hcap, hr⟩ := s
  have hm0 := hr.2.1
  unfold maxLen at hm0
  by_cases hbig : left < (ms.length : Int)
  · rw [if_pos hbig]
    generalize hn : ms.length = n at *
    clear hn
    go_enter Try.func8, Try.ntmps8
    go_wp2
    go_ret
    exact ⟨rfl, rfl⟩
  · rw [if_neg hbig]
    have GT := hd (fun (k : Nat) (h : k < ms.length) => (show ∃ m, ms[k]? = some m ∧ m ∈ ms from ⟨ms[k], List.getElem?_eq_getElem h, List.getElem_mem h⟩))
    have CE := hd (fun (k : Nat) (m : Value × List Q4) (h : ms[k]? = some m) => (show (ms.map Prod.fst)[k]? = some m.1 by rw [List.getElem?_map, h]; rfl))
    have DR := hd (fun k m h l => szL_drop (ms := ms) (k := k) (m := m) h l)
    have Z := hd (fun (m : Value × List Q4) (hm : m ∈ ms) (w' : World) => hq m hm)
    have HD := hd (show szL (left - ms.length) (ms.drop 0) = szL (left - ms.length) ms by rw [List.drop_zero])
    have HE := hd (fun l => (show szL l (ms.drop ms.length) = l by rw [List.drop_length]; rfl))
    clear hq
    generalize hres : szL (left - ms.length) ms = res at *
    have Hres := hd hres
    clear hres
    generalize hn : ms.length = n at *
    have Hn := hd hn
    clear hn
    have l0 : (0 : Int) ≤ left - n := by omega
    have l1 : left - n ≤ (1048576 : Int) := by omega
    have l2 : ¬ (left - n < (0 : Int)) := by omega
    go_enter Try.func8, Try.ntmps8
    go_wp2
    go_loopw [1, 5] (fun lf ix wr => ∃ (k : Nat) (l : Int), k ≤ n ∧ 0 ≤ l ∧ l ≤ 1048576 ∧ lf = .int .i64 l ∧ ix = .int .i64 k ∧ Hid (szL l (ms.drop k) = res) ∧ wr = w) (fun _ ix _ => n - (intOf ix).toNat)
    case atStart => exact ⟨0, _, by omega, l0, l1, rfl, rfl, HD, rfl⟩
    case round =>
      obtain ⟨k, l, hk, q0, q1, rfl, rfl, hz, hw⟩ := hrel
      subst hw
      by_cases hlt : k < n
      · obtain ⟨m, hm, hmem⟩ := GT.out k hlt
        obtain ⟨b, off, rfl, hcell⟩ := hr.2.2 (by omega)
        have hc := hcell k _ (CE.out k m hm)
        have ZZ := Z.out m hmem wr
        have HDR := hd (DR.out k m hm l)
        obtain ⟨mv, ml⟩ := m
        simp only at hc ZZ
        obtain ⟨A1, cap1, rfl, hcap1, hr1⟩ := ZZ
        have hm1 := hr1.2.1
        have SZ := hd (szRuleS_any (.slice A1 ml.length cap1) ml.length l wr ⟨A1, cap1, rfl, hm1⟩ q0 q1)
        have i1 : (0 : Int) ≤ (k : Int) := by omega
        have i2 : (k : Int) < (n : Int) := by omega
        generalize hnl : ml.length = nl at *
        by_cases hle : l < (nl : Int)
        · rw [if_pos hle] at SZ
          have e : res = -1 := by
            have := HDR.out
            rw [if_pos hle] at this
            rw [← hz.out, this]
          have He := hd e
          clear e hr hr1 hcell hnl hle
          go_wp2_with (go_at_call 32; refine SZ.out.mono ?_; rintro e w' ⟨rfl, hw⟩; subst hw)
          go_ret
          exact ⟨by rw [He.out]; rfl, rfl⟩
        · rw [if_neg hle] at SZ
          have e : szL (l - nl) (ms.drop (k + 1)) = res := by
            have := HDR.out
            rw [if_neg hle] at this
            rw [← hz.out, this]
          have He := hd e
          have l3 : ¬ (l - nl < (0 : Int)) := by omega
          clear e hr hr1 hcell hnl
          go_wp2_with (go_at_call 32; refine SZ.out.mono ?_; rintro e w' ⟨rfl, hw⟩; subst hw)
          go_roundw
          case rel => exact ⟨k + 1, l - nl, by omega, by omega, by omega, rfl, by go_num, He, by trivial⟩
          case measure => simp [intOf]; omega
      · have hkn : k = n := by omega
        subst hkn
        have e : l = res := by have := hz.out; rw [HE.out] at this; exact this
        go_wp2
        go_ret
        exact ⟨by rw [e]; rfl, rfl⟩

theorem infoRS : (Try.prog.info? 60).map (fun i => (i.zero, i.size, i.bytes)) = some (some (.slice none 0 0), 1, 24) := by kernel_rfl
theorem size_rs : (Try.prog.info? 60).map (·.size) = some 1 := by kernel_rfl
/-- inner rows, all apart, and apart from the outer one -/
def InSS (w : World) (base : Nat) (v : Value) (us : List Value) (xs : List (List Q4)) : Prop :=
  us.length = xs.length ∧ (∀ (j : Nat) u x, us[j]? = some u → xs[j]? = some x → w.ownsRow base 89 4 u x.length (q4s x) ∧ Dj u v) ∧ ∀ (i j : Nat) u u', i < j → us[i]? = some u → us[j]? = some u' → Dj u u'
/-- a list of lists in memory of the call's own: the outer row, an inner row each, all apart -/
def OwnSS (w : World) (base : Nat) (v : Value) (us : List Value) (xs : List (List Q4)) : Prop :=
  w.ownsRow base 60 1 v xs.length us ∧ InSS w base v us xs
theorem InSS.below {w w' : World} {base : Nat} {v : Value} {us : List Value} {xs : List (List Q4)} (h : InSS w base v us xs) (hb : Below w.heap.size w w') : InSS w' base v us xs :=
  ⟨h.1, fun j u x hu hx => ⟨own_below (h.2.1 j u x hu hx).1 hb, (h.2.1 j u x hu hx).2⟩, h.2.2⟩
theorem InSS.kept {w w' : World} {base : Nat} {v u : Value} {us : List Value} {xs : List (List Q4)} (h : InSS w base v us xs) (hg : w.grownBy w' u.ownBlock) (hd : ∀ (j : Nat) u', us[j]? = some u' → Dj u' u) : InSS w' base v us xs :=
  ⟨h.1, fun j u' x hu hx => ⟨own_kept (h.2.1 j u' x hu hx).1 hg (hd j u' hu), (h.2.1 j u' x hu hx).2⟩, h.2.2⟩
theorem InSS.outer {w w' : World} {base : Nat} {v : Value} {us : List Value} {xs : List (List Q4)} (h : InSS w base v us xs) (hg : w.grownBy w' v.ownBlock) : InSS w' base v us xs :=
  h.kept hg fun j u' hu => by
    have hl := (List.getElem?_eq_some_iff.1 hu).1
    have hl2 : j < xs.length := by have := h.1; omega
    exact (h.2.1 j u' _ hu (List.getElem?_eq_getElem hl2)).2
theorem InSS.mono {w : World} {base base' : Nat} {v : Value} {us : List Value} {xs : List (List Q4)} (h : InSS w base v us xs) (hb : base' ≤ base) : InSS w base' v us xs :=
  ⟨h.1, fun j u x hu hx => ⟨own_mono (h.2.1 j u x hu hx).1 hb, (h.2.1 j u x hu hx).2⟩, h.2.2⟩
theorem InSS.snoc {w : World} {base : Nat} {v u : Value} {us : List Value} {xs : List (List Q4)} {x : List Q4} (h : InSS w base v us xs) (ho : w.ownsRow base 89 4 u x.length (q4s x)) (hv : Dj u v) (hd : ∀ (j : Nat) u', us[j]? = some u' → Dj u' u) : InSS w base v (us ++ [u]) (xs ++ [x]) := by
  have hl := h.1
  refine ⟨by simp [hl], fun j u' x' hu hx => ?_, fun i j a b hij ha hb => ?_⟩
  · rw [List.getElem?_append] at hu hx
    rw [← hl] at hx
    split at hu
    · rename_i hj
      rw [if_pos hj] at hx
      exact h.2.1 j u' x' hu hx
    · rename_i hj
      rw [if_neg hj] at hx
      have h0 : j - us.length = 0 := by
        have := (List.getElem?_eq_some_iff.1 hu).1
        simp at this
        exact this
      rw [h0] at hu hx
      obtain rfl : u = u' := by simpa using hu
      obtain rfl : x = x' := by simpa using hx
      exact ⟨ho, hv⟩
  · have hjl : j < us.length + 1 := by simpa using (List.getElem?_eq_some_iff.1 hb).1
    have hil : i < us.length := by omega
    rw [List.getElem?_append_left hil] at ha
    by_cases hj : j < us.length
    · rw [List.getElem?_append_left hj] at hb
      exact h.2.2 i j a b hij ha hb
    · have : j = us.length := by omega
      subst this
      have : u = b := by simpa using hb
      subst this
      exact hd i a ha
theorem InSS.nil (w : World) (base : Nat) (v : Value) : InSS w base v [] [] := ⟨rfl, (fun j u x hu _ => by simp at hu), fun i j u u' _ hu _ => by simp at hu⟩

set_option maxHeartbeats 1000000 in
theorem toRuleSS_any (w : World) (v : Value) (ms : List (Value × List Q4)) (s : Sl w 1 v ms.length (ms.map Prod.fst)) (hq : ∀ m ∈ ms, Sl w 4 m.1 m.2.length (q4s m.2)) (hn0 : ms.length ≤ 1048576) (hx : ∀ m ∈ ms, m.2.length ≤ 1048576) :
    Calls Try.prog 10 #[v] w fun r w' => ∃ u us, r = .returned u ∧ OwnSS w' w.heap.size u us (ms.map Prod.snd) ∧ Below w.heap.size w w' := by
  obtain ⟨A, cap, rfl, hcap, hr⟩ := s
  obtain ⟨i0, hi, hz0, hz1, hz2⟩ := info_parts infoRS
  have hm := size_le hn0
  have GT := hd (fun (k : Nat) (h : k < ms.length) => (show ∃ m, ms[k]? = some m ∧ m ∈ ms from ⟨ms[k], List.getElem?_eq_getElem h, List.getElem_mem h⟩))
  have CE := hd (fun (k : Nat) (m : Value × List Q4) (h : ms[k]? = some m) => (show (ms.map Prod.fst)[k]? = some m.1 by rw [List.getElem?_map, h]; rfl))
  have TS := hd (fun (k : Nat) (m : Value × List Q4) (h : ms[k]? = some m) => (show (ms.map Prod.snd).take (k + 1) = (ms.map Prod.snd).take k ++ [m.2] by rw [List.take_add_one, List.getElem?_map, h]; rfl))
  have TO := hd (fun (m : Value × List Q4) (hm : m ∈ ms) (w' : World) hb => toRuleS_any m.1 m.2 w' ((hq m hm).below hb) (hx m hm))
  have TA := hd (show (ms.map Prod.snd).take ms.length = ms.map Prod.snd by rw [← List.length_map (f := Prod.snd), List.take_length])
  have TL := hd (fun (m : Value × List Q4) (hm : m ∈ ms) => (hx m hm))
  have HL := hd (show (ms.map Prod.snd).length = ms.length by simp)
  clear hq hx
  generalize hn : ms.length = n at *
  clear hn
  have hb2 : i0.bytes * n ≤ 281474976710656 := by rw [hz2]; omega
  go_enter Try.func10, Try.ntmps10
  go_wp2_with (at_make; go_must (refine wpList_make_full _ rfl (.tmp 6) (.tmp 6) 27 rfl w.heap.size 60 i0 (.slice none 0 0) 1 Try.underlying27 hi hz0 hz1 .i64 .i64 _ _ n rfl rfl rfl rfl hb2 hm (Nat.le_refl _) ?_); intro w1 hown hgrow)
  have hb1 := below_none hgrow
  clear hgrow
  have hown1 := hown
  go_loopw [4] (fun i wr => ∃ (k : Nat) (us : List Value), k ≤ n ∧ i = .int .i64 k ∧ us.length = k ∧ wr.ownsRow w.heap.size 60 1 (.slice (some ⟨w.heap.size, 0, none⟩) n n) n (us ++ List.replicate (n - k) (Value.slice none 0 0)) ∧ Hid (InSS wr w.heap.size (.slice (some ⟨w.heap.size, 0, none⟩) n n) us ((ms.map Prod.snd).take k)) ∧ Below w.heap.size w wr) (fun i _ => n - (intOf i).toNat)
  case atStart =>
    refine ⟨0, [], by omega, rfl, rfl, ?_, InSS.nil _ _ _, hb1⟩
    simpa [toList_madeCells_one, Value.cells] using hown1
  case round =>
    obtain ⟨k, us, hk, rfl, hul, ho, hin, hb⟩ := hrel
    clear hown hown1 hb1
    by_cases hlt : k < n
    · obtain ⟨m, hm1, hmem⟩ := GT.out k hlt
      obtain ⟨b, off, rfl, hcell⟩ := (hr.below hb).2.2 (by omega)
      have hc := hcell k _ (CE.out k m hm1)
      have TT := hd (TO.out m hmem wr hb)
      have HTS := hd (TS.out k m hm1)
      obtain ⟨mv, ml⟩ := m
      simp only at hc
      have Hb := hd hb
      have Ho := hd ho
      have i1 : (0 : Int) ≤ (k : Int) := by omega
      have i2 : (k : Int) < (n : Int) := by omega
      clear hr hcell hb ho
      go_wp2_with fail
      refine TT.out.mono ?_
      rintro e w' ⟨u, rfl, hu, hbt⟩
      have ho' := own_below Ho.out hbt
      have hin' := hin.out.below hbt
      have hDj : ∀ (j : Nat) u', us[j]? = some u' → Dj u' u := fun j u' h => by
        have hl := (List.getElem?_eq_some_iff.1 h).1
        have hl2 : j < ((ms.map Prod.snd).take k).length := by have := hin.out.1; omega
        exact dj_new (hin.out.2.1 j u' _ h (List.getElem?_eq_getElem hl2)).1 hu
      have hDv : Dj u (.slice (some ⟨w.heap.size, 0, none⟩) n n) := dj_symm (dj_new Ho.out hu)
      have hu' := own_mono hu Hb.out.size
      have hin2 := hd (hin'.snoc hu' hDv hDj)
      have hb' := hd (below_tr hbt Hb.out)
      obtain ⟨Au, capu, rfl, _, _, _⟩ := own_rd hu (size_le (TL.out _ hmem))
      clear hu hu' hin' hDj hDv hbt hin Ho hc TT
      go_wp2_with ((with_reducible refine wpList_store_own _ w.heap.size _ 1 n n w.heap.size _ ho' size_rs ?_ ?_ ?_ ?_ ?_ ?_ ?_); rotate_left 2; exact rfl; exact rfl; exact rfl; omega; clear ho'; intro w6 ho7 hg7)
      go_roundw
      case rel =>
        have e : w6.ownsRow w.heap.size 60 1 (.slice (some ⟨w.heap.size, 0, none⟩) n n) n ((us ++ List.replicate (n - k) (Value.slice none 0 0)).set k (.slice Au ml.length capu)) := ho7
        rw [List.set_append_right _ _ (by omega), show n - k = (n - (k + 1)) + 1 by omega, List.replicate_succ, hul, Nat.sub_self, List.set_cons_zero, List.append_cons] at e
        have hin6 := hin2.out.outer (w' := w6) hg7
        rw [← HTS.out] at hin6
        exact ⟨k + 1, _, by omega, by go_num, by simp [hul], e, hin6, hb'.out.grown hg7 hb'.out.size (fun k' hk' => by cases hk'; exact Nat.le_refl _)⟩
      case measure => simp [intOf]; omega
    · have hkn : k = n := by omega
      subst hkn
      go_wp2
      go_ret
      have hin3 := hin.out
      rw [TA.out] at hin3
      rw [Nat.sub_self, List.replicate_zero, List.append_nil] at ho
      exact ⟨_, us, rfl, ⟨by rw [HL.out]; exact ho, hin3⟩, hb⟩

theorem keep11 {a1 a2 : Addr} {v0 u0 : Value} {W w w' : World} (h : Below w.heap.size w w') (hH : w.cell? a1 = some v0 ∧ w.cell? a2 = some u0 ∧ Below W.heap.size W w) : w'.cell? a1 = some v0 ∧ w'.cell? a2 = some u0 ∧ Below W.heap.size W w' :=
  ⟨below_at h hH.1, below_at h hH.2.1, below_tr h hH.2.2⟩
set_option maxHeartbeats 1000000 in
/-- equal lists of lists: the answer is yes -/
theorem eqRuleSS_t (w : World) (v u : Value) (ms ns : List (Value × List Q4)) (s : Sl w 1 v ms.length (ms.map Prod.fst)) (hq : ∀ m ∈ ms, Sl w 4 m.1 m.2.length (q4s m.2)) (s2 : Sl w 1 u ns.length (ns.map Prod.fst)) (hq2 : ∀ m ∈ ns, Sl w 4 m.1 m.2.length (q4s m.2)) (he : ns.map Prod.snd = ms.map Prod.snd) :
    Calls Try.prog 13 #[v, u] w fun r w' => r = .returned (.bool true) ∧ Below w.heap.size w w' := by
  obtain ⟨A, cap, rfl, hcap, hr⟩ := s
  obtain ⟨A2, cap2, rfl, hcap2, hr2⟩ := s2
  have hm0 := hr.2.1
  unfold maxLen at hm0
  have hln : ns.length = ms.length := by have := congrArg List.length he; simpa using this
  have GT := hd (fun (k : Nat) (h : k < ms.length) => (show ∃ m, ms[k]? = some m ∧ m ∈ ms from ⟨ms[k], List.getElem?_eq_getElem h, List.getElem_mem h⟩))
  have CE := hd (fun (k : Nat) (m : Value × List Q4) (h : ms[k]? = some m) => (show (ms.map Prod.fst)[k]? = some m.1 by rw [List.getElem?_map, h]; rfl))
  have GT2 := hd (fun (k : Nat) (h : k < ns.length) => (show ∃ m, ns[k]? = some m ∧ m ∈ ns from ⟨ns[k], List.getElem?_eq_getElem h, List.getElem_mem h⟩))
  have CE2 := hd (fun (k : Nat) (m : Value × List Q4) (h : ns[k]? = some m) => (show (ns.map Prod.fst)[k]? = some m.1 by rw [List.getElem?_map, h]; rfl))
  have SE := hd (fun (k : Nat) (m m2 : Value × List Q4) (h : ms[k]? = some m) (h2 : ns[k]? = some m2) => (show m2.2 = m.2 by
    have e := congrArg (fun l => l[k]?) he
    simp only [List.getElem?_map, h, h2, Option.map_some] at e
    exact Option.some.inj e))
  have Q1 := hd (fun (m m2 : Value × List Q4) (hm : m ∈ ms) (hm2 : m2 ∈ ns) (e : m2.2 = m.2) (w' : World) hb => (show Calls Try.prog 38 #[m.1, m2.1] w' fun r w2 => r = .returned (.bool true) ∧ Below w'.heap.size w' w2 by
    have := eqRuleS_any m.1 m2.1 m.2 m2.2 w' ((hq m hm).below hb) ((hq2 m2 hm2).below hb)
    rw [decide_eq_true e.symm] at this
    exact this))
  clear hq hq2 he
  rw [hln] at hr2 hcap2 GT2 ⊢
  generalize hn : ms.length = n at *
  clear hn hln
  go_enter Try.func13, Try.ntmps13
  go_wp2
  go_loopw [5] (fun i wr => ∃ k : Nat, k ≤ n ∧ i = .int .i64 k ∧ Below w.heap.size w wr) (fun i _ => n - (intOf i).toNat)
  case atStart => exact ⟨0, by omega, rfl, Below.refl _ _⟩
  case round =>
    obtain ⟨k, hk, rfl, hb⟩ := hrel
    by_cases hlt : k < n
    · obtain ⟨m, hm1, hmem⟩ := GT.out k hlt
      obtain ⟨m2, hm2, hmem2⟩ := GT2.out k hlt
      obtain ⟨b, off, rfl, hcell⟩ := (hr.below hb).2.2 (by omega)
      obtain ⟨b2, off2, rfl, hcell2⟩ := (hr2.below hb).2.2 (by omega)
      have c0 := hcell k _ (CE.out k m hm1)
      have d0 := hcell2 k _ (CE2.out k m2 hm2)
      have QQ := hd (fun w' h => Q1.out m m2 hmem hmem2 (SE.out k m m2 hm1 hm2) w' (below_tr h hb))
      obtain ⟨mv, ml⟩ := m
      obtain ⟨mv2, ml2⟩ := m2
      simp only at c0 d0
      have Hb := hd hb
      have hb0 : Below wr.heap.size wr wr.drew := (Below.refl _ _).drew
      have i1 : (0 : Int) ≤ (k : Int) := by omega
      have i2 : (k : Int) < (n : Int) := by omega
      clear hr hr2 hcell hcell2 hb
      go_wp2
      go_region_held3 (fun w' => w'.cell? ⟨b, off + k, none⟩ = some mv ∧ w'.cell? ⟨b2, off2 + k, none⟩ = some mv2 ∧ Below wr.heap.size wr w')
        (first | go_keep | exact keep11 h (by assumption))
        (first | (go_at_call 38; refine (QQ.out _ (by assumption)).mono ?_; rintro e w' ⟨rfl, h⟩))
      have hB2 : Below w.heap.size w _ := below_tr (‹_ ∧ _ ∧ Below wr.heap.size wr _›).2.2 Hb.out
      clear c0 d0 hb0
      go_wp2
      go_roundw
      case rel => exact ⟨k + 1, by omega, by go_num, hB2⟩
      case measure => simp [intOf]; omega
    · have hkn : k = n := by omega
      subst hkn
      go_wp2
      go_ret
      exact ⟨rfl, hb⟩

/-- what marking the inner rows leaves as it was -/
def KeptSS (w : World) (us : List Value) (w' : World) : Prop :=
  (∀ base e size v n xs, w.ownsRow base e size v n xs → (∀ (j : Nat) u, us[j]? = some u → Dj v u) → w'.ownsRow base e size v n xs) ∧
  ∀ w0 : World, Below w0.heap.size w0 w → (∀ (j : Nat) u, us[j]? = some u → ∀ k, u.ownBlock = some k → w0.heap.size ≤ k) → Below w0.heap.size w0 w'
theorem KeptSS.refl (w : World) (us : List Value) : KeptSS w us w := ⟨fun _ _ _ _ _ _ h _ => h, fun _ h _ => h⟩
theorem KeptSS.step {w w1 w2 : World} {us : List Value} {j : Nat} {u : Value} (h : KeptSS w us w1) (hj : us[j]? = some u) (hg : w1.grownBy w2 u.ownBlock) : KeptSS w us w2 :=
  ⟨fun base e size v n xs ho hd => own_kept (h.1 base e size v n xs ho hd) hg (hd j u hj), fun w0 hb hd => below_row hg (h.2 w0 hb hd) (hd j u hj)⟩

set_option maxHeartbeats 1000000 in
theorem markRuleSS_any (w : World) (base : Nat) (v : Value) (us : List Value) (xs : List (List Q4)) (m : Int) (ho : OwnSS w base v us xs) (hn0 : xs.length ≤ 1048576) (hs : sumL xs ≤ 1048576) (hm0 : 0 ≤ m) (hm1 : m ≤ 1048576) :
    Calls Try.prog 14 #[v, .int .i64 m] w fun r w' => r = .returned (.int .i64 (m + (sumL xs : Int) * 4)) ∧ KeptSS w us w' := by
  obtain ⟨ho, hin⟩ := ho
  obtain ⟨A, cap, rfl, hcap, hr, hA⟩ := own_rd ho (size_le hn0)
  have GT := hd (fun (k : Nat) (h : k < xs.length) => (show ∃ u x, us[k]? = some u ∧ xs[k]? = some x from ⟨us[k]'(by have := hin.1; omega), xs[k], List.getElem?_eq_getElem _, List.getElem?_eq_getElem h⟩))
  have MK := hd (fun (k : Nat) (u : Value) (x : List Q4) (hu : us[k]? = some u) (hx : xs[k]? = some x) (w' : World) (ho' : w'.ownsRow base 89 4 u x.length (q4s x)) => (show Calls Try.prog 39 #[u, .int .i64 (m + (sumL (xs.take k) : Int) * 4)] w' fun r w2 => r = .returned (.int .i64 (m + (sumL (xs.take (k + 1)) : Int) * 4)) ∧ w'.grownBy w2 u.ownBlock by
    have e := sum_take hx
    have l1 := sum_le xs (k + 1)
    have := markRuleS_any u (q4s x) x.length base (m + (sumL (xs.take k) : Int) * 4) w' ho' (by omega) (by omega) (by omega)
    refine this.mono ?_
    rintro e2 w2 ⟨rfl, _, hg⟩
    refine ⟨?_, hg⟩
    congr 2
    omega))
  have HI := hd hin
  have HA : Hid (sumL (xs.take xs.length) = sumL xs) := hd (by rw [List.take_length])
  have H0 : Hid (sumL (xs.take 0) = 0) := hd rfl
  have SLE := hd (fun k => (sum_le xs k))
  have OW := hd ho
  clear hr ho hin
  generalize hn : xs.length = n at *
  have Hn := hd hn
  clear hn
  go_enter Try.func14, Try.ntmps14
  go_wp2
  go_loopw [1, 5] (fun q i wr => ∃ k : Nat, k ≤ n ∧ i = .int .i64 k ∧ q = .int .i64 (m + (sumL (xs.take k) : Int) * 4) ∧ Hid (∀ (j : Nat) u x, k ≤ j → us[j]? = some u → xs[j]? = some x → wr.ownsRow base 89 4 u x.length (q4s x)) ∧ Hid (KeptSS w us wr)) (fun _ i _ => n - (intOf i).toNat)
  case atStart => exact ⟨0, by omega, rfl, by rw [H0.out]; simp, fun j u x _ hu hx => (HI.out.2.1 j u x hu hx).1, KeptSS.refl _ _⟩
  case round =>
    obtain ⟨k, hk, rfl, rfl, hrest, hkept⟩ := hrel
    by_cases hlt : k < n
    · obtain ⟨u, x, hu, hx⟩ := GT.out k hlt
      have how := hkept.out.1 _ _ _ _ _ _ OW.out (fun j u' hj => dj_symm (by
        have hl := (List.getElem?_eq_some_iff.1 hj).1
        have hl2 : j < xs.length := by have := HI.out.1; have := Hn.out; omega
        exact (HI.out.2.1 j u' _ hj (List.getElem?_eq_getElem hl2)).2))
      obtain ⟨A', cap', hv', _, hr, _⟩ := own_rd how (size_le hn0)
      cases hv'
      obtain ⟨b, off, rfl, hcell⟩ := hr.2.2 (by omega)
      have c0 := hcell k _ hu
      have MM := hd (MK.out k u x hu hx wr (hrest.out k u x (Nat.le_refl _) hu hx))
      have i1 : (0 : Int) ≤ (k : Int) := by omega
      have i2 : (k : Int) < (n : Int) := by omega
      have Hu := hd hu
      clear hcell hr how hu hx hA
      generalize hq : (m + (sumL (xs.take k) : Int) * 4) = q at *
      clear hq
      generalize hq2 : (m + (sumL (xs.take (k + 1)) : Int) * 4) = q2 at *
      have Hq2 := hd hq2
      clear hq2
      go_wp2_with (go_at_call 39; refine MM.out.mono ?_; rintro e w' ⟨rfl, hg⟩)
      go_roundw
      case rel =>
        refine ⟨k + 1, by omega, by go_num, by rw [Hq2.out], fun j u' x' hj hu' hx' => ?_, hkept.out.step Hu.out hg⟩
        exact own_kept (hrest.out j u' x' (by omega) hu' hx') hg (dj_symm (HI.out.2.2 k j u u' (by omega) Hu.out hu'))
      case measure => simp [intOf]; omega
    · have hkn : k = n := by omega
      subst hkn
      rw [HA.out]
      go_wp2
      go_ret
      exact ⟨rfl, hkept⟩
end Go.Proofs.Ytldehffhpblliaa
