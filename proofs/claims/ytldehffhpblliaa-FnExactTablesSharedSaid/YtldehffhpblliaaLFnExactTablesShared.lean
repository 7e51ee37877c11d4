/- Whatever events, lists of rules, period and number of workers are given, the program's TablesShared and the reference's return the same list and bool, and the law's own copies are left as they were: the law returns true. No condition. -/
import Derived.Test.YtldehffhpblliaaRows
import Derived.Test.YtldehffhpblliaaShared
import Derived.Test.YtldehffhpblliaaRuleSS
import Derived.Test.YtldehffhpblliaaOpen3
namespace Go.Proofs.Ytldehffhpblliaa.lFnExactTablesShared
open Go.ChangeShapes Go.WideShapes Go.ChangeAt Go.RowKit Go.Proofs.Ytldehffhpblliaa Plain
set_option linter.unusedVariables false
set_option linter.unusedSimpArgs false
attribute [local go_sem ↓] Go.wp_at_zero Go.wp_at_succ

theorem shared_len (ev p wk : Int) (ms : List (Value × List Q4)) : (MShared ev p wk ms).1.length ≤ 1048576 := by
  unfold MShared
  split
  · rename_i h
    simp only [sharedOk, Bool.and_eq_true, decide_eq_true_eq] at h
    simp only [sharedL, List.length_map]
    omega
  · simp
theorem shared_snd {ev p wk : Int} {ms ns : List (Value × List Q4)} (h : ns.map Prod.snd = ms.map Prod.snd) : MShared ev p wk ns = MShared ev p wk ms := by
  have hl : ns.length = ms.length := by have := congrArg List.length h; simpa using this
  have e1 : ∀ ls : List (Value × List Q4), (ls.all fun m => (MCount ev m.2 p).2) = (ls.map Prod.snd).all fun x => (MCount ev x p).2 := fun ls => by simp [List.all_map, Function.comp_def]
  have e2 : ∀ ls : List (Value × List Q4), (ls.map fun m => (MCount ev m.2 p).1) = (ls.map Prod.snd).map fun x => (MCount ev x p).1 := fun ls => by simp [List.map_map, Function.comp_def]
  unfold MShared sharedOk sharedL
  rw [e1 ns, e1 ms, e2 ns, e2 ms, h, hl]
/-- the own copy, read as an argument is -/
theorem own_list {w : World} {base : Nat} {u : Value} {us : List Value} {xs : List (List Q4)} (h : OwnSS w base u us xs) (hn : xs.length ≤ 1048576) (hx : ∀ x ∈ xs, x.length ≤ 1048576) :
    ∃ ns : List (Value × List Q4), ns.map Prod.snd = xs ∧ Sl w 1 u ns.length (ns.map Prod.fst) ∧ ∀ m ∈ ns, Sl w 4 m.1 m.2.length (q4s m.2) := by
  have hl := h.2.1
  refine ⟨us.zip xs, List.map_snd_zip (by omega), ?_, fun m hm => ?_⟩
  · rw [List.map_fst_zip (by omega), show (us.zip xs).length = xs.length by simp; omega]
    exact own_sl h.1 (size_le hn)
  · obtain ⟨j, hj, rfl⟩ := List.mem_iff_getElem.1 hm
    have h1 : j < us.length := by simp at hj; omega
    have h2 : j < xs.length := by simp at hj; omega
    rw [List.getElem_zip]
    exact own_sl (h.2.2.1 j us[j] xs[j] (List.getElem?_eq_getElem h1) (List.getElem?_eq_getElem h2)).1 (size_le (hx _ (List.getElem_mem h2)))
theorem spec_any (w : World) {base : Nat} (ev p wk : Int) (u : Value) (us : List Value) (ms : List (Value × List Q4)) (h : OwnSS w base u us (ms.map Prod.snd)) (hn : ms.length ≤ 1048576) (hx : ∀ m ∈ ms, m.2.length ≤ 1048576) :
    Calls Try.prog 9 #[.int .i64 ev, u, .int .i64 p, .int .i64 wk] w (OutL 2 1 (MShared ev p wk ms).1.length ((MShared ev p wk ms).1.map vi) (fun u => .tuple #[u, .bool (MShared ev p wk ms).2]) w) := by
  obtain ⟨ns, e, s, q⟩ := own_list h (by simpa using hn) (fun x hx' => by obtain ⟨m, hm, rfl⟩ := List.mem_map.1 hx'; exact hx m hm)
  rw [← shared_snd e]
  exact specTablesShared_any w ev p wk u ns s q
theorem impl_any (w : World) {base : Nat} (ev p wk : Int) (u : Value) (us : List Value) (ms : List (Value × List Q4)) (h : OwnSS w base u us (ms.map Prod.snd)) (hn : ms.length ≤ 1048576) (hx : ∀ m ∈ ms, m.2.length ≤ 1048576) :
    Calls Try.prog 11 #[.int .i64 ev, u, .int .i64 p, .int .i64 wk] w (OutL 2 1 (MShared ev p wk ms).1.length ((MShared ev p wk ms).1.map vi) (fun u => .tuple #[u, .bool (MShared ev p wk ms).2]) w) := by
  obtain ⟨ns, e, s, q⟩ := own_list h (by simpa using hn) (fun x hx' => by obtain ⟨m, hm, rfl⟩ := List.mem_map.1 hx'; exact hx m hm)
  rw [← shared_snd e]
  exact TablesShared_any w ev p wk u ns s q
theorem eq_any (w : World) {b1 b2 : Nat} (u1 u2 : Value) (us1 us2 : List Value) (ms : List (Value × List Q4)) (h1 : OwnSS w b1 u1 us1 (ms.map Prod.snd)) (h2 : OwnSS w b2 u2 us2 (ms.map Prod.snd)) (hn : ms.length ≤ 1048576) (hx : ∀ m ∈ ms, m.2.length ≤ 1048576) :
    Calls Try.prog 13 #[u1, u2] w fun r w' => r = .returned (.bool true) ∧ Below w.heap.size w w' := by
  have hx2 : ∀ x ∈ ms.map Prod.snd, x.length ≤ 1048576 := fun x hx' => by obtain ⟨m, hm, rfl⟩ := List.mem_map.1 hx'; exact hx m hm
  obtain ⟨ns, e, s, q⟩ := own_list h1 (by simpa using hn) hx2
  obtain ⟨ns2, e2, s2, q2⟩ := own_list h2 (by simpa using hn) hx2
  exact eqRuleSS_t w u1 u2 ns ns2 s q s2 q2 (e2.trans e.symm)
theorem OwnSS.below {w w' : World} {base : Nat} {v : Value} {us : List Value} {xs : List (List Q4)} (h : OwnSS w base v us xs) (hb : Below w.heap.size w w') : OwnSS w' base v us xs := ⟨own_below h.1 hb, h.2.below hb⟩

set_option maxHeartbeats 2000000 in
set_option maxRecDepth 100000 in
theorem walk (w : World) (a0 : Int) (i0 : I64 a0) (v1 : Value) (ms : List (Value × List Q4)) (hq : ∀ m ∈ ms, Sl w 4 m.1 m.2.length (q4s m.2)) (s1 : Sl w 1 v1 ms.length (ms.map Prod.fst)) (a2 : Int) (i2 : I64 a2) (a3 : Int) (i3 : I64 a3) :
    Calls Try.prog 3 #[.int .i64 a0, v1, .int .i64 a2, .int .i64 a3] w fun e w' => e = .returned (.bool true) ∧ Below w.heap.size w w' := by
  have hz1 := hd (szRuleSS_any w v1 ms 1048576 (by omega) (by omega) s1 hq)
  generalize hz : (if (1048576 : Int) < ms.length then (-1 : Int) else szL (1048576 - ms.length) ms) = z at hz1
  by_cases hneg : z < 0
  · clear hz
    go_enter Try.func3, Try.ntmps3
    go_wp2_with fail
    refine hz1.out.mono ?_; rintro e w' ⟨rfl, hw⟩; replace hw := hw.symm; subst hw
    go_wp2
    go_ret
    exact ⟨rfl, Below.refl _ _⟩
  have hb1 : ¬ (1048576 : Int) < ms.length := fun h => hneg (by rw [← hz, if_pos h]; decide)
  have hz2 : 0 ≤ szL (1048576 - ms.length) ms := by rw [if_neg hb1] at hz; omega
  have b1 : ms.length ≤ 1048576 := by omega
  have b2 : ∀ m ∈ ms, m.2.length ≤ 1048576 := fun m hm => by have := szL_all hz2 m hm; omega
  have b3 : sumL (ms.map Prod.snd) ≤ 1048576 := by have := szL_sum hz2; omega
  have b4 : (ms.map Prod.snd).length ≤ 1048576 := by simpa using b1
  have bg := shared_len a0 a2 a3 ms
  have zg := size_le bg
  have hB := Below.refl w.heap.size w
  have TO := hd (fun w' hb => toRuleSS_any w' v1 ms (s1.below hb) (fun m hm => (hq m hm).below hb) b1 b2)
  clear hz hz2 hb1 hq s1
  go_enter Try.func3, Try.ntmps3
  go_wp2_with fail
  refine hz1.out.mono ?_; rintro e w' ⟨rfl, hw⟩; replace hw := hw.symm; subst hw
  clear hz1
  go_wp2_with fail
  refine (TO.out _ hB).mono ?_; rintro e w1 ⟨s1_, us1, rfl, ho_s1_, hb⟩
  replace hB := below_tr hb hB
  clear hb
  go_wp2_with fail
  refine (spec_any _ a0 a2 a3 _ us1 ms ho_s1_ b1 b2).mono ?_; rintro e w2 ⟨w0, rfl, ho_w0, hb⟩
  replace ho_w0 := own_mono ho_w0 hB.size
  replace hB := below_tr hb hB
  clear hb ho_s1_
  go_wp2_with fail
  refine (TO.out _ hB).mono ?_; rintro e w3 ⟨x1_, us, rfl, ho_x1_, hb⟩
  have HX := hd (fun (j : Nat) u (hu : us[j]? = some u) => (show ∃ x, w3.ownsRow w2.heap.size 89 4 u x (q4s ((ms.map Prod.snd)[j]?.getD [])) by
    have hl := (List.getElem?_eq_some_iff.1 hu).1
    have hl2 : j < (ms.map Prod.snd).length := by have := ho_x1_.2.1; omega
    have e := List.getElem?_eq_getElem hl2
    exact ⟨_, by rw [e]; exact (ho_x1_.2.2.1 j u _ hu e).1⟩))
  have d_w0 := hd (fun (j : Nat) u (hu : us[j]? = some u) => (show Dj w0 u by obtain ⟨x, hx⟩ := HX.out j u hu; exact dj_new ho_w0 hx))
  have HR := hd (fun (j : Nat) u (hu : us[j]? = some u) => (show ∀ k, u.ownBlock = some k → w.heap.size ≤ k by obtain ⟨x, hx⟩ := HX.out j u hu; exact own_row hx hB.size))
  replace ho_w0 := own_below ho_w0 hb
  replace hB := below_tr hb hB
  clear hb
  go_wp2_with fail
  refine (impl_any _ a0 a2 a3 _ us ms ho_x1_ b1 b2).mono ?_; rintro e w4 ⟨g0, rfl, ho_g0, hb⟩
  have d_w0_g0 := dj_new ho_w0 ho_g0
  have d_g0 := hd (fun (j : Nat) u (hu : us[j]? = some u) => (show Dj g0 u by obtain ⟨x, hx⟩ := HX.out j u hu; exact dj_symm (dj_new hx ho_g0)))
  clear HX
  replace ho_w0 := own_below ho_w0 hb
  replace ho_x1_ := OwnSS.below ho_x1_ hb
  replace ho_g0 := own_mono ho_g0 hB.size
  replace hB := below_tr hb hB
  clear hb
  go_wp2_with fail
  refine (eqInt64S_b _ _ _ _ _ (own_sl ho_g0 zg) (own_sl ho_w0 zg)).mono ?_; rintro e w5 ⟨rfl, hb⟩
  replace ho_w0 := own_below ho_w0 hb
  replace ho_x1_ := OwnSS.below ho_x1_ hb
  replace ho_g0 := own_below ho_g0 hb
  replace hB := below_tr hb hB
  clear hb
  go_wp2_with fail
  refine (TO.out _ hB).mono ?_; rintro e w6 ⟨c1_, us3, rfl, ho_c1_, hb⟩
  replace ho_w0 := own_below ho_w0 hb
  replace ho_x1_ := OwnSS.below ho_x1_ hb
  replace ho_g0 := own_below ho_g0 hb
  replace hB := below_tr hb hB
  clear hb
  go_wp2_with fail
  refine (eq_any _ _ _ us us3 ms ho_x1_ ho_c1_ b1 b2).mono ?_; rintro e w7 ⟨rfl, hb⟩
  replace ho_w0 := own_below ho_w0 hb
  replace ho_x1_ := OwnSS.below ho_x1_ hb
  replace ho_g0 := own_below ho_g0 hb
  replace hB := below_tr hb hB
  clear hb ho_c1_
  go_wp2_with fail
  refine (markRuleSS_any _ _ _ us _ 1 ho_x1_ b4 b3 (by omega) (by omega)).mono ?_; rintro e w8 ⟨rfl, hkp⟩
  replace ho_w0 := hkp.1 _ _ _ _ _ _ ho_w0 d_w0.out
  replace ho_g0 := hkp.1 _ _ _ _ _ _ ho_g0 d_g0.out
  replace hB := hkp.2 _ hB HR.out
  have hs0 : ¬ (1 + (sumL (ms.map Prod.snd) : Int) * 4 < 0) := by omega
  have hs1 : (1 + (sumL (ms.map Prod.snd) : Int) * 4) ≤ 8388608 := by omega
  have hs2 : 1 ≤ (1 + (sumL (ms.map Prod.snd) : Int) * 4) := by omega
  clear hkp ho_x1_ d_w0 d_g0 HR
  generalize (1 + (sumL (ms.map Prod.snd) : Int) * 4) = sk at *
  go_wp2_with fail
  refine (eqInt64S_b _ _ _ _ _ (own_sl ho_g0 zg) (own_sl ho_w0 zg)).mono ?_; rintro e w9 ⟨rfl, hb⟩
  replace ho_w0 := own_below ho_w0 hb
  replace ho_g0 := own_below ho_g0 hb
  replace hB := below_tr hb hB
  clear hb
  go_wp2_with fail
  have hrow := own_row ho_g0 (Nat.le_refl _)
  refine (markInt64S_any _ _ _ _ 1 _ ho_g0 bg (by omega) (by omega)).mono ?_; rintro e w10 ⟨rfl, ho', hg⟩
  replace ho_w0 := own_kept ho_w0 hg d_w0_g0
  replace ho_g0 := ho'
  replace hB := below_row hg hB hrow
  clear hg hrow ho'
  go_wp2_with fail
  refine (heldInt64S_b _ _ 1 _ (own_sl ho_g0 zg) bg (by omega) (by omega)).mono ?_; rintro e w11 ⟨rfl, hb⟩
  replace ho_w0 := own_below ho_w0 hb
  replace ho_g0 := own_below ho_g0 hb
  replace hB := below_tr hb hB
  clear hb
  go_wp2_with fail
  refine (TO.out _ hB).mono ?_; rintro e w12 ⟨t1_, us4, rfl, ho_t1_, hb⟩
  replace ho_w0 := own_below ho_w0 hb
  replace ho_g0 := own_below ho_g0 hb
  replace hB := below_tr hb hB
  clear hb
  go_wp2_with fail
  refine (impl_any _ a0 a2 a3 _ us4 ms ho_t1_ b1 b2).mono ?_; rintro e w13 ⟨h0, rfl, ho_h0, hb⟩
  replace ho_w0 := own_below ho_w0 hb
  replace ho_g0 := own_below ho_g0 hb
  replace ho_h0 := own_mono ho_h0 hB.size
  replace hB := below_tr hb hB
  clear hb ho_t1_
  go_wp2_with fail
  refine (eqInt64S_b _ _ _ _ _ (own_sl ho_h0 zg) (own_sl ho_w0 zg)).mono ?_; rintro e w14 ⟨rfl, hb⟩
  replace ho_w0 := own_below ho_w0 hb
  replace ho_g0 := own_below ho_g0 hb
  replace hB := below_tr hb hB
  clear hb ho_h0
  go_wp2_with fail
  refine (heldInt64S_b _ _ 1 _ (own_sl ho_g0 zg) bg (by omega) (by omega)).mono ?_; rintro e w15 ⟨rfl, hb⟩
  replace hB := below_tr hb hB
  clear hb
  go_wp2_with fail
  go_ret
  exact ⟨rfl, hB⟩

theorem own : ownKnob Try.prog.godebug = none := by kernel_rfl
theorem laidOut : laidOutB Try.prog = true := by kernel_rfl

set_option maxRecDepth 100000 in
theorem lifted (os : Os) (started : os.Started) (H : Type) (enc : TypeId × Value → H) :
    ReturnsInHanded {} Try.checked os 3 .any (Rows.fnExactTablesSharedSpec.pre6 enc Try.prog Try.f3 Rows.fnExactTablesSharedRow.domain false) (Rows.fnExactTablesSharedSpec.post enc Try.prog Try.f3 false true false false) := by
  refine returnsInHanded_of_change (C := Try.checked) own started (by as_aux_lemma => kernel_rfl) Try.func3
    (ChangeSpec.witness6 (enc := enc) (C := Try.checked) false ⟨#[], #[.int .i64 0, .slice none 0 0, .int .i64 0, .int .i64 0], []⟩ 8 (by as_aux_lemma => kernel_rfl) (by as_aux_lemma => kernel_rfl) (by as_aux_lemma => kernel_rfl) (by as_aux_lemma => kernel_rfl)) ?_
  intro W base args ds gs before hval0 hW hcnd _
  have hval : ∀ (j : Nat) t v, Try.f3.params[j]? = some t → args[j]? = some v → Value.okWide Try.prog W .any base t v := hval0
  have hW' := hW
  obtain ⟨p, q, hA0, hV, rfl, hfz, hnd⟩ := hW
  have hA : DataW.TrodAll enc Try.prog W 0 (fun _ => true) true Try.f3.params.toList args.toList ds p := hA0
  rw [Try.params3] at hA hval
  obtain ⟨v0, vs0, d0, ds0, p0, q0, hargs, rfl, rfl, h0, r0⟩ := trodAll_cons hA
  obtain ⟨v1, vs1, d1, ds1, p1, q1, rfl, rfl, rfl, h1, r1⟩ := trodAll_cons r0
  obtain ⟨v2, vs2, d2, ds2, p2, q2, rfl, rfl, rfl, h2, r2⟩ := trodAll_cons r1
  obtain ⟨v3, vs3, d3, ds3, p3, q3, rfl, rfl, rfl, h3, r3⟩ := trodAll_cons r2
  obtain ⟨rfl, rfl, rfl⟩ := trodAll_nil r3
  obtain rfl : args = #[v0, v1, v2, v3] := by cases args; simp_all
  obtain ⟨rfl, rfl⟩ := trodVars_none hV
  obtain ⟨a0, rfl, rfl, rfl, w0⟩ := open_int Try.underlying2 (hval 0 2 v0 rfl rfl) h0
  have k1 := h1
  have lt1 : ∀ x ∈ p1, x.block < W.heap.size := by obtain ⟨m, hm⟩ := k1; exact DataW.trod_lt m _ _ _ hm
  obtain ⟨s1, len1, cap1, rfl⟩ := okWide_slice Try.underlying22 (hval 1 22 v1 rfl rfl)
  obtain ⟨x1, _, i1, w1⟩ := arg_q4s Try.underlying22 Try.underlying57 Try.underlying91 Try.underlying2 rfl (by as_aux_lemma => kernel_rfl) (by as_aux_lemma => kernel_rfl) (by as_aux_lemma => kernel_rfl) h1
  obtain ⟨a2, rfl, rfl, rfl, w2⟩ := open_int Try.underlying2 (hval 2 2 v2 rfl rfl) h2
  obtain ⟨a3, rfl, rfl, rfl, w3⟩ := open_int Try.underlying2 (hval 3 2 v3 rfl rfl) h3
  clear hA0 hval0
  refine (walk W a0 (i64_of_wf w0) _ x1 i1 w1 a2 (i64_of_wf w2) a3 (i64_of_wf w3)).mono fun e W' ⟨he, bel⟩ => ?_
  subst he
  exact ⟨_, rfl, _, _, _, [], _, [], hW', trodAll_mk1 (shut_bool Try.underlying4 _), (trodAll_cons_mk (shut_int Try.underlying2 w0) (trodAll_cons_mk (Below.trod laidOut (by as_aux_lemma => kernel_rfl) (of_decide_eq_true (by as_aux_lemma => kernel_rfl)) k1 bel lt1) (trodAll_cons_mk (shut_int Try.underlying2 w2) (trodAll_cons_mk (shut_int Try.underlying2 w3) (trodAll_mk0))))), rfl, bel.frame _, fun h => by cases h⟩

/-- The given statement. -/
theorem proved : Rows.FnExactTablesSharedSaid :=
  OpenClaim.holds_of_wide 3 Try.f3 rfl rfl rfl rfl rfl rfl rfl ⟨rfl, rfl, rfl, rfl, rfl⟩ rfl rfl rfl rfl rfl (by kernel_rfl) Try.func3 (by kernel_rfl)
    (of_decide_eq_true (by kernel_rfl)) (by unfold Func.isWrapper; first | (rw [if_pos (by decide +kernel)]; kernel_rfl) | (rw [if_neg (by decide +kernel)]; exact ⟨rfl, rfl⟩))
    (fun os started H enc _ => lifted os started H enc)
#print axioms proved

end Go.Proofs.Ytldehffhpblliaa.lFnExactTablesShared
