/- MatchSkills of the program: a contract (cut from the law's text). -/
import Derived.Test.YtfeehfmiicleaaaProg
import Derived.Test.YtfeehfmiicleaaaSlice
import Derived.Test.YtfeehfmiicleaaaSkills
import Derived.Test.YtfeehfmiicleaaaMatchQ
import Derived.Test.YtfeehfmiicleaaaStepAppB
namespace Go.Proofs.Ytfeehfmiicleaaa.MatI
open Go.RowKit Go.Proofs.Ytfeehfmiicleaaa Plain
set_option linter.unusedVariables false
set_option linter.unusedSimpArgs false
attribute [local go_sem ↓] Go.wp_at_zero Go.wp_at_succ

def okK (people tasks : List Int) : Bool := skB people && skB tasks
def ofK (people tasks : List Int) : List Int := matM (fitM tasks people) people.length tasks.length
def M (people tasks : List Int) : List Int × Int × Bool := if okK people tasks then ((outM (ofK people tasks) tasks.length people.length).1, ((outM (ofK people tasks) tasks.length people.length).2 : Int), true) else ([], 0, false)
theorem M_no {people tasks : List Int} (h : okK people tasks = false) : M people tasks = ([], 0, false) := by rw [M, h]; rfl
theorem M_yes {people tasks : List Int} (h : okK people tasks = true) : M people tasks = ((outM (ofK people tasks) tasks.length people.length).1, ((outM (ofK people tasks) tasks.length people.length).2 : Int), true) := by rw [M, h]; rfl
theorem sk_len {l : List Int} (h : skB l = true) : 1 ≤ l.length ∧ l.length ≤ 12 := by
  simp only [skB, manyIn, Bool.and_eq_true, decide_eq_true_eq] at h
  omega
theorem okK_parts {people tasks : List Int} (h : okK people tasks = true) : (1 ≤ people.length ∧ people.length ≤ 12) ∧ (1 ≤ tasks.length ∧ tasks.length ≤ 12) := by
  simp only [okK, Bool.and_eq_true] at h
  exact ⟨sk_len h.1, sk_len h.2⟩
theorem len_ok (people : List Int) (_i : ∀ x ∈ people, I64 x) (_b : people.length ≤ 1048576) (tasks : List Int) (_j : ∀ x ∈ tasks, I64 x) (_c : tasks.length ≤ 1048576) : (M people tasks).1.length ≤ 1048576 := by
  cases h : okK people tasks with
  | false => rw [M_no h]; simp
  | true =>
    have := okK_parts h
    rw [M_yes h, outM_len]; omega

set_option maxHeartbeats 4000000 in
set_option maxRecDepth 100000 in
theorem impl_any (w : World) (v : Value) (people : List Int) (_i : ∀ x ∈ people, I64 x) (_b : people.length ≤ 1048576) (s : Sl w 1 v people.length (people.map vi)) (u : Value) (tasks : List Int) (_j : ∀ x ∈ tasks, I64 x) (_c : tasks.length ≤ 1048576) (s2 : Sl w 1 u tasks.length (tasks.map vi)) :
    Calls Try.prog 11 #[v, u] w (OutL 2 1 (M people tasks).1.length ((M people tasks).1.map vi) (fun z => .tuple #[z, .int .i64 (M people tasks).2.1, .bool (M people tasks).2.2]) w) := by
  have A1 := hd (fun w' (h : Below w.heap.size w w') => areSkills_any v people w' (s.below h))
  have A2 := hd (fun w' (h : Below w.heap.size w w') => areSkills_any u tasks w' (s2.below h))
  have S1 := hd s
  have S2 := hd s2
  obtain ⟨P1, c1, rfl, hc1, _⟩ := id s
  obtain ⟨P2, c2, rfl, hc2, _⟩ := id s2
  clear s s2 _i _j
  cases hok : okK people tasks with
  | false =>
    have H := hd (M_no hok)
    rw [H.out]
    unfold okK at hok
    generalize skB people = b1 at *
    generalize skB tasks = b2 at *
    generalize people.length = n1 at *
    generalize tasks.length = n2 at *
    cases b1 <;> cases b2
    all_goals first
      | (exfalso; simp at hok; done)
      | (clear hok
         go_enter Try.func11, Try.ntmps11
         go_wp2_with (first
           | (go_at_call_has 21 P1; refine (A1.out _ ?_).mono ?_; (go_grown); rintro e w' ⟨rfl, hw⟩; replace hw := hw.symm; subst hw)
           | (go_at_call_has 21 P2; refine (A2.out _ ?_).mono ?_; (go_grown); rintro e w' ⟨rfl, hw⟩; replace hw := hw.symm; subst hw))
         refine bodyPost_ret (by simp [results, Try.results11, go_sem] <;> rfl) rfl ⟨_, rfl, World.ownsRow_nil _ _ _ _, by go_grown⟩)
  | true =>
    have H := hd (M_yes hok)
    obtain ⟨⟨p1, p2⟩, ⟨r1, r2⟩⟩ := okK_parts hok
    have hab : skB people = true ∧ skB tasks = true := by simpa [okK] using hok
    rw [hab.1] at A1
    rw [hab.2] at A2
    obtain ⟨ofl, hof⟩ : ∃ ofl, ofl = ofK people tasks := ⟨_, rfl⟩
    have MK := hd (matM_ok (fitM tasks people) tasks.length people.length tasks.length (Nat.le_refl _))
    rw [show matM (fitM tasks people) people.length tasks.length = ofl from hof.symm] at MK
    rw [← hof] at H
    have hbW : Below w.heap.size w ((w.alloc (.cells #[.slice P1 people.length c1] 30)).alloc (.cells #[.slice P2 tasks.length c2] 30)) := by go_grown
    have k1 : ((w.alloc (.cells #[.slice P1 people.length c1] 30)).alloc (.cells #[.slice P2 tasks.length c2] 30)).cell? ⟨w.heap.size, 0, none⟩ = some (.slice P1 people.length c1) := by simp [go_sem]
    have k2 : ((w.alloc (.cells #[.slice P1 people.length c1] 30)).alloc (.cells #[.slice P2 tasks.length c2] 30)).cell? ⟨w.heap.size + 1, 0, none⟩ = some (.slice P2 tasks.length c2) := by simp [go_sem]
    have MQ := hd (match_MatchSkills (fitM tasks people) tasks.length people.length (w.heap.size + 1) w.heap.size _ p1 (by omega) (by omega) (hd (fun w' h i k hi hk => fit_any tasks people (w.heap.size + 1) w.heap.size _ _ w' (S2.out.below (below_tr h hbW)) (S1.out.below (below_tr h hbW)) r2 p2 (below_at h k2) (below_at h k1) i k hi hk)))
    rw [show matM (fitM tasks people) people.length tasks.length = ofl from hof.symm] at MQ
    have HBW := hd hbW
    have K2 := hd k2
    have OY := hd (fun k r h => outM_yes (of' := ofl) (rows := tasks.length) (k := k) (r := r) h)
    have ON := hd (fun k h => outM_no (of' := ofl) (rows := tasks.length) (k := k) h)
    have OL := hd (fun k => outM_len ofl tasks.length k)
    have OC := hd (fun k => outM_le ofl tasks.length k)
    have O0 := hd (show outM ofl tasks.length 0 = (List.replicate tasks.length (-1), 0) from rfl)
    have NN := hd (fun w' => none_any tasks.length r1 (by omega) w')
    rw [H.out]
    simp only
    rw [OL.out]
    clear hok hab hof hbW k1 k2 S1 S2 H
    generalize people.length = p at *
    generalize tasks.length = rows at *
    go_enter Try.func11, Try.ntmps11
    go_wp2_with (first
      | (go_at_call_has 21 P1; refine (A1.out _ ?_).mono ?_; (go_grown); rintro e w' ⟨rfl, hw⟩; replace hw := hw.symm; subst hw)
      | (go_at_call_has 21 P2; refine (A2.out _ ?_).mono ?_; (go_grown); rintro e w' ⟨rfl, hw⟩; replace hw := hw.symm; subst hw)
      | (go_at_call 22; refine MQ.out.mono ?_; rintro e w2 ⟨ofv, rfl, ho2, hb2⟩; have kk2 := below_at hb2 K2.out; have HB2 := hd (below_tr hb2 HBW.out); have HO2 := hd (own_mono ho2 HBW.out.size); obtain ⟨g1, d1, rfl, hg11, hg12⟩ := own_form ho2 p1; clear ho2 hb2)
      | (go_at_call 24; refine (NN.out _).mono ?_; rintro e w3 ⟨outv, rfl, ho3, hb3⟩; obtain ⟨g2, d2, rfl, hg21, hg22⟩ := own_form ho3 r1; have HP := hd (And.intro (own_below HO2.out hb3) (own_mono ho3 HB2.out.size)); have HB3 := hd (below_tr hb3 HB2.out); clear ho3 hb3))
    have hne : g1 ≠ g2 := by omega
    clear kk2 hg11
    go_loopw [9, 31] (fun ct ix wr => ∃ k : Nat, k ≤ p ∧ ix = .int .i64 k ∧ ct = .int .i64 ((outM ofl rows k).2 : Nat) ∧ Hid (wr.ownsRow w.heap.size 2 1 (.slice (some ⟨g1, 0, none⟩) p d1) p (ofl.map vi) ∧ wr.ownsRow w.heap.size 2 1 (.slice (some ⟨g2, 0, none⟩) rows d2) rows ((outM ofl rows k).1.map vi)) ∧ Hid (Below w.heap.size w wr)) (fun _ ix _ => p - (intOf ix).toNat)
    case atStart => exact ⟨0, by omega, rfl, by rw [O0.out]; rfl, hd (by rw [O0.out]; simpa [vi] using HP.out), HB3⟩
    case round =>
      clear HP HB3 HO2 HB2
      obtain ⟨k, hk, rfl, rfl, HP, HB⟩ := hrel
      by_cases hlt : k < p
      · have cq := own_int HP.out.1 hlt
        have hq := MK.out.2 k hlt
        have hle := OC.out k
        have Y := hd (fun r h => OY.out k r h)
        have N := hd (fun h => ON.out k h)
        generalize hv : ofl.getD k 0 = q at *
        clear hv
        have ho2 := HP.out.2
        have HG2 := hd (World.ownsRow.lt HP.out.2 g2 rfl)
        generalize hct : (outM ofl rows k).2 = ct at *
        have HC := hd hct
        clear hct
        by_cases h0 : 0 ≤ q
        · obtain ⟨r, rfl⟩ : ∃ r : Nat, q = r := ⟨q.toNat, by omega⟩
          have E := hd (Y.out r rfl)
          have wc : IntKind.i64.wrap ((ct : Int) + 1) = ((ct + 1 : Nat) : Int) := by rw [IntWalk.i64_in _ (by omega)]; push_cast; rfl
          have j1 : (r : Int) < (rows : Int) := by omega
          clear Y N hq
          go_wp2_with ((with_reducible refine wpList_store_own _ w.heap.size 2 1 rows d2 g2 _ ho2 size_int r (vi (k : Int)) ?_ ?_ ?_ ?_ ?_); exact rfl; exact rfl; exact rfl; omega; intro w6 ho6 hg6)
          go_roundw
          case rel =>
            refine ⟨k + 1, by omega, by go_num, by rw [E.out]; exact congrArg _ (by push_cast; rfl), hd ⟨own_kept (u := .slice (some ⟨g2, 0, none⟩) rows d2) HP.out.1 hg6 (dj_ne hne), ?_⟩, hd (belowB HB.out hg6 HG2.out.1 (Nat.le_refl _))⟩
            rw [E.out]
            show w6.ownsRow _ _ _ _ _ (((outM ofl rows k).1.set r (k : Int)).map vi)
            rw [List.map_set]; exact ho6
          case measure => simp [intOf]; omega
        · have E := hd (N.out (by omega))
          clear Y N hq
          go_wp2
          go_roundw
          case rel => exact ⟨k + 1, by omega, by go_num, by rw [E.out, HC.out], hd ⟨HP.out.1, by rw [E.out]; exact HP.out.2⟩, HB⟩
          case measure => simp [intOf]; omega
      · have e : k = p := by omega
        subst e
        go_wp2
        refine bodyPost_ret (by simp [results, Try.results11, go_sem] <;> rfl) rfl ⟨_, rfl, HP.out.2, HB.out⟩
end Go.Proofs.Ytfeehfmiicleaaa.MatI
