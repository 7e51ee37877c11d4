/- Whatever people and tasks are given, the program's MatchSkills and the reference's return the same list, count and bool, in new memory, and the law's own copies are left as they were: the law returns true. No condition. -/
import Derived.Test.YthgijjdkhffhcaaRows
import Derived.Test.YthgijjdkhffhcaaSlice
import Derived.Test.YthgijjdkhffhcaaSkills
import Derived.Test.YthgijjdkhffhcaaMatchQ
import Derived.Test.YthgijjdkhffhcaaStepAppB
import Derived.Test.YthgijjdkhffhcaaOpen
namespace Go.Proofs.Ythgijjdkhffhcaa.lFnExactMatchSkills
open Go.ChangeShapes Go.WideShapes Go.ChangeAt Go.RowKit Go.Proofs.Ythgijjdkhffhcaa Plain
set_option linter.unusedVariables false
set_option linter.unusedSimpArgs false
attribute [local go_sem ↓] Go.wp_at_zero Go.wp_at_succ

def okK (people tasks : List Int) : Bool := skB people && skB tasks
def ofK (people tasks : List Int) : List Int := matM (fitM tasks people) people.length tasks.length
def M (people tasks : List Int) : List Int × Int × Bool := if okK people tasks then ((outM (ofK people tasks) tasks.length people.length).1, ((outM (ofK people tasks) tasks.length people.length).2 : Int), true) else ([], 0, false)
theorem M_no {people tasks : List Int} (h : okK people tasks = false) : M people tasks = ([], 0, false) := by rw [M, h]; rfl
theorem M_yes {people tasks : List Int} (h : okK people tasks = true) : M people tasks = ((outM (ofK people tasks) tasks.length people.length).1, ((outM (ofK people tasks) tasks.length people.length).2 : Int), true) := by rw [M, h]; rfl
theorem sk_len {l : List Int} (h : skB l = true) : 1 ≤ l.length ∧ l.length ≤ 12 := by
  simp only [skB, manyIn, Bool.and_eq_true, decide_eq_true_eq] at h
  omega
theorem okK_parts {people tasks : List Int} (h : okK people tasks = true) : (1 ≤ people.length ∧ people.length ≤ 12) ∧ (1 ≤ tasks.length ∧ tasks.length ≤ 12) := by
  simp only [okK, Bool.and_eq_true] at h
  exact ⟨sk_len h.1, sk_len h.2⟩
theorem len_ok (people : List Int) (_i : ∀ x ∈ people, I64 x) (_b : people.length ≤ 1048576) (tasks : List Int) (_j : ∀ x ∈ tasks, I64 x) (_c : tasks.length ≤ 1048576) : (M people tasks).1.length ≤ 1048576 := by
  cases h : okK people tasks with
  | false => rw [M_no h]; simp
  | true =>
    have := okK_parts h
    rw [M_yes h, outM_len]; omega

set_option maxHeartbeats 4000000 in
set_option maxRecDepth 100000 in
theorem impl_any (w : World) (v : Value) (people : List Int) (_i : ∀ x ∈ people, I64 x) (_b : people.length ≤ 1048576) (s : Sl w 1 v people.length (people.map vi)) (u : Value) (tasks : List Int) (_j : ∀ x ∈ tasks, I64 x) (_c : tasks.length ≤ 1048576) (s2 : Sl w 1 u tasks.length (tasks.map vi)) :
    Calls Try.prog 15 #[v, u] w (OutL 2 1 (M people tasks).1.length ((M people tasks).1.map vi) (fun z => .tuple #[z, .int .i64 (M people tasks).2.1, .bool (M people tasks).2.2]) w) := by
  have A1 := hd (fun w' (h : Below w.heap.size w w') => areSkills_any v people w' (s.below h))
  have A2 := hd (fun w' (h : Below w.heap.size w w') => areSkills_any u tasks w' (s2.below h))
  have S1 := hd s
  have S2 := hd s2
  obtain ⟨P1, c1, rfl, hc1, _⟩ := id s
  obtain ⟨P2, c2, rfl, hc2, _⟩ := id s2
  clear s s2 _i _j
  cases hok : okK people tasks with
  | false =>
    have H := hd (M_no hok)
    rw [H.out]
    unfold okK at hok
    generalize skB people = b1 at *
    generalize skB tasks = b2 at *
    generalize people.length = n1 at *
    generalize tasks.length = n2 at *
    cases b1 <;> cases b2
    all_goals first
      | (exfalso; simp at hok; done)
      | (clear hok
         go_enter Try.func15, Try.ntmps15
         go_wp2_with (first
           | (go_at_call_has 46 P1; refine (A1.out _ ?_).mono ?_; (go_grown); rintro e w' ⟨rfl, hw⟩; replace hw := hw.symm; subst hw)
           | (go_at_call_has 46 P2; refine (A2.out _ ?_).mono ?_; (go_grown); rintro e w' ⟨rfl, hw⟩; replace hw := hw.symm; subst hw))
         refine bodyPost_ret (by simp [results, Try.results15, go_sem] <;> rfl) rfl ⟨_, rfl, World.ownsRow_nil _ _ _ _, by go_grown⟩)
  | true =>
    have H := hd (M_yes hok)
    obtain ⟨⟨p1, p2⟩, ⟨r1, r2⟩⟩ := okK_parts hok
    have hab : skB people = true ∧ skB tasks = true := by simpa [okK] using hok
    rw [hab.1] at A1
    rw [hab.2] at A2
    obtain ⟨ofl, hof⟩ : ∃ ofl, ofl = ofK people tasks := ⟨_, rfl⟩
    have MK := hd (matM_ok (fitM tasks people) tasks.length people.length tasks.length (Nat.le_refl _))
    rw [show matM (fitM tasks people) people.length tasks.length = ofl from hof.symm] at MK
    rw [← hof] at H
    have hbW : Below w.heap.size w ((w.alloc (.cells #[.slice P1 people.length c1] 30)).alloc (.cells #[.slice P2 tasks.length c2] 30)) := by go_grown
    have k1 : ((w.alloc (.cells #[.slice P1 people.length c1] 30)).alloc (.cells #[.slice P2 tasks.length c2] 30)).cell? ⟨w.heap.size, 0, none⟩ = some (.slice P1 people.length c1) := by simp [go_sem]
    have k2 : ((w.alloc (.cells #[.slice P1 people.length c1] 30)).alloc (.cells #[.slice P2 tasks.length c2] 30)).cell? ⟨w.heap.size + 1, 0, none⟩ = some (.slice P2 tasks.length c2) := by simp [go_sem]
    have MQ := hd (match_MatchSkills (fitM tasks people) tasks.length people.length (w.heap.size + 1) w.heap.size _ p1 (by omega) (by omega) (hd (fun w' h i k hi hk => fit_any tasks people (w.heap.size + 1) w.heap.size _ _ w' (S2.out.below (below_tr h hbW)) (S1.out.below (below_tr h hbW)) r2 p2 (below_at h k2) (below_at h k1) i k hi hk)))
    rw [show matM (fitM tasks people) people.length tasks.length = ofl from hof.symm] at MQ
    have HBW := hd hbW
    have K2 := hd k2
    have OY := hd (fun k r h => outM_yes (of' := ofl) (rows := tasks.length) (k := k) (r := r) h)
    have ON := hd (fun k h => outM_no (of' := ofl) (rows := tasks.length) (k := k) h)
    have OL := hd (fun k => outM_len ofl tasks.length k)
    have OC := hd (fun k => outM_le ofl tasks.length k)
    have O0 := hd (show outM ofl tasks.length 0 = (List.replicate tasks.length (-1), 0) from rfl)
    have NN := hd (fun w' => none_any tasks.length r1 (by omega) w')
    rw [H.out]
    simp only
    rw [OL.out]
    clear hok hab hof hbW k1 k2 S1 S2 H
    generalize people.length = p at *
    generalize tasks.length = rows at *
    go_enter Try.func15, Try.ntmps15
    go_wp2_with (first
      | (go_at_call_has 46 P1; refine (A1.out _ ?_).mono ?_; (go_grown); rintro e w' ⟨rfl, hw⟩; replace hw := hw.symm; subst hw)
      | (go_at_call_has 46 P2; refine (A2.out _ ?_).mono ?_; (go_grown); rintro e w' ⟨rfl, hw⟩; replace hw := hw.symm; subst hw)
      | (go_at_call 47; refine MQ.out.mono ?_; rintro e w2 ⟨ofv, rfl, ho2, hb2⟩; have kk2 := below_at hb2 K2.out; have HB2 := hd (below_tr hb2 HBW.out); have HO2 := hd (own_mono ho2 HBW.out.size); obtain ⟨g1, d1, rfl, hg11, hg12⟩ := own_form ho2 p1; clear ho2 hb2)
      | (go_at_call 49; refine (NN.out _).mono ?_; rintro e w3 ⟨outv, rfl, ho3, hb3⟩; obtain ⟨g2, d2, rfl, hg21, hg22⟩ := own_form ho3 r1; have HP := hd (And.intro (own_below HO2.out hb3) (own_mono ho3 HB2.out.size)); have HB3 := hd (below_tr hb3 HB2.out); clear ho3 hb3))
    have hne : g1 ≠ g2 := by omega
    clear kk2 hg11
    go_loopw [9, 31] (fun ct ix wr => ∃ k : Nat, k ≤ p ∧ ix = .int .i64 k ∧ ct = .int .i64 ((outM ofl rows k).2 : Nat) ∧ Hid (wr.ownsRow w.heap.size 2 1 (.slice (some ⟨g1, 0, none⟩) p d1) p (ofl.map vi) ∧ wr.ownsRow w.heap.size 2 1 (.slice (some ⟨g2, 0, none⟩) rows d2) rows ((outM ofl rows k).1.map vi)) ∧ Hid (Below w.heap.size w wr)) (fun _ ix _ => p - (intOf ix).toNat)
    case atStart => exact ⟨0, by omega, rfl, by rw [O0.out]; rfl, hd (by rw [O0.out]; simpa [vi] using HP.out), HB3⟩
    case round =>
      clear HP HB3 HO2 HB2
      obtain ⟨k, hk, rfl, rfl, HP, HB⟩ := hrel
      by_cases hlt : k < p
      · have cq := own_int HP.out.1 hlt
        have hq := MK.out.2 k hlt
        have hle := OC.out k
        have Y := hd (fun r h => OY.out k r h)
        have N := hd (fun h => ON.out k h)
        generalize hv : ofl.getD k 0 = q at *
        clear hv
        have ho2 := HP.out.2
        have HG2 := hd (World.ownsRow.lt HP.out.2 g2 rfl)
        generalize hct : (outM ofl rows k).2 = ct at *
        have HC := hd hct
        clear hct
        by_cases h0 : 0 ≤ q
        · obtain ⟨r, rfl⟩ : ∃ r : Nat, q = r := ⟨q.toNat, by omega⟩
          have E := hd (Y.out r rfl)
          have wc : IntKind.i64.wrap ((ct : Int) + 1) = ((ct + 1 : Nat) : Int) := by rw [IntWalk.i64_in _ (by omega)]; push_cast; rfl
          have j1 : (r : Int) < (rows : Int) := by omega
          clear Y N hq
          go_wp2_with ((with_reducible refine wpList_store_own _ w.heap.size 2 1 rows d2 g2 _ ho2 size_int r (vi (k : Int)) ?_ ?_ ?_ ?_ ?_); exact rfl; exact rfl; exact rfl; omega; intro w6 ho6 hg6)
          go_roundw
          case rel =>
            refine ⟨k + 1, by omega, by go_num, by rw [E.out]; exact congrArg _ (by push_cast; rfl), hd ⟨own_kept (u := .slice (some ⟨g2, 0, none⟩) rows d2) HP.out.1 hg6 (dj_ne hne), ?_⟩, hd (belowB HB.out hg6 HG2.out.1 (Nat.le_refl _))⟩
            rw [E.out]
            show w6.ownsRow _ _ _ _ _ (((outM ofl rows k).1.set r (k : Int)).map vi)
            rw [List.map_set]; exact ho6
          case measure => simp [intOf]; omega
        · have E := hd (N.out (by omega))
          clear Y N hq
          go_wp2
          go_roundw
          case rel => exact ⟨k + 1, by omega, by go_num, by rw [E.out, HC.out], hd ⟨HP.out.1, by rw [E.out]; exact HP.out.2⟩, HB⟩
          case measure => simp [intOf]; omega
      · have e : k = p := by omega
        subst e
        go_wp2
        refine bodyPost_ret (by simp [results, Try.results15, go_sem] <;> rfl) rfl ⟨_, rfl, HP.out.2, HB.out⟩

set_option maxHeartbeats 4000000 in
set_option maxRecDepth 100000 in
theorem spec_any (w : World) (v : Value) (people : List Int) (_i : ∀ x ∈ people, I64 x) (_b : people.length ≤ 1048576) (s : Sl w 1 v people.length (people.map vi)) (u : Value) (tasks : List Int) (_j : ∀ x ∈ tasks, I64 x) (_c : tasks.length ≤ 1048576) (s2 : Sl w 1 u tasks.length (tasks.map vi)) :
    Calls Try.prog 13 #[v, u] w (OutL 2 1 (M people tasks).1.length ((M people tasks).1.map vi) (fun z => .tuple #[z, .int .i64 (M people tasks).2.1, .bool (M people tasks).2.2]) w) := by
  have A1 := hd (l06Skills_any v people w s)
  have A2 := hd (l06Skills_any u tasks w s2)
  obtain ⟨P1, c1, rfl, hc1, q1⟩ := id s
  obtain ⟨P2, c2, rfl, hc2, q2⟩ := id s2
  have Q1 := hd q1
  have Q2 := hd q2
  clear s s2 _i _j q1 q2
  cases hok : okK people tasks with
  | false =>
    have H := hd (M_no hok)
    rw [H.out]
    unfold okK at hok
    generalize skB people = b1 at *
    generalize skB tasks = b2 at *
    generalize people.length = n1 at *
    generalize tasks.length = n2 at *
    cases b1 <;> cases b2
    all_goals first
      | (exfalso; simp at hok; done)
      | (clear hok
         go_enter Try.func13, Try.ntmps13
         go_wp2_with (first
           | (go_at_call_has 44 P1; refine A1.out.mono ?_; rintro e w' ⟨rfl, hw⟩; replace hw := hw.symm; subst hw)
           | (go_at_call_has 44 P2; refine A2.out.mono ?_; rintro e w' ⟨rfl, hw⟩; replace hw := hw.symm; subst hw))
         refine bodyPost_ret (by simp [results, Try.results13, go_sem] <;> rfl) rfl ⟨_, rfl, World.ownsRow_nil _ _ _ _, Below.refl _ _⟩)
  | true =>
    have H := hd (M_yes hok)
    obtain ⟨⟨p1, p2⟩, ⟨r1, r2⟩⟩ := okK_parts hok
    have hab : skB people = true ∧ skB tasks = true := by simpa [okK] using hok
    rw [hab.1] at A1
    rw [hab.2] at A2
    obtain ⟨ofl, hof⟩ : ∃ ofl, ofl = ofK people tasks := ⟨_, rfl⟩
    have MK := hd (matM_ok (fitM tasks people) tasks.length people.length tasks.length (Nat.le_refl _))
    rw [show matM (fitM tasks people) people.length tasks.length = ofl from hof.symm] at MK
    rw [← hof] at H
    have MQ := hd (fun v' w' (hs : Sl w' 1 v' (tasks.length * people.length) ((tabF (fitM tasks people) people.length (tasks.length * people.length)).map vb)) => l06Match_any (fitM tasks people) tasks.length people.length p1 (by omega) r1 (by omega) v' _ w' hs (fun i k hi hk => tabF_at hi hk))
    rw [show matM (fitM tasks people) people.length tasks.length = ofl from hof.symm] at MQ
    have OY := hd (fun k r h => outM_yes (of' := ofl) (rows := tasks.length) (k := k) (r := r) h)
    have ON := hd (fun k h => outM_no (of' := ofl) (rows := tasks.length) (k := k) h)
    have OL := hd (fun k => outM_len ofl tasks.length k)
    have OC := hd (fun k => outM_le ofl tasks.length k)
    have O0 := hd (show outM ofl tasks.length 0 = (List.replicate tasks.length (-1), 0) from rfl)
    have TS := hd (fun i k hk => tabF_succ (f := fitM tasks people) (p := people.length) (i := i) (k := k) hk)
    have FT := hd (fun i k => (show fitM tasks people i k = anB (tasks.getD i 0) (people.getD k 0) from rfl))
    have HT0 := hd (show tabF (fitM tasks people) people.length 0 = [] from rfl)
    rw [H.out]
    simp only
    rw [OL.out]
    clear hok hab hof H
    generalize fitM tasks people = f at *
    generalize people.length = p at *
    generalize tasks.length = rows at *
    go_enter Try.func13, Try.ntmps13
    go_wp2_with (first
      | (go_at_call_has 44 P1; refine A1.out.mono ?_; rintro e w' ⟨rfl, hw⟩; replace hw := hw.symm; subst hw)
      | (go_at_call_has 44 P2; refine A2.out.mono ?_; rintro e w' ⟨rfl, hw⟩; replace hw := hw.symm; subst hw))
    have hstart := World.ownsRow_made (size := 1) w #[] 0 (Nat.le_refl _) (by unfold maxLen; omega) rfl (e := 4)
    go_loopw [7, 8] (fun tb ix wr => ∃ i : Nat, i ≤ rows ∧ ix = .int .i64 i ∧ (∃ g c, tb = .slice (some ⟨g, 0, none⟩) (i * p) c) ∧ Hid (wr.ownsRow w.heap.size 4 1 tb (i * p) ((tabF f p (i * p)).map vb)) ∧ Hid (Below w.heap.size w wr)) (fun _ i _ => rows - (intOf i).toNat)
    case atStart => exact ⟨0, by omega, rfl, ⟨_, _, by rw [Nat.zero_mul]⟩, hd (by simpa [HT0.out] using hstart), hd ((Below.refl _ _).alloc (Nat.le_refl _) _)⟩
    case round =>
      obtain ⟨i, hi, rfl, htb, Ho, Hb⟩ := hrel
      clear hstart
      by_cases hlt : i < rows
      · have j1 : (i : Int) < (rows : Int) := by omega
        go_wp2
        go_loopw [7, 9] (fun tb ix wr => ∃ k : Nat, k ≤ p ∧ ix = .int .i64 k ∧ (∃ g c, tb = .slice (some ⟨g, 0, none⟩) (i * p + k) c) ∧ Hid (wr.ownsRow w.heap.size 4 1 tb (i * p + k) ((tabF f p (i * p + k)).map vb)) ∧ Hid (Below w.heap.size w wr)) (fun _ i _ => p - (intOf i).toNat)
        case atStart => exact ⟨0, by omega, rfl, by simpa using htb, hd (by simpa using Ho.out), Hb⟩
        case round =>
          clear Ho Hb htb
          obtain ⟨k, hk, rfl, htb, Ho, Hb⟩ := hrel
          by_cases hkt : k < p
          · obtain ⟨g, c4, rfl⟩ := htb
            obtain ⟨b2, o2, rfl, x2⟩ := (Q2.out.below Hb.out).int hlt
            obtain ⟨b1, o1, rfl, x1⟩ := (Q1.out.below Hb.out).int hkt
            have F := hd (FT.out i k)
            have T := hd (TS.out i k hkt)
            have hmul : i * p ≤ 12 * 12 := Nat.mul_le_mul (by omega) p2
            generalize tasks.getD i 0 = a at *
            generalize people.getD k 0 = b at *
            have hg := hd (World.ownsRow.lt Ho.out g rfl)
            obtain ⟨_, _, hA2, y2⟩ := Q2.out.int hlt
            cases hA2
            obtain ⟨_, _, hA1, y1⟩ := Q1.out.int hkt
            cases hA1
            have h2l := hd (block_lt_of_cell y2)
            have h1l := hd (block_lt_of_cell y1)
            clear y1 y2
            obtain ⟨m, hm⟩ : ∃ m, m = i * p + k := ⟨_, rfl⟩
            rw [← hm] at Ho T
            rw [← hm]
            have hm2 : m ≤ 156 := by omega
            have HM := hd hm
            clear hm hmul
            have C1 := hd x1; have C2 := hd x2
            have HO := hd (fun (q : Nat) => (show (World.drew wr).ownsRow w.heap.size 4 1 (.slice (some ⟨g, 0, none⟩) m c4) m ((tabF f p m).map vb) from Ho.out))
            have HCN := hd (show ((World.drew wr).alloc (.cells #[.bool (bits BinOp.andNot IntKind.i64 a b == 0)] 4)).cell? ⟨wr.heap.size, 0, none⟩ = some (.bool (bits BinOp.andNot IntKind.i64 a b == 0)) from by
              have := cell_one_new (World.drew wr) (.bool (bits BinOp.andNot IntKind.i64 a b == 0)) 4 0 _ rfl
              simpa [Addr.add] using this)
            have j2 : (k : Int) < (p : Int) := by omega
            go_wp2
            go_region_held3 (fun w' => w'.cell? ⟨b1, o1 + k, none⟩ = some (.int .i64 b) ∧ w'.cell? ⟨b2, o2 + i, none⟩ = some (.int .i64 a))
              (first | go_keep | exact ⟨hkk.1, hkk.2⟩)
              (first | (refine step_app_bool rfl _ _ rfl w.heap.size g m c4 ((tabF f p m).map vb) rfl ((HO.out 0).alloc _) wr.heap.size (.bool (bits BinOp.andNot IntKind.i64 a b == 0)) rfl HCN.out rfl (by omega) (by have := Hb.out.size; simp; omega) ?_; intro v' w' k1 k2 k3; have hkk : w'.cell? ⟨b1, o1 + k, none⟩ = some (.int .i64 b) ∧ w'.cell? ⟨b2, o2 + i, none⟩ = some (.int .i64 a) := ⟨k2.cell (below_at ((Below.refl _ (World.drew wr)).alloc (Nat.le_refl _) _) C1.out) (by intro e; have := Option.some.inj e; have := hg.out; have := h1l.out; simp only at *; omega), k2.cell (below_at ((Below.refl _ (World.drew wr)).alloc (Nat.le_refl _) _) C2.out) (by intro e; have := Option.some.inj e; have := hg.out; have := h2l.out; simp only at *; omega)⟩))
            go_wp2
            go_roundw
            case rel =>
              refine ⟨k + 1, by omega, by go_num, ?_, hd ?_, hd (belowB ((show Below w.heap.size w (World.drew wr) from Hb.out.drew).alloc (show w.heap.size ≤ (World.drew wr).heap.size from Hb.out.size) _) k2 hg.out.1 (Nat.le_refl _))⟩
              · obtain ⟨g5, c5, e, _⟩ := own_form k1 (by omega)
                rw [← Nat.add_assoc, ← HM.out]
                exact ⟨g5, c5, e⟩
              · rw [← Nat.add_assoc, ← HM.out, T.out, List.map_append, F.out]
                exact k1
            case measure => simp [intOf]; omega
          · have e : k = p := by omega
            subst e
            go_wp2
            go_roundw
            case rel => exact ⟨i + 1, by omega, by go_num, by rw [Nat.succ_mul]; exact htb, by rw [Nat.succ_mul]; exact Ho, Hb⟩
            case measure => simp [intOf]; omega
      · have e : i = rows := by omega
        subst e
        obtain ⟨g, c4, rfl⟩ := htb
        have hmul : i * p ≤ 12 * 12 := Nat.mul_le_mul r2 p2
        have HSL := hd (own_sl Ho.out (by unfold maxLen; omega))
        obtain ⟨m, hm⟩ : ∃ m, m = i * p := ⟨_, rfl⟩
        rw [← hm] at HSL MQ
        rw [← hm]
        clear hm hmul hlt
        have FT2 := FT
        clear FT FT2 TS HT0
        go_wp2_with (first
          | (go_at_call 45; refine (MQ.out _ _ HSL.out).mono ?_; rintro e w2 ⟨ofv, rfl, ho2, hb2⟩; have HO2 := hd (own_mono ho2 Hb.out.size); obtain ⟨g1, d1, rfl, hg11, hg12⟩ := own_form ho2 p1; have HB2 := hd (below_tr hb2 Hb.out); clear ho2 hb2))
        have hst := World.ownsRow_made (size := 1) w2 #[] 0 (Nat.le_refl _) (by unfold maxLen; omega) rfl (e := 2)
        go_loopw [11, 12] (fun cu ix wr => ∃ k : Nat, k ≤ i ∧ ix = .int .i64 k ∧ Hid (wr.ownsRow w2.heap.size 2 1 cu k ((List.replicate k (-1 : Int)).map vi)) ∧ Hid (Below w2.heap.size w2 wr)) (fun _ ix _ => i - (intOf ix).toNat)
        case atStart => exact ⟨0, by omega, rfl, hd (by simpa using hst), hd ((Below.refl _ _).alloc (Nat.le_refl _) _)⟩
        case round =>
          clear hst
          obtain ⟨k, hk, rfl, Ho3, Hb3⟩ := hrel
          by_cases hkn : k < i
          · have j1 : (k : Int) < (i : Int) := by omega
            go_wp2_with (at_builtin; go_must (refine wpList_app_int _ _ _ rfl _ _ rfl w2.heap.size k _ _ rfl Ho3.out rfl _ rfl rfl (by omega) Hb3.out.size ?_); intro v' w3 ho3 hg3 hap)
            go_roundw
            case rel => exact ⟨k + 1, by omega, by go_num, hd (by rw [← repM_succ]; exact ho3), hd (below_row hg3 Hb3.out (own_row Ho3.out (Nat.le_refl _)))⟩
            case measure => simp [intOf]; omega
          · have e : i = k := by omega
            subst e
            obtain ⟨g2, d2, rfl, hg21, hg22⟩ := own_form Ho3.out r1
            have hne : g1 ≠ g2 := by omega
            have HP := hd (And.intro (own_below HO2.out Hb3.out) (own_mono Ho3.out HB2.out.size))
            have HB3 := hd (below_tr Hb3.out HB2.out)
            clear Ho3 Hb3 hk hkn
            go_wp2
            go_loopw [13, 14] (fun ct ix wr => ∃ k : Nat, k ≤ p ∧ ix = .int .i64 k ∧ ct = .int .i64 ((outM ofl i k).2 : Nat) ∧ Hid (wr.ownsRow w.heap.size 2 1 (.slice (some ⟨g1, 0, none⟩) p d1) p (ofl.map vi) ∧ wr.ownsRow w.heap.size 2 1 (.slice (some ⟨g2, 0, none⟩) i d2) i ((outM ofl i k).1.map vi)) ∧ Hid (Below w.heap.size w wr)) (fun _ ix _ => p - (intOf ix).toNat)
            case atStart => exact ⟨0, by omega, rfl, by rw [O0.out]; rfl, hd (by rw [O0.out]; exact HP.out), HB3⟩
            case round =>
              clear HP HB3 HO2 HB2
              obtain ⟨k, hk, rfl, rfl, HP, HB⟩ := hrel
              by_cases hlt : k < p
              · have cq := own_int HP.out.1 hlt
                have hq := MK.out.2 k hlt
                have hle := OC.out k
                have Y := hd (fun r h => OY.out k r h)
                have N := hd (fun h => ON.out k h)
                generalize hv : ofl.getD k 0 = q at *
                clear hv
                have ho2 := HP.out.2
                have HG2 := hd (World.ownsRow.lt HP.out.2 g2 rfl)
                generalize hct : (outM ofl i k).2 = ct at *
                have HC := hd hct
                clear hct
                have j0 : (k : Int) < (p : Int) := by omega
                by_cases h0 : 0 ≤ q
                · obtain ⟨r, rfl⟩ : ∃ r : Nat, q = r := ⟨q.toNat, by omega⟩
                  have E := hd (Y.out r rfl)
                  have wc : IntKind.i64.wrap ((ct : Int) + 1) = ((ct + 1 : Nat) : Int) := by rw [IntWalk.i64_in _ (by omega)]; push_cast; rfl
                  have j1 : (r : Int) < (i : Int) := by omega
                  clear Y N hq
                  go_wp2_with ((with_reducible refine wpList_store_own _ w.heap.size 2 1 i d2 g2 _ ho2 size_int r (vi (k : Int)) ?_ ?_ ?_ ?_ ?_); exact rfl; exact rfl; exact rfl; omega; intro w6 ho6 hg6)
                  go_roundw
                  case rel =>
                    refine ⟨k + 1, by omega, by go_num, by rw [E.out]; exact congrArg _ (by push_cast; rfl), hd ⟨own_kept (u := .slice (some ⟨g2, 0, none⟩) i d2) HP.out.1 hg6 (dj_ne hne), ?_⟩, hd (belowB HB.out hg6 HG2.out.1 (Nat.le_refl _))⟩
                    rw [E.out]
                    show w6.ownsRow _ _ _ _ _ (((outM ofl i k).1.set r (k : Int)).map vi)
                    rw [List.map_set]; exact ho6
                  case measure => simp [intOf]; omega
                · have E := hd (N.out (by omega))
                  clear Y N hq
                  go_wp2
                  go_roundw
                  case rel => exact ⟨k + 1, by omega, by go_num, by rw [E.out, HC.out], hd ⟨HP.out.1, by rw [E.out]; exact HP.out.2⟩, HB⟩
                  case measure => simp [intOf]; omega
              · have e : k = p := by omega
                subst e
                go_wp2
                refine bodyPost_ret (by simp [results, Try.results13, go_sem] <;> rfl) rfl ⟨_, rfl, HP.out.2, HB.out⟩

set_option maxHeartbeats 2000000 in
set_option maxRecDepth 100000 in
theorem walk (w : World) (v0 : Value) (x0 : List Int) (i0 : ∀ x ∈ x0, I64 x) (s0 : Sl w 1 v0 x0.length (x0.map vi)) (v1 : Value) (x1 : List Int) (i1 : ∀ x ∈ x1, I64 x) (s1 : Sl w 1 v1 x1.length (x1.map vi)) :
    Calls Try.prog 4 #[v0, v1] w fun e w' => e = .returned (.bool true) ∧ Below w.heap.size w w' := by
  obtain ⟨A0, cap0, hw0, _, hr0⟩ := id s0
  have hv0 := hd hw0; clear hw0
  obtain ⟨A1, cap1, hw1, _, hr1⟩ := id s1
  have hv1 := hd hw1; clear hw1
  have hm0 := hr0.2.1
  have hm1 := hr1.2.1
  by_cases b0 : x0.length ≤ 1048576
  rotate_left
  · have e0 := hv0.out; subst e0
    unfold maxLen at hm0
    have hx' : ¬ ((x0.length : Int) ≤ 1048576) := by omega
    go_enter Try.func4, Try.ntmps4
    go_wp2
    go_ret
    exact ⟨rfl, Below.refl _ _⟩
  by_cases b1 : x1.length ≤ 1048576
  rotate_left
  · have e1 := hv1.out; subst e1
    have e0 := hv0.out; subst e0
    unfold maxLen at hm1
    have hx' : ¬ ((x1.length : Int) ≤ 1048576) := by omega
    have hx0 : (x0.length : Int) ≤ 1048576 := by omega
    go_enter Try.func4, Try.ntmps4
    go_wp2
    go_ret
    exact ⟨rfl, Below.refl _ _⟩
  have hx0 : (x0.length : Int) ≤ 1048576 := by omega
  have hx1 : (x1.length : Int) ≤ 1048576 := by omega
  have z0 := size_le b0
  have z1 := size_le b1
  have bg := len_ok x0 i0 b0 x1 i1 b1
  have zg := size_le bg
  have hB := Below.refl w.heap.size w
  clear hr0 hm0
  clear hr1 hm1
  have e0 := hv0.out; subst e0; clear hv0
  have e1 := hv1.out; subst e1; clear hv1
  go_enter Try.func4, Try.ntmps4
  go_wp2_with fail
  refine (toInt64S_any _ x0 _ (s0.below hB) b0).mono ?_; rintro e w1 ⟨s0_, rfl, ho_s0_, hb⟩
  replace ho_s0_ := own_mono ho_s0_ hB.size
  replace hB := below_tr hb hB
  clear hb
  go_wp2_with fail
  refine (toInt64S_any _ x1 _ (s1.below hB) b1).mono ?_; rintro e w2 ⟨s1_, rfl, ho_s1_, hb⟩
  have d_s0__s1_ := dj_new ho_s0_ ho_s1_
  replace ho_s0_ := own_below ho_s0_ hb
  replace ho_s1_ := own_mono ho_s1_ hB.size
  replace hB := below_tr hb hB
  clear hb
  go_wp2_with fail
  refine (spec_any _ _ x0 i0 b0 (own_sl ho_s0_ z0) _ x1 i1 b1 (own_sl ho_s1_ z1)).mono ?_; rintro e w3 ⟨w0, rfl, ho_w0, hb⟩
  have d_s0__w0 := dj_new ho_s0_ ho_w0
  have d_s1__w0 := dj_new ho_s1_ ho_w0
  replace ho_s0_ := own_below ho_s0_ hb
  replace ho_s1_ := own_below ho_s1_ hb
  replace ho_w0 := own_mono ho_w0 hB.size
  replace hB := below_tr hb hB
  clear hb
  clear ho_s0_ d_s0__s1_ d_s0__w0
  clear ho_s1_ d_s1__w0
  go_wp2_with fail
  refine (toInt64S_any _ x0 _ (s0.below hB) b0).mono ?_; rintro e w4 ⟨x0_, rfl, ho_x0_, hb⟩
  have d_w0_x0_ := dj_new ho_w0 ho_x0_
  replace ho_w0 := own_below ho_w0 hb
  replace ho_x0_ := own_mono ho_x0_ hB.size
  replace hB := below_tr hb hB
  clear hb
  go_wp2_with fail
  refine (toInt64S_any _ x1 _ (s1.below hB) b1).mono ?_; rintro e w5 ⟨x1_, rfl, ho_x1_, hb⟩
  have d_w0_x1_ := dj_new ho_w0 ho_x1_
  have d_x0__x1_ := dj_new ho_x0_ ho_x1_
  replace ho_w0 := own_below ho_w0 hb
  replace ho_x0_ := own_below ho_x0_ hb
  replace ho_x1_ := own_mono ho_x1_ hB.size
  replace hB := below_tr hb hB
  clear hb
  go_wp2_with fail
  refine (impl_any _ _ x0 i0 b0 (own_sl ho_x0_ z0) _ x1 i1 b1 (own_sl ho_x1_ z1)).mono ?_; rintro e w6 ⟨g0, rfl, ho_g0, hb⟩
  have d_w0_g0 := dj_new ho_w0 ho_g0
  have d_x0__g0 := dj_new ho_x0_ ho_g0
  have d_x1__g0 := dj_new ho_x1_ ho_g0
  replace ho_w0 := own_below ho_w0 hb
  replace ho_x0_ := own_below ho_x0_ hb
  replace ho_x1_ := own_below ho_x1_ hb
  replace ho_g0 := own_mono ho_g0 hB.size
  replace hB := below_tr hb hB
  clear hb
  go_wp2_with fail
  refine (eqInt64S_b _ _ _ _ _ (own_sl ho_g0 zg) (own_sl ho_w0 zg)).mono ?_; rintro e w7 ⟨rfl, hb⟩
  replace ho_w0 := own_below ho_w0 hb
  replace ho_x0_ := own_below ho_x0_ hb
  replace ho_x1_ := own_below ho_x1_ hb
  replace ho_g0 := own_below ho_g0 hb
  replace hB := below_tr hb hB
  clear hb
  go_wp2_with fail
  refine (toInt64S_any _ x0 _ (s0.below hB) b0).mono ?_; rintro e w8 ⟨c0_, rfl, ho_c0_, hb⟩
  have d_w0_c0_ := dj_new ho_w0 ho_c0_
  have d_x0__c0_ := dj_new ho_x0_ ho_c0_
  have d_x1__c0_ := dj_new ho_x1_ ho_c0_
  have d_g0_c0_ := dj_new ho_g0 ho_c0_
  replace ho_w0 := own_below ho_w0 hb
  replace ho_x0_ := own_below ho_x0_ hb
  replace ho_x1_ := own_below ho_x1_ hb
  replace ho_g0 := own_below ho_g0 hb
  replace ho_c0_ := own_mono ho_c0_ hB.size
  replace hB := below_tr hb hB
  clear hb
  go_wp2_with fail
  refine (eqInt64S_b _ _ x0 x0 _ (own_sl ho_x0_ z0) (own_sl ho_c0_ z0)).mono ?_; rintro e w9 ⟨rfl, hb⟩
  replace ho_w0 := own_below ho_w0 hb
  replace ho_x0_ := own_below ho_x0_ hb
  replace ho_x1_ := own_below ho_x1_ hb
  replace ho_g0 := own_below ho_g0 hb
  replace ho_c0_ := own_below ho_c0_ hb
  replace hB := below_tr hb hB
  clear hb
  clear ho_c0_ d_w0_c0_ d_x0__c0_ d_x1__c0_ d_g0_c0_
  go_wp2_with fail
  refine (toInt64S_any _ x1 _ (s1.below hB) b1).mono ?_; rintro e w10 ⟨c1_, rfl, ho_c1_, hb⟩
  have d_w0_c1_ := dj_new ho_w0 ho_c1_
  have d_x0__c1_ := dj_new ho_x0_ ho_c1_
  have d_x1__c1_ := dj_new ho_x1_ ho_c1_
  have d_g0_c1_ := dj_new ho_g0 ho_c1_
  replace ho_w0 := own_below ho_w0 hb
  replace ho_x0_ := own_below ho_x0_ hb
  replace ho_x1_ := own_below ho_x1_ hb
  replace ho_g0 := own_below ho_g0 hb
  replace ho_c1_ := own_mono ho_c1_ hB.size
  replace hB := below_tr hb hB
  clear hb
  go_wp2_with fail
  refine (eqInt64S_b _ _ x1 x1 _ (own_sl ho_x1_ z1) (own_sl ho_c1_ z1)).mono ?_; rintro e w11 ⟨rfl, hb⟩
  replace ho_w0 := own_below ho_w0 hb
  replace ho_x0_ := own_below ho_x0_ hb
  replace ho_x1_ := own_below ho_x1_ hb
  replace ho_g0 := own_below ho_g0 hb
  replace ho_c1_ := own_below ho_c1_ hb
  replace hB := below_tr hb hB
  clear hb
  clear ho_c1_ d_w0_c1_ d_x0__c1_ d_x1__c1_ d_g0_c1_
  go_wp2_with fail
  have hrow := own_row ho_x0_ (Nat.le_refl _)
  refine (markInt64S_any _ _ _ _ (1) _ ho_x0_ b0 (by omega) (by omega)).mono ?_; rintro e w12 ⟨rfl, ho', hg⟩
  replace ho_w0 := own_kept ho_w0 hg d_w0_x0_
  replace ho_x1_ := own_kept ho_x1_ hg (dj_symm d_x0__x1_)
  replace ho_g0 := own_kept ho_g0 hg (dj_symm d_x0__g0)
  replace ho_x0_ := ho'
  replace hB := below_row hg hB hrow
  clear hg hrow ho'
  go_wp2_with fail
  have hrow := own_row ho_x1_ (Nat.le_refl _)
  refine (markInt64S_any _ _ _ _ (1 + (x0.length : Int)) _ ho_x1_ b1 (by omega) (by omega)).mono ?_; rintro e w13 ⟨rfl, ho', hg⟩
  replace ho_w0 := own_kept ho_w0 hg d_w0_x1_
  replace ho_x0_ := own_kept ho_x0_ hg d_x0__x1_
  replace ho_g0 := own_kept ho_g0 hg (dj_symm d_x1__g0)
  replace ho_x1_ := ho'
  replace hB := below_row hg hB hrow
  clear hg hrow ho'
  clear ho_x0_ d_w0_x0_ d_x0__x1_ d_x0__g0
  clear ho_x1_ d_w0_x1_ d_x1__g0
  go_wp2_with fail
  refine (eqInt64S_b _ _ _ _ _ (own_sl ho_g0 zg) (own_sl ho_w0 zg)).mono ?_; rintro e w14 ⟨rfl, hb⟩
  replace ho_w0 := own_below ho_w0 hb
  replace ho_g0 := own_below ho_g0 hb
  replace hB := below_tr hb hB
  clear hb
  go_wp2_with fail
  have hrow := own_row ho_g0 (Nat.le_refl _)
  refine (markInt64S_any _ _ _ _ 1 _ ho_g0 bg (by omega) (by omega)).mono ?_; rintro e w15 ⟨rfl, ho', hg⟩
  replace ho_w0 := own_kept ho_w0 hg d_w0_g0
  replace ho_g0 := ho'
  replace hB := below_row hg hB hrow
  clear hg hrow ho'
  go_wp2_with fail
  refine (heldInt64S_b _ _ 1 _ (own_sl ho_g0 zg) bg (by omega) (by omega)).mono ?_; rintro e w16 ⟨rfl, hb⟩
  replace ho_w0 := own_below ho_w0 hb
  replace ho_g0 := own_below ho_g0 hb
  replace hB := below_tr hb hB
  clear hb
  go_wp2_with fail
  refine (toInt64S_any _ x0 _ (s0.below hB) b0).mono ?_; rintro e w17 ⟨t0_, rfl, ho_t0_, hb⟩
  have d_w0_t0_ := dj_new ho_w0 ho_t0_
  have d_g0_t0_ := dj_new ho_g0 ho_t0_
  replace ho_w0 := own_below ho_w0 hb
  replace ho_g0 := own_below ho_g0 hb
  replace ho_t0_ := own_mono ho_t0_ hB.size
  replace hB := below_tr hb hB
  clear hb
  go_wp2_with fail
  refine (toInt64S_any _ x1 _ (s1.below hB) b1).mono ?_; rintro e w18 ⟨t1_, rfl, ho_t1_, hb⟩
  have d_w0_t1_ := dj_new ho_w0 ho_t1_
  have d_g0_t1_ := dj_new ho_g0 ho_t1_
  have d_t0__t1_ := dj_new ho_t0_ ho_t1_
  replace ho_w0 := own_below ho_w0 hb
  replace ho_g0 := own_below ho_g0 hb
  replace ho_t0_ := own_below ho_t0_ hb
  replace ho_t1_ := own_mono ho_t1_ hB.size
  replace hB := below_tr hb hB
  clear hb
  go_wp2_with fail
  refine (impl_any _ _ x0 i0 b0 (own_sl ho_t0_ z0) _ x1 i1 b1 (own_sl ho_t1_ z1)).mono ?_; rintro e w19 ⟨h0, rfl, ho_h0, hb⟩
  have d_w0_h0 := dj_new ho_w0 ho_h0
  have d_g0_h0 := dj_new ho_g0 ho_h0
  have d_t0__h0 := dj_new ho_t0_ ho_h0
  have d_t1__h0 := dj_new ho_t1_ ho_h0
  replace ho_w0 := own_below ho_w0 hb
  replace ho_g0 := own_below ho_g0 hb
  replace ho_t0_ := own_below ho_t0_ hb
  replace ho_t1_ := own_below ho_t1_ hb
  replace ho_h0 := own_mono ho_h0 hB.size
  replace hB := below_tr hb hB
  clear hb
  go_wp2_with fail
  refine (eqInt64S_b _ _ _ _ _ (own_sl ho_h0 zg) (own_sl ho_w0 zg)).mono ?_; rintro e w20 ⟨rfl, hb⟩
  replace ho_w0 := own_below ho_w0 hb
  replace ho_g0 := own_below ho_g0 hb
  replace ho_t0_ := own_below ho_t0_ hb
  replace ho_t1_ := own_below ho_t1_ hb
  replace ho_h0 := own_below ho_h0 hb
  replace hB := below_tr hb hB
  clear hb
  go_wp2_with fail
  refine (heldInt64S_b _ _ 1 _ (own_sl ho_g0 zg) bg (by omega) (by omega)).mono ?_; rintro e w21 ⟨rfl, hb⟩
  replace ho_w0 := own_below ho_w0 hb
  replace ho_g0 := own_below ho_g0 hb
  replace ho_t0_ := own_below ho_t0_ hb
  replace ho_t1_ := own_below ho_t1_ hb
  replace ho_h0 := own_below ho_h0 hb
  replace hB := below_tr hb hB
  clear hb
  go_wp2_with fail
  go_ret
  exact ⟨rfl, hB⟩

theorem own : ownKnob Try.prog.godebug = none := by kernel_rfl
theorem laidOut : laidOutB Try.prog = true := by kernel_rfl

set_option maxRecDepth 100000 in
theorem lifted (os : Os) (started : os.Started) (H : Type) (enc : TypeId × Value → H) :
    ReturnsInHanded {} Try.checked os 4 .any (Rows.fnExactMatchSkillsSpec.pre6 enc Try.prog Try.f4 Rows.fnExactMatchSkillsRow.domain false) (Rows.fnExactMatchSkillsSpec.post enc Try.prog Try.f4 false true false false) := by
  refine returnsInHanded_of_change (C := Try.checked) own started (by as_aux_lemma => kernel_rfl) Try.func4
    (ChangeSpec.witness6 (enc := enc) (C := Try.checked) false ⟨#[], #[.slice none 0 0, .slice none 0 0], []⟩ 8 (by as_aux_lemma => kernel_rfl) (by as_aux_lemma => kernel_rfl) (by as_aux_lemma => kernel_rfl) (by as_aux_lemma => kernel_rfl)) ?_
  intro W base args ds gs before hval0 hW hcnd _
  have hval : ∀ (j : Nat) t v, Try.f4.params[j]? = some t → args[j]? = some v → Value.okWide Try.prog W .any base t v := hval0
  have hW' := hW
  obtain ⟨p, q, hA0, hV, rfl, hfz, hnd⟩ := hW
  have hA : DataW.TrodAll enc Try.prog W 0 (fun _ => true) true Try.f4.params.toList args.toList ds p := hA0
  rw [Try.params4] at hA hval
  obtain ⟨v0, vs0, d0, ds0, p0, q0, hargs, rfl, rfl, h0, r0⟩ := trodAll_cons hA
  obtain ⟨v1, vs1, d1, ds1, p1, q1, rfl, rfl, rfl, h1, r1⟩ := trodAll_cons r0
  obtain ⟨rfl, rfl, rfl⟩ := trodAll_nil r1
  obtain rfl : args = #[v0, v1] := by cases args; simp_all
  obtain ⟨rfl, rfl⟩ := trodVars_none hV
  have k0 := h0
  have lt0 : ∀ x ∈ p0, x.block < W.heap.size := by obtain ⟨m, hm⟩ := k0; exact DataW.trod_lt m _ _ _ hm
  obtain ⟨s0, len0, cap0, rfl⟩ := okWide_slice Try.underlying30 (hval 0 30 v0 rfl rfl)
  obtain ⟨x0, _, i0, w0⟩ := arg_ints Try.underlying30 Try.underlying2 (by as_aux_lemma => kernel_rfl) h0
  have k1 := h1
  have lt1 : ∀ x ∈ p1, x.block < W.heap.size := by obtain ⟨m, hm⟩ := k1; exact DataW.trod_lt m _ _ _ hm
  obtain ⟨s1, len1, cap1, rfl⟩ := okWide_slice Try.underlying30 (hval 1 30 v1 rfl rfl)
  obtain ⟨x1, _, i1, w1⟩ := arg_ints Try.underlying30 Try.underlying2 (by as_aux_lemma => kernel_rfl) h1
  clear hA0 hval0
  refine (walk W _ x0 i0 w0 _ x1 i1 w1).mono fun e W' ⟨he, bel⟩ => ?_
  subst he
  exact ⟨_, rfl, _, _, _, [], _, [], hW', trodAll_mk1 (shut_bool Try.underlying4 _), (trodAll_cons_mk (Below.trod laidOut (by as_aux_lemma => kernel_rfl) (of_decide_eq_true (by as_aux_lemma => kernel_rfl)) k0 bel lt0) (trodAll_cons_mk (Below.trod laidOut (by as_aux_lemma => kernel_rfl) (of_decide_eq_true (by as_aux_lemma => kernel_rfl)) k1 bel lt1) (trodAll_mk0))), rfl, bel.frame _, fun h => by cases h⟩

/-- The given statement. -/
theorem proved : Rows.FnExactMatchSkillsSaid :=
  OpenClaim.holds_of_wide 4 Try.f4 rfl rfl rfl rfl rfl rfl rfl ⟨rfl, rfl, rfl, rfl, rfl⟩ rfl rfl rfl rfl rfl (by kernel_rfl) Try.func4 (by kernel_rfl)
    (of_decide_eq_true (by kernel_rfl)) (by unfold Func.isWrapper; first | (rw [if_pos (by decide +kernel)]; kernel_rfl) | (rw [if_neg (by decide +kernel)]; exact ⟨rfl, rfl⟩))
    (fun os started H enc _ => lifted os started H enc)
#print axioms proved

end Go.Proofs.Ythgijjdkhffhcaa.lFnExactMatchSkills
