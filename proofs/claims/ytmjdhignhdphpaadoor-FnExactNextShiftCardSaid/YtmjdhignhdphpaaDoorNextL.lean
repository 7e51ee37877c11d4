/- Which shift comes next: the first greater one of all, or the first one behind the last free slot that may be worked. No program stands here. -/
import Derived.Test.YtmjdhignhdphpaaDoorNextT
import Derived.Test.YtmjdhignhdphpaaDoorProg
import Derived.Lib.Strings
namespace Go.Proofs.YtmjdhignhdphpaaDoor.Plain

abbrev bl (a b : List UInt8) : Bool := Go.Op.bytesLess a b
theorem bl_pre (p a b : List UInt8) : bl (p ++ a) (p ++ b) = bl a b := by
  induction p with
  | nil => rfl
  | cons x p ih =>
    show (x < x || (x == x && bl (p ++ a) (p ++ b))) = _
    rw [ih]
    simp [UInt8.lt_irrefl]
theorem bl_ext {a b : List UInt8} (h : a.length = b.length) (hl : bl a b = true) (u v : List UInt8) : bl (a ++ u) (b ++ v) = true := by
  induction a generalizing b with
  | nil =>
    cases b with
    | nil => cases hl
    | cons y b => simp at h
  | cons x a ih =>
    cases b with
    | nil => simp at h
    | cons y b =>
      change (x < y || (x == y && bl a b)) = true at hl
      show (x < y || (x == y && bl (a ++ u) (b ++ v))) = true
      simp only [Bool.or_eq_true, Bool.and_eq_true] at hl ⊢
      rcases hl with h1 | ⟨h1, h2⟩
      · exact .inl h1
      · exact .inr ⟨h1, ih (by simpa using h) h2⟩
theorem bl_fw (a b : List UInt8) : bl (46 :: a) (119 :: b) = true := by show ((46 : UInt8) < 119 || _) = true; rfl
theorem bl_wf (a b : List UInt8) : bl (119 :: a) (46 :: b) = false := by show (decide ((119 : UInt8) < 46) || ((119 : UInt8) == 46 && _)) = false; rfl
/-- is the text x behind the text t? -/
def gtB (t x : ByteArray) : Bool := !(bl x.toList t.toList || x.toList == t.toList)
theorem gt_data (t x : ByteArray) : gtB t x = !(bl x.data.toList t.data.toList || x.data.toList == t.data.toList) := by rw [gtB, Go.Lib.toList_data, Go.Lib.toList_data]
theorem listS_pre (L : ShiftLim) (m : Nat) : ∀ (s : ShiftPt) (q x : ByteArray), x ∈ listS L m s q → ∃ u, x.data.toList = q.data.toList ++ u := by
  induction m with
  | zero =>
    intro s q x h
    rw [listS] at h
    split at h
    · have := List.mem_singleton.1 h; subst this; exact ⟨[], by simp⟩
    · cases h
  | succ m ih =>
    intro s q x h
    rw [listS, List.mem_append] at h
    rcases h with h | h
    · obtain ⟨u, hu⟩ := ih _ _ _ h
      exact ⟨46 :: u, by rw [hu]; simp [ByteArray.data_append]⟩
    · split at h
      · obtain ⟨u, hu⟩ := ih _ _ _ h
        exact ⟨119 :: u, by rw [hu]; simp [ByteArray.data_append]⟩
      · cases h
/-- all that begin with a lesser text are lesser -/
theorem cut_less {L : ShiftLim} {m : Nat} {s : ShiftPt} {q t : ByteArray} (hq : q.size ≤ t.size) (h : bl q.toList (t.extract 0 q.size).toList = true) : (listS L m s q).filter (gtB t) = [] := by
  rw [List.filter_eq_nil_iff]
  intro x hx
  obtain ⟨u, hu⟩ := listS_pre L m s q x hx
  rw [Go.Lib.toList_data, Go.Lib.toList_data] at h
  have e : (t.extract 0 q.size).data.toList = t.data.toList.take q.size := by
    rw [ByteArray.data_extract, Array.toList_extract, List.extract]; simp
  have hs : q.size = q.data.toList.length := by simp
  rw [e] at h
  have := bl_ext (by rw [List.length_take]; simp; omega) h u (t.data.toList.drop q.size)
  rw [List.take_append_drop, ← hu] at this
  rw [gt_data, this]
  simp
/-- the head of what begins with a free slot worked -/
def preB (t : ByteArray) (k : Nat) : ByteArray := t.extract 0 k
def nextAt (L : ShiftLim) (t : ByteArray) (k : Nat) : Option ByteArray :=
  if cod t k = 119 then none else match runS L t k with
  | none => none
  | some s => if s.may L then (listS L (t.size - (k + 1)) s.on (preB t k ++ ⟨#[119]⟩)).head? else none
/-- the first j slots from the end on are tried -/
def nfT (L : ShiftLim) (t : ByteArray) : Nat → Option ByteArray
  | 0 => none
  | j + 1 => match nfT L t j with
    | some x => some x
    | none => nextAt L t (t.size - (j + 1))
theorem pre_data {t : ByteArray} {k : Nat} (hk : k ≤ t.size) : (preB t k).data.toList = t.data.toList.take k := by
  rw [preB, ByteArray.data_extract, Array.toList_extract, List.extract]; simp
theorem pre_size {t : ByteArray} {k : Nat} (hk : k ≤ t.size) : (preB t k).size = k := by
  have h := congrArg List.length (pre_data hk)
  rw [List.length_take] at h
  have e1 : (preB t k).size = (preB t k).data.toList.length := by simp
  have e2 : t.size = t.data.toList.length := by simp
  omega
theorem pre_succ {t : ByteArray} {k : Nat} {c : UInt8} (hk : k < t.size) (hc : t.data.toList[k]? = some c) : preB t (k + 1) = preB t k ++ ⟨#[c]⟩ := by
  apply ByteArray.ext
  apply Array.ext'
  rw [pre_data (by omega), ByteArray.data_append, Array.toList_append, pre_data (by omega), List.take_add_one, hc]
  rfl
theorem pre_split {t : ByteArray} {k : Nat} {c : UInt8} (hk : k < t.size) (hc : t.data.toList[k]? = some c) : t.data.toList = (preB t k).data.toList ++ c :: t.data.toList.drop (k + 1) := by
  rw [pre_data (by omega)]
  have hl : k < t.data.toList.length := by simpa using hk
  have e : t.data.toList[k] = c := by rw [List.getElem?_eq_getElem hl] at hc; exact Option.some.inj hc
  rw [← e, ← List.drop_eq_getElem_cons hl, List.take_append_drop]
theorem pre_all (t : ByteArray) : preB t t.size = t := by
  apply ByteArray.ext
  apply Array.ext'
  rw [pre_data (Nat.le_refl _), List.take_of_length_le (by simp)]
theorem cod_c {t : ByteArray} {k : Nat} (hk : k < t.size) : ∃ c : UInt8, t.data.toList[k]? = some c ∧ cod t k = (c.toNat : Int) := by
  have hl : k < t.data.toList.length := by simpa using hk
  exact ⟨t.data.toList[k], List.getElem?_eq_getElem hl, by rw [cod, List.getD_eq_getElem?_getD, List.getElem?_eq_getElem hl]; rfl⟩
/-- both ways come to the same -/
theorem next_same {L : ShiftLim} {t : ByteArray} (hlet : ∀ k, k < t.size → cod t k = 119 ∨ cod t k = 46) (j : Nat) : ∀ k s, k + j = t.size → runS L t k = some s → (∃ z, runS L t t.size = some z) →
    ((listS L j s (preB t k)).filter (gtB t)).head? = nfT L t j := by
  induction j with
  | zero =>
    intro k s hk hs _
    have : k = t.size := by omega
    subst this
    rw [pre_all, listS]
    split
    · have : gtB t t = false := by rw [gtB]; simp
      rw [List.filter_cons, this]
      rfl
    · rfl
  | succ j ih =>
    intro k s hk hs hz
    have hkt : k < t.size := by omega
    obtain ⟨c, hc, hcc⟩ := cod_c hkt
    have hrs := run_succ hs
    obtain ⟨z, hzz⟩ := hz
    have hsome : ∃ s', runS L t (k + 1) = some s' := by
      cases h : runS L t (k + 1) with
      | none => rw [run_none h t.size (by omega)] at hzz; cases hzz
      | some s' => exact ⟨s', rfl⟩
    obtain ⟨s', hs'⟩ := hsome
    have hps := pre_succ hkt hc
    have hsp := pre_split hkt hc
    have e1 : t.size - (j + 1) = k := by omega
    have e2 : t.size - (k + 1) = j := by omega
    rw [nfT, e1, listS, List.filter_append, List.head?_append]
    rcases hlet k hkt with h | h
    · -- the slot is worked
      have hc9 : c = 119 := UInt8.toNat_inj.1 (by have : c.toNat = 119 := by omega
                                                  rw [this]; rfl)
      subst hc9
      rw [hcc] at hrs
      change runS L t (k + 1) = stepS L s 119 at hrs
      have hm : s.may L = true := by
        cases hm : s.may L with
        | true => rfl
        | false => rw [step_no hm, hs'] at hrs; cases hrs
      rw [step_w hm] at hrs
      have h1 : (listS L j (s.off L) (preB t k ++ ⟨#[46]⟩)).filter (gtB t) = [] := by
        rw [List.filter_eq_nil_iff]
        intro x hx
        obtain ⟨u, hu⟩ := listS_pre L j _ _ x hx
        rw [gt_data, hu, hsp, ByteArray.data_append, Array.toList_append, List.append_assoc, bl_pre]
        show ¬ (!(bl (46 :: u) (119 :: t.data.toList.drop (k + 1)) || _)) = true
        rw [bl_fw]
        simp
      rw [h1, hm, if_pos rfl, ← hps, ih (k + 1) s.on (by omega) hrs ⟨z, hzz⟩]
      have h2 : nextAt L t k = none := by rw [nextAt, if_pos h]
      rw [h2]
      cases nfT L t j <;> rfl
    · have hc9 : c = 46 := UInt8.toNat_inj.1 (by have : c.toNat = 46 := by omega
                                                 rw [this]; rfl)
      subst hc9
      rw [hcc] at hrs
      rw [step_f (by decide)] at hrs
      rw [← hps, ih (k + 1) (s.off L) (by omega) hrs ⟨z, hzz⟩]
      have h1 : (if s.may L then listS L j s.on (preB t k ++ ⟨#[119]⟩) else []).filter (gtB t) = if s.may L then listS L j s.on (preB t k ++ ⟨#[119]⟩) else [] := by
        split
        · rw [List.filter_eq_self]
          intro x hx
          obtain ⟨u, hu⟩ := listS_pre L j _ _ x hx
          have hd : x.data.toList = (preB t k).data.toList ++ 119 :: u := by rw [hu]; simp [ByteArray.data_append]
          rw [gt_data, hd, hsp, bl_pre, bl_wf]
          have hne : ((preB t k).data.toList ++ 119 :: u == (preB t k).data.toList ++ 46 :: t.data.toList.drop (k + 1)) = false := by
            rw [beq_eq_false_iff_ne]
            intro e
            have := List.append_cancel_left e
            cases this
          rw [hne]
          rfl
        · rfl
      rw [h1]
      have h2 : nextAt L t k = (if s.may L then listS L j s.on (preB t k ++ ⟨#[119]⟩) else []).head? := by
        rw [nextAt, if_neg (by omega), hs]
        dsimp only
        rw [e2]
        split <;> rfl
      rw [h2]
      cases nfT L t j <;> rfl
theorem nf_some {L : ShiftLim} {t x : ByteArray} {j : Nat} (h : nfT L t j = some x) (n : Nat) (hn : j ≤ n) : nfT L t n = some x := by
  induction n with
  | zero => have : j = 0 := by omega
            subst this; exact h
  | succ n ih =>
    by_cases e : j = n + 1
    · subst e; exact h
    · rw [nfT, ih (by omega)]
theorem nf_step {L : ShiftLim} {t : ByteArray} {j : Nat} (h : nfT L t j = none) : nfT L t (j + 1) = nextAt L t (t.size - (j + 1)) := by rw [nfT, h]
end Go.Proofs.YtmjdhignhdphpaaDoor.Plain
