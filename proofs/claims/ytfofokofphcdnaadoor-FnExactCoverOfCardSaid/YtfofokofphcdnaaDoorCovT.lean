/- How many work in each slot, in plain lists. No program stands here. -/
import Derived.Test.YtfofokofphcdnaaDoorNextT
namespace Go.Proofs.YtfofokofphcdnaaDoor.Plain
/-- what text i adds to slot s -/
def addT (ts : List ByteArray) (cs : List Int) (s i : Nat) : Int := if cod (ts.getD i ⟨#[]⟩) s = 119 then cs.getD i 0 else 0
/-- what the first texts make of slot s -/
def covC (ts : List ByteArray) (cs : List Int) (s : Nat) : Nat → Int
  | 0 => 0
  | i + 1 => covC ts cs s i + addT ts cs s i
/-- behind i texts and k slots of the next one -/
def covF (ts : List ByteArray) (cs : List Int) (i k s : Nat) : Int := covC ts cs s (if s < k then i + 1 else i)
theorem covF_zero (ts : List ByteArray) (cs : List Int) : covF ts cs 0 0 = fun _ => 0 := by
  funext s
  simp [covF, covC]
theorem covF_full (ts : List ByteArray) (cs : List Int) (n i : Nat) : lst (covF ts cs i n) n = lst (covF ts cs (i + 1) 0) n :=
  lst_congr fun j hj => by simp [covF, hj]
theorem covF_end (ts : List ByteArray) (cs : List Int) (n i : Nat) : lst (covF ts cs i 0) n = lst (fun s => covC ts cs s i) n :=
  lst_congr fun j hj => by simp [covF]
theorem covF_at (ts : List ByteArray) (cs : List Int) (i k : Nat) : covF ts cs i k k = covC ts cs k i := by simp [covF]
theorem covF_hit {ts : List ByteArray} {cs : List Int} {i k : Nat} (h : cod (ts.getD i ⟨#[]⟩) k = 119) (j : Nat) : covF ts cs i (k + 1) j = if j = k then covC ts cs k i + cs.getD i 0 else covF ts cs i k j := by
  by_cases e : j = k
  · subst e
    rw [if_pos rfl]
    simp only [covF, if_pos (Nat.lt_succ_self j), covC, addT, if_pos h]
  · rw [if_neg e]
    simp only [covF]
    by_cases hj : j < k
    · rw [if_pos hj, if_pos (by omega)]
    · rw [if_neg hj, if_neg (by omega)]
theorem covF_miss {ts : List ByteArray} {cs : List Int} {i k : Nat} (h : ¬ cod (ts.getD i ⟨#[]⟩) k = 119) : covF ts cs i (k + 1) = covF ts cs i k := by
  funext j
  simp only [covF]
  by_cases e : j = k
  · subst e
    rw [if_pos (by omega), if_neg (by omega), covC, addT, if_neg h, Int.add_zero]
  · by_cases hj : j < k
    · rw [if_pos hj, if_pos (by omega)]
    · rw [if_neg hj, if_neg (by omega)]
theorem covC_bd {ts : List ByteArray} {cs : List Int} {s : Nat} : ∀ i, (∀ j, j < i → 0 ≤ cs.getD j 0 ∧ cs.getD j 0 ≤ 1000) → 0 ≤ covC ts cs s i ∧ covC ts cs s i ≤ 1000 * i
  | 0, _ => by simp [covC]
  | i + 1, h => by
    have h1 := covC_bd (ts := ts) (s := s) i (fun j hj => h j (by omega))
    have h2 := h i (by omega)
    simp only [covC, addT]
    split <;> omega
/-- fine texts: not too many, all as long as the first, of the letters -/
def okT (ts : List ByteArray) : Bool := decide (1 ≤ ts.length) && decide (ts.length ≤ 64) && inR (ts.getD 0 ⟨#[]⟩).size 1 24 && ts.all fun t => decide (t.size = (ts.getD 0 ⟨#[]⟩).size) && letB t
def okC (ts : List ByteArray) (cs : List Int) : Bool := okT ts && manyIn cs ts.length ts.length 0 1000
/-- what both return -/
def cM (ts : List ByteArray) (cs : List Int) : List Int × Bool := if okC ts cs then (lst (fun s => covC ts cs s ts.length) (ts.getD 0 ⟨#[]⟩).size, true) else ([], false)
theorem cM_no {ts : List ByteArray} {cs : List Int} (h : okC ts cs = false) : cM ts cs = ([], false) := by rw [cM, h]; rfl
theorem cM_yes {ts : List ByteArray} {cs : List Int} (h : okC ts cs = true) : cM ts cs = (lst (fun s => covC ts cs s ts.length) (ts.getD 0 ⟨#[]⟩).size, true) := by rw [cM, h]; rfl
theorem cM_len (ts : List ByteArray) (cs : List Int) : (cM ts cs).1.length ≤ 1048576 := by
  cases h : okC ts cs with
  | false => rw [cM_no h]; simp
  | true =>
    rw [cM_yes h, lst_len]
    simp only [okC, okT, Bool.and_eq_true] at h
    have := inR_iff.1 h.1.1.2
    omega
theorem okT_parts {ts : List ByteArray} (h : okT ts = true) : 1 ≤ ts.length ∧ ts.length ≤ 64 ∧ (1 ≤ (ts.getD 0 ⟨#[]⟩).size ∧ (ts.getD 0 ⟨#[]⟩).size ≤ 24) ∧ ∀ k, k < ts.length → (ts.getD k ⟨#[]⟩).size = (ts.getD 0 ⟨#[]⟩).size ∧ letB (ts.getD k ⟨#[]⟩) = true := by
  simp only [okT, Bool.and_eq_true, decide_eq_true_eq] at h
  have h3 := inR_iff.1 h.1.2
  refine ⟨h.1.1.1, h.1.1.2, by omega, fun k hk => ?_⟩
  have := List.all_eq_true.1 h.2 ts[k] (List.getElem_mem hk)
  simp only [Bool.and_eq_true, decide_eq_true_eq] at this
  rw [show ts.getD k ⟨#[]⟩ = ts[k] by rw [List.getD_eq_getElem?_getD, List.getElem?_eq_getElem hk]; rfl]
  exact this
theorem okT_mk {ts : List ByteArray} (h1 : 1 ≤ ts.length) (h2 : ts.length ≤ 64) (h3 : 1 ≤ (ts.getD 0 ⟨#[]⟩).size ∧ (ts.getD 0 ⟨#[]⟩).size ≤ 24) (h4 : ∀ k, k < ts.length → (ts.getD k ⟨#[]⟩).size = (ts.getD 0 ⟨#[]⟩).size ∧ letB (ts.getD k ⟨#[]⟩) = true) : okT ts = true := by
  simp only [okT, Bool.and_eq_true, decide_eq_true_eq]
  refine ⟨⟨⟨h1, h2⟩, inR_iff.2 (by omega)⟩, List.all_eq_true.2 fun t ht => ?_⟩
  obtain ⟨k, hk, rfl⟩ := List.getElem_of_mem ht
  have := h4 k hk
  rw [show ts.getD k ⟨#[]⟩ = ts[k] by rw [List.getD_eq_getElem?_getD, List.getElem?_eq_getElem hk]; rfl] at this
  simp only [Bool.and_eq_true, decide_eq_true_eq]
  exact this
theorem okT_bad {ts : List ByteArray} {k : Nat} (hk : k < ts.length) (h : ¬ ((ts.getD k ⟨#[]⟩).size = (ts.getD 0 ⟨#[]⟩).size ∧ letB (ts.getD k ⟨#[]⟩) = true)) : okT ts = false := by
  cases hc : okT ts with
  | false => rfl
  | true => exact absurd ((okT_parts hc).2.2.2 k hk) h
/-- the letters, one by one -/
theorem letB_at {t : ByteArray} {k : Nat} (hk : k < t.size) (h : letB t = true) : cod t k = 119 ∨ cod t k = 46 := by
  have hl : k < t.data.toList.length := by simpa using hk
  have := List.all_eq_true.1 h _ (List.getElem_mem hl)
  simp only [letOk, Bool.or_eq_true, beq_iff_eq] at this
  rw [cod, List.getD_eq_getElem?_getD, List.getElem?_eq_getElem hl]
  rcases this with e | e
  · left; show ((t.data.toList[k]).toNat : Int) = 119; rw [e]; rfl
  · right; show ((t.data.toList[k]).toNat : Int) = 46; rw [e]; rfl
theorem letB_mk {t : ByteArray} (h : ∀ k, k < t.size → cod t k = 119 ∨ cod t k = 46) : letB t = true := by
  refine List.all_eq_true.2 fun x hx => ?_
  obtain ⟨k, hk, rfl⟩ := List.getElem_of_mem hx
  have := h k (by simpa using hk)
  rw [cod, List.getD_eq_getElem?_getD, List.getElem?_eq_getElem hk] at this
  simp only [letOk, Bool.or_eq_true, beq_iff_eq]
  rcases this with e | e
  · left; apply UInt8.toNat_inj.1; have : ((t.data.toList[k]).toNat : Int) = 119 := e; show _ = 119; omega
  · right; apply UInt8.toNat_inj.1; have : ((t.data.toList[k]).toNat : Int) = 46 := e; show _ = 46; omega
/-- all the sizes -/
def sizes : List ByteArray → Int
  | [] => 0
  | t :: l => t.size + sizes l
theorem sizes_nonneg : ∀ l, 0 ≤ sizes l
  | [] => Int.le_refl _
  | t :: l => by have := sizes_nonneg l; simp only [sizes]; omega
theorem sizes_drop {ts : List ByteArray} {k : Nat} (h : k < ts.length) : sizes (ts.drop k) = (ts.getD k ⟨#[]⟩).size + sizes (ts.drop (k + 1)) := by
  rw [List.drop_eq_getElem_cons h, sizes, List.getD_eq_getElem?_getD, List.getElem?_eq_getElem h]; rfl
theorem sizes_end (ts : List ByteArray) : sizes (ts.drop ts.length) = 0 := by rw [List.drop_length]; rfl
theorem sizes_mem {ts : List ByteArray} {t : ByteArray} : t ∈ ts → (t.size : Int) ≤ sizes ts := by
  induction ts with
  | nil => intro h; cases h
  | cons x l ih =>
    intro h
    have := sizes_nonneg l
    simp only [sizes]
    rcases List.mem_cons.1 h with rfl | h
    · omega
    · have := ih h; omega
end Go.Proofs.YtfofokofphcdnaaDoor.Plain
