/- What the arguments of a law are: slices of floats, bools, texts. No program stands here. -/
import Derived.Test.YtkaopdpdfbkchaaOpen
namespace Go.Proofs.Ytkaopdpdfbkchaa
open Go.ChangeShapes Go.WideShapes Go.ChangeAt Go.RowKit Go.Deep
set_option linter.unusedVariables false

section
variable {H : Type} {enc : TypeId × Value → H} {P : Program} {w : World} {spare : Nat → Bool} {held : Bool}
theorem arg_list1 {α : Type} (f : α → Value) (R : α → Prop) {t e : TypeId} {a : Option Addr} {len cap : Nat} {d : DataW H} {p : List MemPlace} (ht : P.underlying t = some (.slice e)) (hc : P.cellsOf e = 1)
    (hel : ∀ n v y, DataW.trod enc P w 0 spare held n e [v] = some y → ∃ x, v = f x ∧ R x) [Inhabited α]
    (h : DataW.Trod enc P w 0 spare held t (.slice a len cap) d p) : ∃ xs : List α, xs.length = len ∧ (∀ x ∈ xs, R x) ∧ Sl w 1 (.slice a len cap) xs.length (xs.map f) := by
  obtain ⟨fuel, hq⟩ := h
  rcases open_slice1 ht hc hq with ⟨hcs, _⟩ | ⟨x, l, c, m, n, V, D, Pl, hcs, _, hl, hm, hmm, _, hel1⟩
  · simp [Value.cells] at hcs
    obtain ⟨rfl, rfl, rfl⟩ := hcs
    exact ⟨[], rfl, by simp, none, 0, rfl, by simp, ⟨by simp, by simp, by simp⟩⟩
  · simp [Value.cells] at hcs
    obtain ⟨rfl, rfl, rfl⟩ := hcs
    have hlm : len ≤ m := by rw [hmm]; split <;> omega
    have hk : ∀ k, k < len → ∃ x, V k = f x ∧ R x := fun k hk => hel _ _ _ (hel1 k (by omega)).2
    let g : Nat → α := fun k => if hk' : k < len then (hk k hk').choose else default
    have hg : ∀ k, k < len → V k = f (g k) ∧ R (g k) := by
      intro k hk'
      have := (hk k hk').choose_spec
      simpa [g, hk'] using this
    refine ⟨(List.range len).map g, by simp, ?_, some x, cap, by simp, by simp; omega, by simp, by simp; omega, fun hn => ?_⟩
    · intro y hy
      obtain ⟨k, hk', rfl⟩ := List.mem_map.1 hy
      exact (hg k (List.mem_range.1 hk')).2
    · have hn0 : 0 < len := by simpa using hn
      have hsp : x.spot = none := by
        have := World.cell?_spot (hel1 0 (by omega)).1
        exact spot_add this
      refine ⟨x.block, x.off, by obtain ⟨b, o, s⟩ := x; simp_all, fun j u hu => ?_⟩
      have hj : j < len := by
        have := (List.getElem?_eq_some_iff.1 hu).1
        simpa using this
      rw [← add_spot hsp, (hel1 j (by omega)).1, (hg j hj).1]
      simpa [hj] using hu
theorem trod_float {t : TypeId} {k : FloatKind} {fuel : Nat} {cs : List Value} {x : DataW H × List MemPlace} (ht : P.underlying t = some (.float k)) (h : DataW.trod enc P w 0 spare held fuel t cs = some x) : ∃ n, cs = [.float k n] ∧ (Lit.float k n).wf = true := by
  cases fuel with
  | zero => simp [DataW.trod] at h
  | succ n =>
    unfold DataW.trod at h
    rw [ht] at h
    split at h <;> simp_all
theorem arg_floats {t e : TypeId} {a : Option Addr} {len cap : Nat} {d : DataW H} {p : List MemPlace} (ht : P.underlying t = some (.slice e)) (he : P.underlying e = some (.float .f32)) (hc : P.cellsOf e = 1)
    (h : DataW.Trod enc P w 0 spare held t (.slice a len cap) d p) : ∃ xs : List Nat, xs.length = len ∧ (∀ x ∈ xs, (Lit.float .f32 x).wf = true) ∧ Sl w 1 (.slice a len cap) xs.length (xs.map (Value.float .f32 ·)) :=
  arg_list1 (Value.float .f32 ·) _ ht hc (fun n v y hy => by
    obtain ⟨b, hb, hw⟩ := trod_float he hy
    exact ⟨b, by simpa using hb, hw⟩) h
theorem arg_bools {t e : TypeId} {a : Option Addr} {len cap : Nat} {d : DataW H} {p : List MemPlace} (ht : P.underlying t = some (.slice e)) (he : P.underlying e = some .bool) (hc : P.cellsOf e = 1)
    (h : DataW.Trod enc P w 0 spare held t (.slice a len cap) d p) : ∃ xs : List Bool, xs.length = len ∧ (∀ x ∈ xs, True) ∧ Sl w 1 (.slice a len cap) xs.length (xs.map (Value.bool ·)) :=
  arg_list1 (Value.bool ·) _ ht hc (fun n v y hy => by
    obtain ⟨b, hb, _⟩ := DataW.trod_bool he hy
    exact ⟨b, by simpa using hb, trivial⟩) h
instance : Inhabited ByteArray := ⟨ByteArray.empty⟩
theorem arg_texts {t e : TypeId} {a : Option Addr} {len cap : Nat} {d : DataW H} {p : List MemPlace} (ht : P.underlying t = some (.slice e)) (he : P.underlying e = some .string) (hc : P.cellsOf e = 1)
    (h : DataW.Trod enc P w 0 spare held t (.slice a len cap) d p) : ∃ xs : List ByteArray, xs.length = len ∧ (∀ x ∈ xs, x.size ≤ maxLen) ∧ Sl w 1 (.slice a len cap) xs.length (xs.map (Value.string ·)) :=
  arg_list1 (Value.string ·) _ ht hc (fun n v y hy => by
    obtain ⟨b, hb, _, hw⟩ := DataW.trod_string he hy
    exact ⟨b, by simpa using hb, hw⟩) h
theorem arg_bytes {t e : TypeId} {a : Option Addr} {len cap : Nat} {d : DataW H} {p : List MemPlace} (ht : P.underlying t = some (.slice e)) (he : P.underlying e = some (.int .u8)) (hc : P.cellsOf e = 1)
    (h : DataW.Trod enc P w 0 spare held t (.slice a len cap) d p) : ∃ xs : List Nat, xs.length = len ∧ (∀ x ∈ xs, x < 256) ∧ Sl w 1 (.slice a len cap) xs.length (xs.map (fun x : Nat => Value.int .u8 (x : Int))) :=
  arg_list1 (fun x : Nat => Value.int .u8 (x : Int)) _ ht hc (fun n v y hy => by
    obtain ⟨b, hb, _, hw⟩ := DataW.trod_int he hy
    simp only [Lit.wf, IntKind.min, IntKind.max, IntKind.signed, IntKind.bits, Bool.and_eq_true, decide_eq_true_eq] at hw
    obtain ⟨q, rfl⟩ := Int.eq_ofNat_of_zero_le (show 0 ≤ b by simpa using hw.1)
    refine ⟨q, by simpa using hb, ?_⟩
    have := hw.2
    simp at this
    omega) h
end
end Go.Proofs.Ytkaopdpdfbkchaa
