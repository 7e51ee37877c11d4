/- What the arguments of a law are, read off the form's own reading of them. No program stands here. -/
import Derived.Test.YtkaopdpdfbkchaaBase
import Derived.Test.YtkaopdpdfbkchaaWords
import Derived.ProofKit
import Derived.OpenShut
import Derived.ShutString
import Derived.ChangeOld
import Derived.Deep.Slices
import Derived.Laws.Cover2
namespace Go.Proofs.Ytkaopdpdfbkchaa
open Go.ChangeShapes Go.WideShapes Go.ChangeAt Go.RowKit Go.Deep

theorem i64_of_wf {n : Int} (h : (Lit.int .i64 n).wf = true) : I64 n := by
  simp only [Lit.wf, IntKind.min, IntKind.max, IntKind.signed, IntKind.bits, Bool.and_eq_true, decide_eq_true_eq, if_true] at h
  exact ⟨by omega, by omega⟩

theorem add_spot {a : Addr} (h : a.spot = none) (j : Nat) : a.add j = ⟨a.block, a.off + j, none⟩ := by
  obtain ⟨b, o, s⟩ := a
  simp only at h
  subst h
  unfold Addr.add
  by_cases hj : j = 0 <;> simp [hj]
theorem spot_add {a : Addr} (h : (a.add 0).spot = none) : a.spot = none := by
  simpa [Addr.add] using h

section
variable {H : Type} {enc : TypeId × Value → H} {P : Program} {w : World} {spare : Nat → Bool} {held : Bool}
theorem arg_ints {t e : TypeId} {a : Option Addr} {len cap : Nat} {d : DataW H} {p : List MemPlace} (ht : P.underlying t = some (.slice e)) (he : P.underlying e = some (.int .i64)) (hc : P.cellsOf e = 1)
    (h : DataW.Trod enc P w 0 spare held t (.slice a len cap) d p) : ∃ xs : List Int, xs.length = len ∧ (∀ x ∈ xs, I64 x) ∧ Sl w 1 (.slice a len cap) xs.length (xs.map vi) := by
  obtain ⟨fuel, hf⟩ := h
  rcases open_ints ht he hc hf with ⟨hcs, _⟩ | ⟨x, l, c, zs, hcs, _, hl, hm, hz, _, hcell, hwz⟩
  · simp [Value.cells] at hcs
    obtain ⟨rfl, rfl, rfl⟩ := hcs
    exact ⟨[], rfl, by simp, none, 0, rfl, by simp, ⟨by simp, by simp, by simp⟩⟩
  · simp [Value.cells] at hcs
    obtain ⟨rfl, rfl, rfl⟩ := hcs
    have hlz : len ≤ zs.length := by rw [hz]; split <;> omega
    refine ⟨zs.take len, by simp; omega, fun y hy => i64_of_wf (hwz y (List.mem_of_mem_take hy)), some x, cap, by simp; omega, by simp; omega, by simp, by simp; omega, fun hn => ?_⟩
    have hsp : x.spot = none := spot_add (World.cell?_spot (hcell 0 (by simp at hn; omega)))
    refine ⟨x.block, x.off, by obtain ⟨b, o, s⟩ := x; simp_all, fun j u hu => ?_⟩
    rw [← add_spot hsp]
    simp only [List.map_take, List.getElem?_take] at hu
    split at hu
    · rw [hcell j (by omega)]
      simp at hu
      obtain ⟨y, hy, rfl⟩ := hu
      simp [vi, List.getD_eq_getElem?_getD, hy]
    · cases hu

/-- fields of one cell each, all int64, in order -/
def intFields (P : Program) (fs : Array Field) (e : TypeId) : Bool := (List.range fs.size).all fun i => match fs[i]? with | some f => f.offset == i && (P.cellsOf f.type == 1 && f.type == e) | none => true
theorem intFields_at {P : Program} {fs : Array Field} {e : TypeId} (h : intFields P fs e = true) (i : Nat) (f : Field) (hf : fs[i]? = some f) : f.offset = i ∧ P.cellsOf f.type = 1 ∧ f.type = e := by
  have hi : i < fs.size := (Array.getElem?_eq_some_iff.1 hf).1
  have := List.all_eq_true.1 h i (List.mem_range.2 hi)
  simpa [hf] using this
theorem int_field {t e : TypeId} {fs : Array Field} {fuel : Nat} {cs : List Value} {x : DataW H × List MemPlace} (ht : P.underlying t = some (.struct fs)) (he : P.underlying e = some (.int .i64))
    (hf : intFields P fs e = true) (h : DataW.trod enc P w 0 spare held fuel t cs = some x) (i : Nat) (hi : i < fs.size) : ∃ n : Int, cs[i]? = some (.int .i64 n) ∧ I64 n := by
  obtain ⟨ys, n, _, _, _, hlen, hg⟩ := DataW.trod_struct ht h
  obtain ⟨f1, f2, f3⟩ := intFields_at hf i fs[i] (by simp [hi])
  have h1 := hg i fs[i] (by simp [hi])
  rw [f1, f2, List.getElem?_eq_getElem (by omega), f3] at h1
  cases hc : cs[i]? with
  | none =>
    have : (cs.drop i).take 1 = [] := by
      rw [List.drop_eq_nil_of_le (by simpa using hc)]; rfl
    rw [this] at h1
    obtain ⟨m, hm, _⟩ := DataW.trod_int he h1
    simp at hm
  | some v =>
    have : (cs.drop i).take 1 = [v] := by
      obtain ⟨hl, hv⟩ := List.getElem?_eq_some_iff.1 hc
      rw [List.drop_eq_getElem_cons hl, hv]; rfl
    rw [this] at h1
    obtain ⟨m, hm, _, hw⟩ := DataW.trod_int he h1
    simp at hm
    exact ⟨m, by rw [hm], i64_of_wf hw⟩

theorem arg_agg5 {r : Reach} {b0 : Nat} {t e : TypeId} {fs : Array Field} {v : Value} {d : DataW H} {p : List MemPlace} (ht : P.underlying t = some (.struct fs)) (he : P.underlying e = some (.int .i64)) (h5 : fs.size = 5) (hf : intFields P fs e = true) (hc : P.cellsOf t = 5)
    (hv : Value.okWide P w r b0 t v) (h : DataW.Trod enc P w 0 spare held t v d p) : ∃ x : SR, x.I64 ∧ v = x.val := by
  obtain ⟨cs, rfl, hsz⟩ := okWide_struct ht hv
  obtain ⟨fuel, hq⟩ := h
  have hk := fun i (hi : i < 5) => int_field ht he hf hq i (by omega)
  obtain ⟨a, ha, wa⟩ := hk 0 (by omega)
  obtain ⟨b, hb, wb⟩ := hk 1 (by omega)
  obtain ⟨c, hc', wc⟩ := hk 2 (by omega)
  obtain ⟨d', hd', wd⟩ := hk 3 (by omega)
  obtain ⟨e', he', we⟩ := hk 4 (by omega)
  refine ⟨⟨a, b, c, d', e'⟩, ⟨wa, wb, wc, wd, we⟩, ?_⟩
  obtain ⟨l⟩ := cs
  simp only [Value.cells] at ha hb hc' hd' he'
  have hl : l.length = 5 := by rw [← hc]; simpa using hsz
  match l, hl with
  | [x0, x1, x2, x3, x4], _ =>
    simp at ha hb hc' hd' he'
    simp [SR.val, ha, hb, hc', hd', he']

theorem arg_q4 {t e i : TypeId} {fs : Array Field} {a : Option Addr} {len cap : Nat} {d : DataW H} {p : List MemPlace} (ht : P.underlying t = some (.slice e)) (he : P.underlying e = some (.struct fs)) (hi : P.underlying i = some (.int .i64)) (h4 : fs.size = 4) (hf : intFields P fs i = true) (hc : P.cellsOf e = 4)
    (h : DataW.Trod enc P w 0 spare held t (.slice a len cap) d p) : ∃ xs : List Q4, xs.length = len ∧ (∀ x ∈ xs, x.I64) ∧ Sl w 4 (.slice a len cap) xs.length (q4s xs) := by
  obtain ⟨fuel, hq⟩ := h
  rcases open_slice ht hq with ⟨hcs, _⟩ | ⟨x, l, c, m, n, D, Pl, hcs, _, hl, hm, hmm, _, hel⟩
  · simp [Value.cells] at hcs
    obtain ⟨rfl, rfl, rfl⟩ := hcs
    exact ⟨[], rfl, by simp, none, 0, rfl, by simp, ⟨by simp [q4s], by simp, by simp⟩⟩
  · simp [Value.cells] at hcs
    obtain ⟨rfl, rfl, rfl⟩ := hcs
    rw [hc] at hel
    have hlm : len ≤ m := by rw [hmm]; split <;> omega
    have hq4 : ∀ k, k < len → ∃ q : Q4, q.I64 ∧ ∀ j u, q.cells[j]? = some u → w.cell? ((x.add (k * 4)).add j) = some u := by
      intro k hk
      obtain ⟨cs', hcc, htr⟩ := hel k (by omega)
      obtain ⟨_, hlen, hat⟩ := World.cells?_some hcc
      have hk4 := fun j (hj : j < 4) => int_field he hi hf htr j (by omega)
      obtain ⟨a0, e0, w0⟩ := hk4 0 (by omega)
      obtain ⟨a1, e1, w1⟩ := hk4 1 (by omega)
      obtain ⟨a2, e2, w2⟩ := hk4 2 (by omega)
      obtain ⟨a3, e3, w3⟩ := hk4 3 (by omega)
      refine ⟨⟨a0, a1, a2, a3⟩, ⟨w0, w1, w2, w3⟩, fun j u hu => ?_⟩
      have hj : j < 4 := by
        have := (List.getElem?_eq_some_iff.1 hu).1
        simpa [Q4.cells] using this
      rw [hat j hj]
      match j, hj with
      | 0, _ => rw [e0]; simpa [Q4.cells] using hu
      | 1, _ => rw [e1]; simpa [Q4.cells] using hu
      | 2, _ => rw [e2]; simpa [Q4.cells] using hu
      | 3, _ => rw [e3]; simpa [Q4.cells] using hu
    let f : Nat → Q4 := fun k => if hk : k < len then (hq4 k hk).choose else default
    have hf0 : ∀ k, k < len → (f k).I64 ∧ ∀ j u, (f k).cells[j]? = some u → w.cell? ((x.add (k * 4)).add j) = some u := by
      intro k hk
      have := (hq4 k hk).choose_spec
      simpa [f, hk] using this
    refine ⟨(List.range len).map f, by simp, ?_, some x, cap, by simp, by simp; omega, by rw [q4s_len], by simp; omega, fun hn => ?_⟩
    · intro y hy
      obtain ⟨k, hk, rfl⟩ := List.mem_map.1 hy
      exact (hf0 k (List.mem_range.1 hk)).1
    · have hn0 : 0 < len := by simpa using hn
      have hsp : x.spot = none := by
        have := World.cell?_spot ((hf0 0 hn0).2 0 _ rfl)
        simpa [Addr.add] using this
      refine ⟨x.block, x.off, by obtain ⟨b, o, s⟩ := x; simp_all, fun j u hu => ?_⟩
      have hj : j < len * 4 := by
        have := (List.getElem?_eq_some_iff.1 hu).1
        rw [q4s_len] at this
        simpa using this
      have hk : j / 4 < len := by omega
      have hu' := q4s_get (l := (List.range len).map f) (k := j / 4) (by simpa using hk) (j % 4) (by omega)
      rw [show j / 4 * 4 + j % 4 = j by omega, hu] at hu'
      have := (hf0 (j / 4) hk).2 (j % 4) u (by rw [hu']; simp)
      rw [add_spot hsp, add_spot rfl] at this
      simpa [Nat.add_assoc, show j / 4 * 4 + j % 4 = j by omega] using this
end
end Go.Proofs.Ytkaopdpdfbkchaa
