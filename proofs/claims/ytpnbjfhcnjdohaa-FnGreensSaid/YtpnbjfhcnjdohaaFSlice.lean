/- The laws' helpers on slices of float32: a copy, equality, marks. -/
import Derived.Test.YtpnbjfhcnjdohaaSlice
import Derived.Test.YtpnbjfhcnjdohaaFloatConv
import Derived.Test.YtpnbjfhcnjdohaaSameF
namespace Go.Proofs.Ytpnbjfhcnjdohaa
open Go.RowKit Plain
set_option linter.unusedVariables false
set_option linter.unusedSimpArgs false
attribute [local go_sem ↓] Go.wp_at_zero Go.wp_at_succ

theorem run_store_float {P : Program} {w : World} {a : Addr} {m : Mode} (k : FloatKind) (b : Nat) : (store a (.float k b) m).run P w = stored P w a (.float k b) m := run_store P w a _ m rfl
attribute [local go_sem] run_store_float

def vf (x : Nat) : Value := .float .f32 x
theorem Rd.flt {w : World} {A : Option Addr} {n : Nat} {xs : List Nat} (h : Rd w 1 A n (xs.map vf)) {k : Nat} (hk : k < n) : ∃ b off, A = some ⟨b, off, none⟩ ∧ w.cell? ⟨b, off + k, none⟩ = some (.float .f32 (xs.getD k 0)) := by
  obtain ⟨h1, _, h2⟩ := h
  obtain ⟨b, off, hA, hc⟩ := h2 (by omega)
  refine ⟨b, off, hA, hc k _ ?_⟩
  have hl : k < xs.length := by simp at h1; omega
  simp [hl, vf, List.getD_eq_getElem?_getD]

theorem below_more {w0 w : World} {m : Nat} (h : Below w0.heap.size w0 w) : Below w0.heap.size w0 (w.drewN m) := below_drewN h m
theorem own_more {w : World} {base size n m : Nat} {e : TypeId} {v : Value} {xs : List Value} (h : w.ownsRow base e size v n xs) : (w.drewN m).ownsRow base e size v n xs := h
theorem infoFloat32 : (Try.prog.info? 27).map (fun i => (i.zero, i.size, i.bytes)) = some (some (.float .f32 0), 1, 4) := by kernel_rfl
end Go.Proofs.Ytpnbjfhcnjdohaa
