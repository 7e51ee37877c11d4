/- min and max of two float32 that are numbers and stand apart or are one word. -/
import Derived.Test.YtpnbjfhcnjdohaaProg
import Derived.Test.YtpnbjfhcnjdohaaFloats
namespace Go.Proofs.Ytpnbjfhcnjdohaa
open Go.RowKit
set_option linter.unusedVariables false
set_option linter.unusedSimpArgs false
theorem run_min_f32 (ts : Array TypeId) (t : TypeId) (d e : Nat) (w : World) (o : Ordering) (h : FloatKind.f32.format.order d e = some o) (hs : o = .eq → d = e) :
    (Builtin.min_ ts t #[.float .f32 d, .float .f32 e]).run Try.prog w = .ok (.float .f32 (if o = .gt then e else d)) w := by
  simp only [Builtin.min_, List.foldlM_cons, List.foldlM_nil, Builtin.min2]
  cases o with
  | eq => have e1 := hs rfl; subst e1; simp [go_sem, h]
  | lt => simp [go_sem, h]
  | gt => simp [go_sem, h]
theorem run_max_f32 (ts : Array TypeId) (t : TypeId) (d e : Nat) (w : World) (o : Ordering) (h : FloatKind.f32.format.order d e = some o) (hs : o = .eq → d = e) :
    (Builtin.max_ ts t #[.float .f32 d, .float .f32 e]).run Try.prog w = .ok (.float .f32 (if o = .lt then e else d)) w := by
  simp only [Builtin.max_, List.foldlM_cons, List.foldlM_nil, Builtin.max2]
  cases o with
  | eq => have e1 := hs rfl; subst e1; simp [go_sem, h]
  | lt => simp [go_sem, h]
  | gt => simp [go_sem, h]
end Go.Proofs.Ytpnbjfhcnjdohaa
