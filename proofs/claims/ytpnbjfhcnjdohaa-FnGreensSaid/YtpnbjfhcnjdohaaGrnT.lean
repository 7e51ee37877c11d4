/- Greens: tables of cycles and shares for flows of so many parts of 32, lost times of halves. No program stands here. -/
import Derived.Test.YtpnbjfhcnjdohaaFMono
import Derived.Test.YtpnbjfhcnjdohaaFlows2
namespace Go.Proofs.Ytpnbjfhcnjdohaa
open Ieee
set_option linter.unusedVariables false
set_option maxRecDepth 100000
/-- k parts of 32 -/
def flowW (k : Nat) : Nat := single.nearest false k (-5)
/-- h halves -/
def lostW (h : Nat) : Nat := single.nearest false h (-1)
def up64 (b : Nat) : Nat := match single.read b with | .number s m e => double.nearest s m e | _ => 0
/-- A parts of 2^30, in 64 bits -/
def D64 (A : Nat) : Nat := rnd double A (-30)
def fixW (b : Nat) : Nat := match single.read b with | .number _ m e => m * 2 ^ (e + 30).toNat | _ => 0
def cycW (K h : Nat) : Nat := (single.div ((single.add ((single.mul 1069547520 (lostW h)).getD 0) 1084227584).getD 0) (flowW (32 - K))).getD 0
def shW (K h k : Nat) : Nat := (single.div ((single.mul ((single.sub (cycW K h) (lostW h)).getD 0) (flowW k)).getD 0) (flowW K)).getD 0
def proW (K h : Nat) : Nat := (double.mul (up64 (cycW K h)) (D64 ((32 - K) * 33554432))).getD 0
def wantW (h : Nat) : Nat := D64 ((3 * h + 20) * 268435456)
/-- one cycle -/
def okC (K h : Nat) : Bool :=
  decide (fop .quo .f32 (fop .add .f32 (fop .mul .f32 (some 1069547520) (nrm .f32 (lostW h))) (some 1084227584)) (some (flowW (32 - K))) = some (cycW K h)) &&
  (finB (some (cycW K h)) && finB (nrm .f32 (cycW K h)) && ge2 (cycW K h) (lostW h) && gt0F (some (flowW (32 - K)))) &&
  (decide (up64 (cycW K h) = D64 (fixW (cycW K h))) && decide (fixW (lostW h) ≤ fixW (cycW K h)) && (decide (fixW (cycW K h) < 2 ^ 40) && decide (cycW K h < 2139095040))) &&
  (decide (double.mul (up64 (cycW K h)) (D64 ((32 - K) * 33554432)) = some (proW K h)) &&
   ((double.order (proW K h) (wantW h) == some .lt && (match double.sub (wantW h) (proW K h) with | some g => double.order g 4576918229304087675 == some .lt | none => false)) ||
    ((double.order (proW K h) (wantW h) == some .gt || double.order (proW K h) (wantW h) == some .eq) && (match double.sub (proW K h) (wantW h) with | some g => double.order g 4576918229304087675 == some .lt | none => false))))
/-- one share -/
def okS (K h k : Nat) : Bool :=
  decide (fop .quo .f32 (fop .mul .f32 (fop .sub .f32 (nrm .f32 (cycW K h)) (nrm .f32 (lostW h))) (nrm .f32 (flowW k))) (some (flowW K)) = some (shW K h k)) &&
  (finB (some (shW K h k)) && decide (up64 (shW K h k) = D64 (fixW (shW K h k))) && (decide (fixW (shW K h k) < 2 ^ 40) && decide (shW K h k < 2139095040)) &&
   decide (fixW (shW K h k) * K ≤ k * (fixW (cycW K h) - fixW (lostW h)) + K * 100000) && decide (k * (fixW (cycW K h) - fixW (lostW h)) ≤ fixW (shW K h k) * K + K * 100000))
def allC : Bool := (List.range 24).all fun K => (List.range 17).all fun h => okC (K + 1) h
def allS (K : Nat) : Bool := (List.range 17).all fun h => (List.range (min 6 K)).all fun k => okS K h (k + 1)
set_option maxHeartbeats 4000000
theorem allC_t : allC = true := by decide +kernel
theorem allS_t : ((List.range 24).all fun K => allS (K + 1)) = true := by decide +kernel
end Go.Proofs.Ytpnbjfhcnjdohaa
