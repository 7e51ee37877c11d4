/- Bands of green waves: tables of places and steps. No program stands here. -/
import Derived.Test.YtpnbjfhcnjdohaaGrnB
namespace Go.Proofs.Ytpnbjfhcnjdohaa
open Ieee
set_option linter.unusedVariables false
set_option maxRecDepth 100000
set_option maxHeartbeats 4000000
/-- p quarters -/
def placeW (p : Nat) : Nat := single.nearest false p (-2)
def XB (n : Nat) : Nat := 2 ^ 39 / n + 2 ^ 20
def okF (n e : Nat) : Bool := match single.read e with
  | .number s m i => (decide (m ≠ 0) && decide (-60 ≤ i) || decide (m = 0) && !s) && decide (m * 2 ^ (i + 60).toNat ≤ XB n * 2 ^ 20)
  | _ => false
def okE (n p : Nat) : Bool := okF n (eW n (quoW 1094713344 (placeW p)))
def okPl (p : Nat) : Bool := okQ 1094713344 (placeW p) && ((finB (nrm .f32 (placeW p)) && geB (placeW p)) && decide (placeW p < 4294967296))
def capD (n : Nat) : Nat := rnd single (2 * XB n + 2 ^ 20) (-40)
def lowB (n : Nat) : Nat := if n ≤ 2 then 0 else rnd single (2 ^ 39 - 2 * XB n - 2 ^ 22) (-40)
def rN (n : Nat) : Nat := (double.div 4607182418800017408 (floatOfInt .f64 (n : Int))).getD 0
def sN (n : Nat) : Nat := (double.sub 4602678819172646912 (rN n)).getD 0
def cN (n : Nat) : Nat := (double.sub (sN n) 4562254508917369340).getD 0
theorem allE_t : ((List.range 40).all fun n => (List.range 64).all fun p => okE (n + 1) p) = true := by decide +kernel
theorem allP_t : ((List.range 64).all okPl) = true := by decide +kernel
theorem tabD : ∀ n : Nat, n < 41 → 1 ≤ n → ev (2 * XB n) (-40) ≤ rv single (capD n) ∧ capD n < single.infRung ∧ lowB n ≤ 1056964608 ∧ (3 ≤ n → rv single (lowB n) ≤ 1 / 2 - rv single (capD n)) := by decide +kernel
theorem tabC : ∀ n : Nat, n < 41 → 1 ≤ n → floatBits .quo .f64 4607182418800017408 (floatOfInt .f64 (n : Int)) = some (rN n) ∧ floatBits .sub .f64 4602678819172646912 (rN n) = some (sN n) ∧ floatBits .sub .f64 (sN n) 4562254508917369340 = some (cN n) ∧
    (3 ≤ n → cN n ≤ up64 (lowB n) ∧ cN n < double.infRung) ∧ (n ≤ 2 → double.order 0 (cN n) = some .gt) := by decide +kernel
theorem wave_const : longW 1069547520 1090519040 = 1094713344 ∧ upB 1069547520 = true ∧ upB 1090519040 = true ∧ unitB 1056964608 = true ∧ up64 1056964608 = 4602678819172646912 ∧ rv single 1056964608 = 1 / 2 := by decide +kernel
end Go.Proofs.Ytpnbjfhcnjdohaa
