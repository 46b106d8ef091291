/-
  Contracts of the alarms: the program's and the reference's.
-/
import Derived.Test.YtolbibpmngmpdaaAlarmP
import Derived.Test.YtolbibpmngmpdaaFin
import Derived.Test.YtolbibpmngmpdaaHelq
import Derived.BigGuardPart
namespace Go.Proofs.Ytolbibpmngmpdaa
open Go.RowKit Fl Mem
set_option linter.unusedVariables false
set_option maxRecDepth 100000

/-- What AlarmAt returns. -/
def alarmOk (xs : List Nat) (bar : Nat) (d : Int) : Bool := isSig xs && fin .f32 bar && inB d 0 ((xs.length : Int) - 1)
def alarmAtR (xs : List Nat) (bar : Nat) (d : Int) : Int := if alarmOk xs bar d = true then firstOf (alarmsL xs bar d.toNat) else 0

end Go.Proofs.Ytolbibpmngmpdaa
