/- A pattern's text tells that pattern. Nothing of a program stands here. -/
import Derived.Test.YtilhicefhhgecaaGreatDoorRcq
import Derived.Test.YtilhicefhhgecaaGreatDoorTaq
import Derived.Lib.Join
namespace Pv
open Go Go.RowKit

/-- What a piece's text begins with. -/
def HB (b : UInt8) : Prop := b = 40 ∨ b = 46 ∨ b = 91 ∨ b = 92 ∨ isMark b.toNat = false
end Pv
