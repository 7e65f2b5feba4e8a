/- What the walks import. -/
import Derived.Test.YtjnjbcigbnjmkaaMemy
import Derived.Test.YtjnjbcigbnjmkaaChecked
import Derived.WalkKit
import Derived.WalkSpells
import Derived.WalkLawsBesides
import Derived.Deep.QuietTactic
import Derived.BigQuiet
import Derived.Lib.Hide
import Derived.Outline
