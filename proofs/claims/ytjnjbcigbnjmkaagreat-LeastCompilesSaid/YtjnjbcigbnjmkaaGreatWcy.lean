/- Walks: the document's Dfa: whether one may be, a number's class. -/
import Derived.Test.YtjnjbcigbnjmkaaGreatWby
import Derived.Test.YtjnjbcigbnjmkaaGreatDfay
namespace Go.Proofs.YtjnjbcigbnjmkaaGreat
open Go.RowKit Pv

end Go.Proofs.YtjnjbcigbnjmkaaGreat
