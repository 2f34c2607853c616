/- Contracts of library functions at this program, laid by the shelf and written in plain words: those that the first text of this kind does not hold. -/
import Derived.Shelf.Small.Bits
import Derived.Shelf.Strconv.Itoa0
import Derived.Ground.SlgnProg
import Derived.Shelf.SlicesE.Index
import Derived.Shelf.SlicesE.Compact
import Derived.Shelf.SlicesE.Clone
import Derived.Ground.SlgfProg
import Derived.Shelf.SlicesE.IndexFunc
import Derived.Test.YtjpcljnojipdnaaGreatProg
import Derived.Test.YtjpcljnojipdnaaGreatShelf
namespace Go.Proofs
open Go.Shelf
end Go.Proofs
