/-
  Texts of this session, one behind the other: AmShelf, SyShelf.
-/
import Derived.Test.YtfdhkpfkdcdloaaPart13
import Derived.Shelf.Strings.OnBuilder
import Derived.Shelf.Strconv.Itoa3
namespace Go.Am
open Go Go.RowKit Go.Sort

variable {E : Env} {w : World}

end Go.Am

namespace Go.Am
open Go

end Go.Am
