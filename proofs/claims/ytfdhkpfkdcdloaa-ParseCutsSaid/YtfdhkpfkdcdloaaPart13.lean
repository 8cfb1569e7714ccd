/-
  Texts of this session, one behind the other: AmUtf8.
-/
import Derived.Test.YtfdhkpfkdcdloaaPart12
import Derived.Shelf.Unicode.DecodeAny
import Derived.Lib.LaidU8
namespace Go.Am
open Go

variable {E : Env} {w : World} {g3 g4 : Nat}

end Go.Am
