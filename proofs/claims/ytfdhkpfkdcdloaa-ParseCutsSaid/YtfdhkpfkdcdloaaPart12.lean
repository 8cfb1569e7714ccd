/-
  Texts of this session, one behind the other: AmGlob.
-/
import Derived.Test.YtfdhkpfkdcdloaaPart11
import Derived.Lib.LaidU8
namespace Go.Am
open Go

end Go.Am
