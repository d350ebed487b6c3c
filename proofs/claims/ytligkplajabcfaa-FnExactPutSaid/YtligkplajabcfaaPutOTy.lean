import Derived.Test.YtligkplajabcfaaNt
import Derived.Test.YtligkplajabcfaaSx32
set_option linter.unusedVariables false
set_option linter.unusedSimpArgs false
set_option synthInstance.maxSize 1000000000
/-! the data of the plain functions -/
namespace Go.PuO
open Go.Nt
structure Pace where
  mk ::
  Up : Int
  Down : Int
  UpSpan : Int
  DownSpan : Int
structure Order where
  mk ::
  Name : Str
  Target : Str
  Low : Int
  High : Int
  Metrics : Go.SX.C
  Pace : Pace
  Notes : Go.SX.C
structure Item where
  mk ::
  Order : Order
  Ver : Int

end Go.PuO
