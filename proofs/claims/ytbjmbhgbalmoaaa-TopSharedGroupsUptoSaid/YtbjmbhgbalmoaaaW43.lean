/- The engine's word on this law's functions. -/
import Derived.Test.YtbjmbhgbalmoaaaProg
import Derived.KernelRfl
import Derived.Test.YtbjmbhgbalmoaaaW42
set_option maxRecDepth 100000
namespace Go.TL.Ggroups
open Go Go.TL
open Go.TL.H.Hgroups
end Go.TL.Ggroups
