/- The program of the seat, as den reads it, with the functions that are run written out. -/
import Derived.Test.YtajcniofkpifaaaCodeT
namespace Den
open Go Go.Proofs
set_option maxRecDepth 1000000

end Den
