/- The program of the seat, as den reads it, with the functions that are run written out. -/
import Derived.Test.YtajdklfckcgifaaGreatCodeT
namespace Den
open Go Go.Proofs
set_option maxRecDepth 1000000

noncomputable def cfgL : Cfg := { cfgA with code := tabL }
theorem cfgL_ok : CfgOk Tryz.prog cfgL where
  mixed := cfgA_ok.mixed
  code f F h := cfgA_ok.code f F (tabL_ok f F h)
  prim f p h := cfgA_ok.prim f p h
  meth t name f h := cfgA_ok.meth t name f h
theorem noFp_ok : FpOk cfgL noFp := fun _ _ h => by cases h
end Den
