/- What one call comes to, reckoned out. -/
import Derived.Test.YtajcniofkpifaaaSlotR
import Derived.Test.YtajcniofkpifaaaMB
namespace Den
open Go Go.Proofs
set_option maxRecDepth 1000000
namespace Fa0
def on (k : Nat) (a b c d : Int) : ABlk := .arr [.ref 0 k 0, .int .i64 a, .int .i64 b, .int .u64 c, .int .u64 d]
def z : AV := .int .u64 0
def u (n : Int) : AV := .int .u64 n
def i (n : Int) : AV := .int .i64 n
def a0 : List AV := [.isl [z, z, z, z, z, z, z, z, u 2, u 2, z, u 125, z, z, z, z, z, z, z, z, u 8323080, u 8192264, z, z, z, z, z, z, z, z, z, z, z, z, z, z, z, z, z, z, z, z, z, z, z, z, z, z, z, z, z, z, z, z, z, z, z, z, z, z, z, z, z, z, z, z, z, z, z, z, z, z, z, z, z, z, z, z, z, z, z, z, z, z, z, z, z, z, z, z, z, z, z, z, z, z, z, z, z, z, z, z, z, z, z, z, z, z, z, z, z, z, z, z, z, z, z, z, z, z, z, z, z, z, z, u 7854277750134145024, u 3, u 2, z, z, z, z, z, z, z, z, u 1, u 4, u 3, u 96, z, z, z, z, u 1, u 7854277750134145024, z, z, u 7870504, u 7346216, u 6821928, u 6297640, z, z, z, z, z, z, z, z, z, z, z, z, z, z, z, z, z, z, z, z, z, z, z, z, z, z, z, z, z, z, z, z, z, z, z, z, z, z, z, z, z, z, z, z, z, z, z, z, z, z, z, z, z, z, z, z, z, z, z, z, z, z, z, z, z, z, z, z, z, z, z, z, u 7234017283807667300, u 7234017283807667300, u 7234017283807667300, z, z, z, z, z, u 7161677110969590627, u 7161677110969590627, u 7161677110969590627, z, z, z, z, z, u 7089336938131513954, u 7089336938131513954, u 7089336938131513954, z, z, z, z, z, u 7016996765293437281, u 7016996765293437281, u 7016996765293437281, z, z, z, z, z, z, z, z, z, z, z, z, z, u 1, u 4, z, u 96, u 1, u 7854277750134145024, z, z, z, z, z, z, u 7870504, u 7346216, u 6821928, u 6297640, z, z, z, z, z, z, z, z, z, z, z, z, z, z, z, z, z, z, z, z, z, z, z, z, z, z, z, z, z, z, z, z, z, z, z, z, z, z, z, z, z, z, z, z, z, z, z, z, z, z, z, z, z, z, z, z, z, z, z, z, z, z, z, z, z, z, z, z, z, z, z, z, u 8102099357864587376, u 8102099357864587376, u 8102099357864587376, z, z, z, z, z, u 8029759185026510703, u 8029759185026510703, u 8029759185026510703, z, z, z, z, z, u 7957419012188434030, u 7957419012188434030, u 7957419012188434030, z, z, z, z, z, u 7885078839350357357, u 7885078839350357357, u 7885078839350357357, z, z, z, z, z] 3, i 1, i 0]
def o0 : Mo := []
def s0 : Ms := [[MB.b5, MB.b6, MB.b7]]
def rr : AV := .ref 0 4 0
def o1 : Mo := [MB.b0, MB.b1, MB.b2, MB.b3, MB.b4]
def s1 : Ms := [[MB.b5, MB.b6, MB.b7]]
theorem run (k : KV) : fden cfgS noFp 1000000 15 a0 o0 s0 k = k rr o1 s1 := by kernel_rfl
end Fa0
end Den

/- What one call comes to, reckoned out. -/
namespace Den
open Go Go.Proofs
set_option maxRecDepth 1000000
namespace Fa1
def on (k : Nat) (a b c d : Int) : ABlk := .arr [.ref 0 k 0, .int .i64 a, .int .i64 b, .int .u64 c, .int .u64 d]
def z : AV := .int .u64 0
def u (n : Int) : AV := .int .u64 n
def i (n : Int) : AV := .int .i64 n
def a0 : List AV := [.ref 0 4 0, .nils]
def o0 : Mo := [MB.b0, MB.b1, MB.b2, MB.b3, MB.b4]
def s0 : Ms := [[MB.b5, MB.b6, MB.b7]]
def rr : AV := .bool true
def o1 : Mo := [MB.b0, MB.b1, MB.b2, MB.b3, MB.b4, MB.b8, MB.b9, MB.b10, MB.b8, MB.b11, MB.b10, MB.b8, MB.b12, MB.b10, MB.b8, MB.b13, MB.b10, MB.b8, MB.b14, MB.b10]
def s1 : Ms := [[MB.b5, MB.b6, MB.b7]]
theorem run (k : KV) : fden cfgS noFp 1000000 16 a0 o0 s0 k = k rr o1 s1 := by kernel_rfl
end Fa1
end Den

/- What one call comes to, reckoned out. -/
namespace Den
open Go Go.Proofs
set_option maxRecDepth 1000000
namespace Fa2
def on (k : Nat) (a b c d : Int) : ABlk := .arr [.ref 0 k 0, .int .i64 a, .int .i64 b, .int .u64 c, .int .u64 d]
def z : AV := .int .u64 0
def u (n : Int) : AV := .int .u64 n
def i (n : Int) : AV := .int .i64 n
def a0 : List AV := [.isl [z, z, z, z, z, z, z, z, u 2, u 2, z, u 125, z, z, z, z, z, z, z, z, u 8323080, u 8192264, z, z, z, z, z, z, z, z, z, z, z, z, z, z, z, z, z, z, z, z, z, z, z, z, z, z, z, z, z, z, z, z, z, z, z, z, z, z, z, z, z, z, z, z, z, z, z, z, z, z, z, z, z, z, z, z, z, z, z, z, z, z, z, z, z, z, z, z, z, z, z, z, z, z, z, z, z, z, z, z, z, z, z, z, z, z, z, z, z, z, z, z, z, z, z, z, z, z, z, z, z, z, z, u 7854277750134145024, u 3, u 2, z, z, z, z, z, z, z, z, u 1, u 4, z, u 96, z, z, z, z, u 1, u 7854277750134145024, z, z, u 7870504, u 7346216, u 6821928, u 6297640, z, z, z, z, z, z, z, z, z, z, z, z, z, z, z, z, z, z, z, z, z, z, z, z, z, z, z, z, z, z, z, z, z, z, z, z, z, z, z, z, z, z, z, z, z, z, z, z, z, z, z, z, z, z, z, z, z, z, z, z, z, z, z, z, z, z, z, z, z, z, z, z, u 7234017283807667300, u 7234017283807667300, u 7234017283807667300, z, z, z, z, z, u 7161677110969590627, u 7161677110969590627, u 7161677110969590627, z, z, z, z, z, u 7089336938131513954, u 7089336938131513954, u 7089336938131513954, z, z, z, z, z, u 7016996765293437281, u 7016996765293437281, u 7016996765293437281, z, z, z, z, z, z, z, z, z, z, z, z, z, u 1, u 4, z, u 96, u 1, u 7854277750134145024, z, z, z, z, z, z, u 7870504, u 7346216, u 6821928, u 6297640, z, z, z, z, z, z, z, z, z, z, z, z, z, z, z, z, z, z, z, z, z, z, z, z, z, z, z, z, z, z, z, z, z, z, z, z, z, z, z, z, z, z, z, z, z, z, z, z, z, z, z, z, z, z, z, z, z, z, z, z, z, z, z, z, z, z, z, z, z, z, z, z, u 8102099357864587376, u 8102099357864587376, u 8102099357864587376, z, z, z, z, z, u 8029759185026510703, u 8029759185026510703, u 8029759185026510703, z, z, z, z, z, u 7957419012188434030, u 7957419012188434030, u 7957419012188434030, z, z, z, z, z, u 7885078839350357357, u 7885078839350357357, u 7885078839350357357, z, z, z, z, z] 3, i 1, i 0]
def o0 : Mo := [MB.b0, MB.b1, MB.b2, MB.b3, MB.b4, MB.b8, MB.b9, MB.b10, MB.b8, MB.b11, MB.b10, MB.b8, MB.b12, MB.b10, MB.b8, MB.b13, MB.b10, MB.b8, MB.b14, MB.b10, MB.b8, MB.b15, MB.b10, MB.b8, MB.b16, MB.b10, MB.b8, MB.b17, MB.b10]
def s0 : Ms := [[MB.b5, MB.b6, MB.b7, MB.b22, MB.b23, MB.b24]]
def rr : AV := .ref 0 33 0
def o1 : Mo := [MB.b0, MB.b1, MB.b2, MB.b3, MB.b4, MB.b8, MB.b9, MB.b10, MB.b8, MB.b11, MB.b10, MB.b8, MB.b12, MB.b10, MB.b8, MB.b13, MB.b10, MB.b8, MB.b14, MB.b10, MB.b8, MB.b15, MB.b10, MB.b8, MB.b16, MB.b10, MB.b8, MB.b17, MB.b10, MB.b0, MB.b18, MB.b19, MB.b20, MB.b21]
def s1 : Ms := [[MB.b5, MB.b6, MB.b7, MB.b22, MB.b23, MB.b24]]
theorem run (k : KV) : fden cfgS noFp 1000000 15 a0 o0 s0 k = k rr o1 s1 := by kernel_rfl
end Fa2
end Den

/- What one call comes to, reckoned out. -/
namespace Den
open Go Go.Proofs
set_option maxRecDepth 1000000
namespace Fa3
def on (k : Nat) (a b c d : Int) : ABlk := .arr [.ref 0 k 0, .int .i64 a, .int .i64 b, .int .u64 c, .int .u64 d]
def z : AV := .int .u64 0
def u (n : Int) : AV := .int .u64 n
def i (n : Int) : AV := .int .i64 n
def a0 : List AV := [.isl [z, z, z, z, z, z, z, z, u 2, u 2, z, u 125, z, z, z, z, z, z, z, z, u 8323080, u 8192264, z, z, z, z, z, z, z, z, z, z, z, z, z, z, z, z, z, z, z, z, z, z, z, z, z, z, z, z, z, z, z, z, z, z, z, z, z, z, z, z, z, z, z, z, z, z, z, z, z, z, z, z, z, z, z, z, z, z, z, z, z, z, z, z, z, z, z, z, z, z, z, z, z, z, z, z, z, z, z, z, z, z, z, z, z, z, z, z, z, z, z, z, z, z, z, z, z, z, z, z, z, z, z, u 7854277750134145024, u 3, u 2, z, z, z, z, z, z, z, z, u 1, u 4, u 3, u 96, z, z, z, z, u 1, u 7854277750134145024, z, z, u 7870504, u 7346216, u 6821928, u 6297640, z, z, z, z, z, z, z, z, z, z, z, z, z, z, z, z, z, z, z, z, z, z, z, z, z, z, z, z, z, z, z, z, z, z, z, z, z, z, z, z, z, z, z, z, z, z, z, z, z, z, z, z, z, z, z, z, z, z, z, z, z, z, z, z, z, z, z, z, z, z, z, z, u 7234017283807667300, u 7234017283807667300, u 7234017283807667300, z, z, z, z, z, u 7161677110969590627, u 7161677110969590627, u 7161677110969590627, z, z, z, z, z, u 7089336938131513954, u 7089336938131513954, u 7089336938131513954, z, z, z, z, z, u 7016996765293437281, u 7016996765293437281, u 7016996765293437281, z, z, z, z, z, z, z, z, z, z, z, z, z, u 1, u 3, z, u 104, u 1, u 7854277750134145024, z, z, z, z, z, z, u 7870504, u 7346216, u 6821928, z, z, z, z, z, z, z, z, z, z, z, z, z, z, z, z, z, z, z, z, z, z, z, z, z, z, z, z, z, z, z, z, z, z, z, z, z, z, z, z, z, z, z, z, z, z, z, z, z, z, z, z, z, z, z, z, z, z, z, z, z, z, z, z, z, z, z, z, z, z, z, z, z, z, z, z, z, z, z, z, z, u 8029759185026510703, u 8029759185026510703, u 8029759185026510703, z, z, z, z, z, u 7957419012188434030, u 7957419012188434030, u 7957419012188434030, z, z, z, z, z, u 7885078839350357357, u 7885078839350357357, u 7885078839350357357, z, z, z, z, z] 3, i 1, i 0]
def o0 : Mo := [MB.b0, MB.b1, MB.b2, MB.b3, MB.b4, MB.b8, MB.b9, MB.b10, MB.b8, MB.b11, MB.b10, MB.b8, MB.b12, MB.b10, MB.b8, MB.b13, MB.b10, MB.b8, MB.b14, MB.b10, MB.b8, MB.b15, MB.b10, MB.b8, MB.b16, MB.b10, MB.b8, MB.b17, MB.b10, MB.b0, MB.b18, MB.b19, MB.b20, MB.b21, MB.b2, MB.b25, MB.b26, MB.b2, MB.b27, MB.b28, MB.b2, MB.b29, MB.b30]
def s0 : Ms := [[MB.b5, MB.b6, MB.b7, MB.b22, MB.b23, MB.b24]]
def rr : AV := .ref 0 47 0
def o1 : Mo := [MB.b0, MB.b1, MB.b2, MB.b3, MB.b4, MB.b8, MB.b9, MB.b10, MB.b8, MB.b11, MB.b10, MB.b8, MB.b12, MB.b10, MB.b8, MB.b13, MB.b10, MB.b8, MB.b14, MB.b10, MB.b8, MB.b15, MB.b10, MB.b8, MB.b16, MB.b10, MB.b8, MB.b17, MB.b10, MB.b0, MB.b18, MB.b19, MB.b20, MB.b21, MB.b2, MB.b25, MB.b26, MB.b2, MB.b27, MB.b28, MB.b2, MB.b29, MB.b30, MB.b0, MB.b31, MB.b32, MB.b33, MB.b34]
def s1 : Ms := [[MB.b5, MB.b6, MB.b7, MB.b22, MB.b23, MB.b24]]
theorem run (k : KV) : fden cfgS noFp 1000000 15 a0 o0 s0 k = k rr o1 s1 := by kernel_rfl
end Fa3
end Den
