/- What one call comes to, reckoned out. -/
import Derived.Test.YtajcniofkpifaaaMFa
import Derived.Test.YtajcniofkpifaaaMB
namespace Den
open Go Go.Proofs
set_option maxRecDepth 1000000
namespace Fb2
def on (k : Nat) (a b c d : Int) : ABlk := .arr [.ref 0 k 0, .int .i64 a, .int .i64 b, .int .u64 c, .int .u64 d]
def z : AV := .int .u64 0
def u (n : Int) : AV := .int .u64 n
def i (n : Int) : AV := .int .i64 n
def a0 : List AV := [.ref 0 4 0]
def o0 : Mo := [MB.b0, MB.b1, MB.b2, MB.b3, MB.b4, MB.b8, MB.b9, MB.b10, MB.b8, MB.b11, MB.b10, MB.b8, MB.b12, MB.b10, MB.b8, MB.b13, MB.b10, MB.b8, MB.b14, MB.b10]
def s0 : Ms := [[MB.b5, MB.b6, MB.b7]]
def rr : AV := .bool true
def o1 : Mo := [MB.b0, MB.b1, MB.b2, MB.b3, MB.b4, MB.b8, MB.b9, MB.b10, MB.b8, MB.b11, MB.b10, MB.b8, MB.b12, MB.b10, MB.b8, MB.b13, MB.b10, MB.b8, MB.b14, MB.b10, MB.b8, MB.b15, MB.b10]
def s1 : Ms := [[MB.b5, MB.b6, MB.b7]]
theorem run (k : KV) : fden Fa.cfg noFp 1000000 11 a0 o0 s0 k = k rr o1 s1 := by kernel_rfl
end Fb2
end Den

/- What one call comes to, reckoned out. -/
namespace Den
open Go Go.Proofs
set_option maxRecDepth 1000000
namespace Fb3
def on (k : Nat) (a b c d : Int) : ABlk := .arr [.ref 0 k 0, .int .i64 a, .int .i64 b, .int .u64 c, .int .u64 d]
def z : AV := .int .u64 0
def u (n : Int) : AV := .int .u64 n
def i (n : Int) : AV := .int .i64 n
def a0 : List AV := [.ref 0 4 0]
def o0 : Mo := [MB.b0, MB.b1, MB.b2, MB.b3, MB.b4, MB.b8, MB.b9, MB.b10, MB.b8, MB.b11, MB.b10, MB.b8, MB.b12, MB.b10, MB.b8, MB.b13, MB.b10, MB.b8, MB.b14, MB.b10, MB.b8, MB.b15, MB.b10]
def s0 : Ms := [[MB.b5, MB.b6, MB.b7]]
def rr : AV := .tup [.isl [.str [97, 97, 97, 97, 97, 97, 97, 97, 97, 97, 97, 97, 97, 97, 97, 97, 97, 97, 97, 97, 97, 97, 97, 97], .str [0, 0, 0, 0, 0, 0, 0, 0, 0, 0, 0, 0, 0, 0, 0, 0, 0, 0, 0, 0, 0, 0, 0, 0, 0, 0, 0, 0, 0, 0, 0, 0, 0, 0, 0, 0, 0, 0, 0, 0], .str [98, 98, 98, 98, 98, 98, 98, 98, 98, 98, 98, 98, 98, 98, 98, 98, 98, 98, 98, 98, 98, 98, 98, 98], .str [0, 0, 0, 0, 0, 0, 0, 0, 0, 0, 0, 0, 0, 0, 0, 0, 0, 0, 0, 0, 0, 0, 0, 0, 0, 0, 0, 0, 0, 0, 0, 0, 0, 0, 0, 0, 0, 0, 0, 0], .str [99, 99, 99, 99, 99, 99, 99, 99, 99, 99, 99, 99, 99, 99, 99, 99, 99, 99, 99, 99, 99, 99, 99, 99], .str [0, 0, 0, 0, 0, 0, 0, 0, 0, 0, 0, 0, 0, 0, 0, 0, 0, 0, 0, 0, 0, 0, 0, 0, 0, 0, 0, 0, 0, 0, 0, 0, 0, 0, 0, 0, 0, 0, 0, 0], .str [100, 100, 100, 100, 100, 100, 100, 100, 100, 100, 100, 100, 100, 100, 100, 100, 100, 100, 100, 100, 100, 100, 100, 100], .str [0, 0, 0, 0, 0, 0, 0, 0, 0, 0, 0, 0, 0, 0, 0, 0, 0, 0, 0, 0, 0, 0, 0, 0, 0, 0, 0, 0, 0, 0, 0, 0, 0, 0, 0, 0, 0, 0, 0, 0], .str [109, 109, 109, 109, 109, 109, 109, 109, 109, 109, 109, 109, 109, 109, 109, 109, 109, 109, 109, 109, 109, 109, 109, 109], .str [0, 0, 0, 0, 0, 0, 0, 0, 0, 0, 0, 0, 0, 0, 0, 0, 0, 0, 0, 0, 0, 0, 0, 0, 0, 0, 0, 0, 0, 0, 0, 0, 0, 0, 0, 0, 0, 0, 0, 0], .str [110, 110, 110, 110, 110, 110, 110, 110, 110, 110, 110, 110, 110, 110, 110, 110, 110, 110, 110, 110, 110, 110, 110, 110], .str [0, 0, 0, 0, 0, 0, 0, 0, 0, 0, 0, 0, 0, 0, 0, 0, 0, 0, 0, 0, 0, 0, 0, 0, 0, 0, 0, 0, 0, 0, 0, 0, 0, 0, 0, 0, 0, 0, 0, 0], .str [111, 111, 111, 111, 111, 111, 111, 111, 111, 111, 111, 111, 111, 111, 111, 111, 111, 111, 111, 111, 111, 111, 111, 111], .str [0, 0, 0, 0, 0, 0, 0, 0, 0, 0, 0, 0, 0, 0, 0, 0, 0, 0, 0, 0, 0, 0, 0, 0, 0, 0, 0, 0, 0, 0, 0, 0, 0, 0, 0, 0, 0, 0, 0, 0], .str [112, 112, 112, 112, 112, 112, 112, 112, 112, 112, 112, 112, 112, 112, 112, 112, 112, 112, 112, 112, 112, 112, 112, 112], .str [0, 0, 0, 0, 0, 0, 0, 0, 0, 0, 0, 0, 0, 0, 0, 0, 0, 0, 0, 0, 0, 0, 0, 0, 0, 0, 0, 0, 0, 0, 0, 0, 0, 0, 0, 0, 0, 0, 0, 0]] 8, i 0]
def o1 : Mo := [MB.b0, MB.b1, MB.b2, MB.b3, MB.b4, MB.b8, MB.b9, MB.b10, MB.b8, MB.b11, MB.b10, MB.b8, MB.b12, MB.b10, MB.b8, MB.b13, MB.b10, MB.b8, MB.b14, MB.b10, MB.b8, MB.b15, MB.b10, MB.b8, MB.b16, MB.b10, MB.b8, MB.b17, MB.b10]
def s1 : Ms := [[MB.b5, MB.b6, MB.b7]]
theorem run (k : KV) : fden Fa.cfg noFp 1000000 10 a0 o0 s0 k = k rr o1 s1 := by kernel_rfl
end Fb3
end Den
