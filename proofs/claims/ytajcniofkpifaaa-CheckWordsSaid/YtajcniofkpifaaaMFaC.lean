/- What one call comes to, reckoned out. -/
import Derived.Test.YtajcniofkpifaaaSlotR
import Derived.Test.YtajcniofkpifaaaMB
namespace Den
open Go Go.Proofs
set_option maxRecDepth 1000000
namespace Fa7
def on (k : Nat) (a b c d : Int) : ABlk := .arr [.ref 0 k 0, .int .i64 a, .int .i64 b, .int .u64 c, .int .u64 d]
def z : AV := .int .u64 0
def u (n : Int) : AV := .int .u64 n
def i (n : Int) : AV := .int .i64 n
def a0 : List AV := [.ref 0 39 0, .isl [i 2, i 3, i 1, i 8, i 3, i 8] 3]
def o0 : Mo := [MB.b0, MB.b1, MB.b2, MB.b3, MB.b4, MB.b8, MB.b9, MB.b10, MB.b8, MB.b11, MB.b10, MB.b8, MB.b12, MB.b10, MB.b8, MB.b13, MB.b10, MB.b8, MB.b14, MB.b10, MB.b8, MB.b15, MB.b10, MB.b8, MB.b16, MB.b10, MB.b8, MB.b17, MB.b10, MB.b0, MB.b18, MB.b19, MB.b20, MB.b21, MB.b39, MB.b25, MB.b26, MB.b40, MB.b27, MB.b28, MB.b41, MB.b29, MB.b30, MB.b0, MB.b31, MB.b32, MB.b33, MB.b34, MB.b0, MB.b35, MB.b36, MB.b37, MB.b38, MB.b8, MB.b42, MB.b43, MB.b8, MB.b44, MB.b43, MB.b8, MB.b45, MB.b43, MB.b8, MB.b46, MB.b43, MB.b8, MB.b47, MB.b43, MB.b48, MB.b49, MB.b50, MB.b48, MB.b51, MB.b50, MB.b48, MB.b52, MB.b50, MB.b48, MB.b53, MB.b50, MB.b48, MB.b54, MB.b50]
def s0 : Ms := [[MB.b5, MB.b6, MB.b7, MB.b22, MB.b23, MB.b24]]
def rr : AV := .bool true
def o1 : Mo := [MB.b0, MB.b1, MB.b2, MB.b3, MB.b4, MB.b8, MB.b9, MB.b10, MB.b8, MB.b11, MB.b10, MB.b8, MB.b12, MB.b10, MB.b8, MB.b13, MB.b10, MB.b8, MB.b14, MB.b10, MB.b8, MB.b15, MB.b10, MB.b8, MB.b16, MB.b10, MB.b8, MB.b17, MB.b10, MB.b0, MB.b18, MB.b19, MB.b20, MB.b21, MB.b39, MB.b25, MB.b26, MB.b40, MB.b27, MB.b28, MB.b41, MB.b29, MB.b30, MB.b0, MB.b31, MB.b32, MB.b33, MB.b34, MB.b0, MB.b35, MB.b36, MB.b37, MB.b38, MB.b8, MB.b42, MB.b43, MB.b8, MB.b44, MB.b43, MB.b8, MB.b45, MB.b43, MB.b8, MB.b46, MB.b43, MB.b8, MB.b47, MB.b43, MB.b48, MB.b49, MB.b50, MB.b48, MB.b51, MB.b50, MB.b48, MB.b52, MB.b50, MB.b48, MB.b53, MB.b50, MB.b48, MB.b54, MB.b50, MB.b55, MB.b56, MB.b57, MB.b55, MB.b58, MB.b57, MB.b55, MB.b59, MB.b57, MB.b55, MB.b60, MB.b57, MB.b55, MB.b61, MB.b57]
def s1 : Ms := [[MB.b5, MB.b6, MB.b7, MB.b22, MB.b23, MB.b24]]
theorem run (k : KV) : fden cfgS noFp 1000000 16 a0 o0 s0 k = k rr o1 s1 := by kernel_rfl
end Fa7
end Den

/- What one call comes to, reckoned out. -/
namespace Den
open Go Go.Proofs
set_option maxRecDepth 1000000
namespace Fa9
def on (k : Nat) (a b c d : Int) : ABlk := .arr [.ref 0 k 0, .int .i64 a, .int .i64 b, .int .u64 c, .int .u64 d]
def z : AV := .int .u64 0
def u (n : Int) : AV := .int .u64 n
def i (n : Int) : AV := .int .i64 n
def a0 : List AV := [.ref 0 47 0, .isl [i 3, i 6] 1]
def o0 : Mo := [MB.b0, MB.b1, MB.b2, MB.b3, MB.b4, MB.b8, MB.b9, MB.b10, MB.b8, MB.b11, MB.b10, MB.b8, MB.b12, MB.b10, MB.b8, MB.b13, MB.b10, MB.b8, MB.b14, MB.b10, MB.b8, MB.b15, MB.b10, MB.b8, MB.b16, MB.b10, MB.b8, MB.b17, MB.b10, MB.b0, MB.b18, MB.b19, MB.b20, MB.b21, MB.b39, MB.b25, MB.b26, MB.b40, MB.b27, MB.b28, MB.b41, MB.b29, MB.b30, MB.b0, MB.b31, MB.b32, MB.b33, MB.b34, MB.b0, MB.b35, MB.b36, MB.b37, MB.b38, MB.b8, MB.b42, MB.b43, MB.b8, MB.b44, MB.b43, MB.b8, MB.b45, MB.b43, MB.b8, MB.b46, MB.b43, MB.b8, MB.b47, MB.b43, MB.b48, MB.b49, MB.b50, MB.b48, MB.b51, MB.b50, MB.b48, MB.b52, MB.b50, MB.b48, MB.b53, MB.b50, MB.b48, MB.b54, MB.b50, MB.b55, MB.b56, MB.b57, MB.b55, MB.b58, MB.b57, MB.b55, MB.b59, MB.b57, MB.b55, MB.b60, MB.b57, MB.b55, MB.b61, MB.b57, MB.b62, MB.b63, MB.b64, MB.b62, MB.b65, MB.b64, MB.b62, MB.b66, MB.b64, MB.b62, MB.b67, MB.b64, MB.b62, MB.b68, MB.b64]
def s0 : Ms := [[MB.b5, MB.b6, MB.b7, MB.b22, MB.b23, MB.b24]]
def rr : AV := .bool true
def o1 : Mo := [MB.b0, MB.b1, MB.b2, MB.b3, MB.b4, MB.b8, MB.b9, MB.b10, MB.b8, MB.b11, MB.b10, MB.b8, MB.b12, MB.b10, MB.b8, MB.b13, MB.b10, MB.b8, MB.b14, MB.b10, MB.b8, MB.b15, MB.b10, MB.b8, MB.b16, MB.b10, MB.b8, MB.b17, MB.b10, MB.b0, MB.b18, MB.b19, MB.b20, MB.b21, MB.b39, MB.b25, MB.b26, MB.b40, MB.b27, MB.b28, MB.b41, MB.b29, MB.b30, MB.b0, MB.b31, MB.b32, MB.b33, MB.b34, MB.b0, MB.b35, MB.b36, MB.b37, MB.b38, MB.b8, MB.b42, MB.b43, MB.b8, MB.b44, MB.b43, MB.b8, MB.b45, MB.b43, MB.b8, MB.b46, MB.b43, MB.b8, MB.b47, MB.b43, MB.b48, MB.b49, MB.b50, MB.b48, MB.b51, MB.b50, MB.b48, MB.b52, MB.b50, MB.b48, MB.b53, MB.b50, MB.b48, MB.b54, MB.b50, MB.b55, MB.b56, MB.b57, MB.b55, MB.b58, MB.b57, MB.b55, MB.b59, MB.b57, MB.b55, MB.b60, MB.b57, MB.b55, MB.b61, MB.b57, MB.b62, MB.b63, MB.b64, MB.b62, MB.b65, MB.b64, MB.b62, MB.b66, MB.b64, MB.b62, MB.b67, MB.b64, MB.b62, MB.b68, MB.b64, MB.b8, MB.b69, MB.b70, MB.b8, MB.b71, MB.b70, MB.b8, MB.b72, MB.b70, MB.b8, MB.b73, MB.b70, MB.b8, MB.b74, MB.b70]
def s1 : Ms := [[MB.b5, MB.b6, MB.b7, MB.b22, MB.b23, MB.b24]]
theorem run (k : KV) : fden cfgS noFp 1000000 16 a0 o0 s0 k = k rr o1 s1 := by kernel_rfl
end Fa9
end Den

/- What one call comes to, reckoned out. -/
namespace Den
open Go Go.Proofs
set_option maxRecDepth 1000000
namespace Fa10
def on (k : Nat) (a b c d : Int) : ABlk := .arr [.ref 0 k 0, .int .i64 a, .int .i64 b, .int .u64 c, .int .u64 d]
def z : AV := .int .u64 0
def u (n : Int) : AV := .int .u64 n
def i (n : Int) : AV := .int .i64 n
def a0 : List AV := [.ref 0 52 0, .isl [i 3, i 3, i 3, i 7, i 2, i 8] 3]
def o0 : Mo := [MB.b0, MB.b1, MB.b2, MB.b3, MB.b4, MB.b8, MB.b9, MB.b10, MB.b8, MB.b11, MB.b10, MB.b8, MB.b12, MB.b10, MB.b8, MB.b13, MB.b10, MB.b8, MB.b14, MB.b10, MB.b8, MB.b15, MB.b10, MB.b8, MB.b16, MB.b10, MB.b8, MB.b17, MB.b10, MB.b0, MB.b18, MB.b19, MB.b20, MB.b21, MB.b39, MB.b25, MB.b26, MB.b40, MB.b27, MB.b28, MB.b41, MB.b29, MB.b30, MB.b0, MB.b31, MB.b32, MB.b33, MB.b34, MB.b0, MB.b35, MB.b36, MB.b37, MB.b38, MB.b8, MB.b42, MB.b43, MB.b8, MB.b44, MB.b43, MB.b8, MB.b45, MB.b43, MB.b8, MB.b46, MB.b43, MB.b8, MB.b47, MB.b43, MB.b48, MB.b49, MB.b50, MB.b48, MB.b51, MB.b50, MB.b48, MB.b52, MB.b50, MB.b48, MB.b53, MB.b50, MB.b48, MB.b54, MB.b50, MB.b55, MB.b56, MB.b57, MB.b55, MB.b58, MB.b57, MB.b55, MB.b59, MB.b57, MB.b55, MB.b60, MB.b57, MB.b55, MB.b61, MB.b57, MB.b62, MB.b63, MB.b64, MB.b62, MB.b65, MB.b64, MB.b62, MB.b66, MB.b64, MB.b62, MB.b67, MB.b64, MB.b62, MB.b68, MB.b64, MB.b8, MB.b69, MB.b70, MB.b8, MB.b71, MB.b70, MB.b8, MB.b72, MB.b70, MB.b8, MB.b73, MB.b70, MB.b8, MB.b74, MB.b70]
def s0 : Ms := [[MB.b5, MB.b6, MB.b7, MB.b22, MB.b23, MB.b24]]
def rr : AV := .bool true
def o1 : Mo := [MB.b0, MB.b1, MB.b2, MB.b3, MB.b4, MB.b8, MB.b9, MB.b10, MB.b8, MB.b11, MB.b10, MB.b8, MB.b12, MB.b10, MB.b8, MB.b13, MB.b10, MB.b8, MB.b14, MB.b10, MB.b8, MB.b15, MB.b10, MB.b8, MB.b16, MB.b10, MB.b8, MB.b17, MB.b10, MB.b0, MB.b18, MB.b19, MB.b20, MB.b21, MB.b39, MB.b25, MB.b26, MB.b40, MB.b27, MB.b28, MB.b41, MB.b29, MB.b30, MB.b0, MB.b31, MB.b32, MB.b33, MB.b34, MB.b0, MB.b35, MB.b36, MB.b37, MB.b38, MB.b8, MB.b42, MB.b43, MB.b8, MB.b44, MB.b43, MB.b8, MB.b45, MB.b43, MB.b8, MB.b46, MB.b43, MB.b8, MB.b47, MB.b43, MB.b48, MB.b49, MB.b50, MB.b48, MB.b51, MB.b50, MB.b48, MB.b52, MB.b50, MB.b48, MB.b53, MB.b50, MB.b48, MB.b54, MB.b50, MB.b55, MB.b56, MB.b57, MB.b55, MB.b58, MB.b57, MB.b55, MB.b59, MB.b57, MB.b55, MB.b60, MB.b57, MB.b55, MB.b61, MB.b57, MB.b62, MB.b63, MB.b64, MB.b62, MB.b65, MB.b64, MB.b62, MB.b66, MB.b64, MB.b62, MB.b67, MB.b64, MB.b62, MB.b68, MB.b64, MB.b8, MB.b69, MB.b70, MB.b8, MB.b71, MB.b70, MB.b8, MB.b72, MB.b70, MB.b8, MB.b73, MB.b70, MB.b8, MB.b74, MB.b70, MB.b75, MB.b76, MB.b77, MB.b75, MB.b78, MB.b77, MB.b75, MB.b79, MB.b77, MB.b75, MB.b80, MB.b77, MB.b75, MB.b81, MB.b77]
def s1 : Ms := [[MB.b5, MB.b6, MB.b7, MB.b22, MB.b23, MB.b24]]
theorem run (k : KV) : fden cfgS noFp 1000000 16 a0 o0 s0 k = k rr o1 s1 := by kernel_rfl
end Fa10
end Den
