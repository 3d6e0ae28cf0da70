/- Numbers of fixed width as bit vectors: how the model's operations on integer kinds read on the casts of bit vectors. Plain lemmas, no condition. -/
import Derived.WalkKit
import Derived.KernelRfl
namespace Go.Proofs.Ytogijkmflhjhkaa
open Go.RowKit
set_option linter.unusedSimpArgs false
set_option linter.unusedVariables false

/-- A bit vector as the integer that the model keeps. -/
def U {n : Nat} (x : BitVec n) : Int := (x.toNat : Int)

theorem ofInt_toNat {n : Nat} (x : BitVec n) : BitVec.ofInt n (x.toNat : Int) = x := by
  rw [BitVec.ofInt_natCast]; simp

theorem w32_cast (n : Nat) : IntKind.u32.wrap (n : Int) = ((BitVec.ofNat 32 n).toNat : Int) := by
  rw [IntKind.wrap_u32, BitVec.toNat_ofNat]; omega
theorem w8_cast (n : Nat) : IntKind.u8.wrap (n : Int) = ((BitVec.ofNat 8 n).toNat : Int) := by
  rw [IntKind.wrap_u8, BitVec.toNat_ofNat]; omega
theorem w64_cast (n : Nat) : IntKind.u64.wrap (n : Int) = ((BitVec.ofNat 64 n).toNat : Int) := by
  simp only [IntKind.wrap, IntKind.bits, IntKind.signed, BitVec.toNat_ofNat]; simp
theorem w32_self (x : BitVec 32) : IntKind.u32.wrap (x.toNat : Int) = (x.toNat : Int) := by rw [w32_cast]; simp
theorem w32_self' (x : BitVec 32) : IntKind.u32.wrap (U x) = U x := w32_self x
theorem w8_self (x : BitVec 8) : IntKind.u8.wrap (x.toNat : Int) = (x.toNat : Int) := by rw [w8_cast]; simp
theorem w8_self' (x : BitVec 8) : IntKind.u8.wrap (U x) = U x := w8_self x
theorem w64_self (x : BitVec 64) : IntKind.u64.wrap (x.toNat : Int) = (x.toNat : Int) := by rw [w64_cast]; simp

theorem w64_self' (x : BitVec 64) : IntKind.u64.wrap (U x) = U x := w64_self x
theorem add32 (x y : BitVec 32) : IntKind.u32.wrap (U x + U y) = U (x + y) := by
  unfold U
  rw [← Int.natCast_add, w32_cast, BitVec.ofNat_add]; simp
theorem add64 (x y : BitVec 64) : IntKind.u64.wrap (U x + U y) = U (x + y) := by
  unfold U
  rw [← Int.natCast_add, w64_cast, BitVec.ofNat_add]; simp
theorem xor32 (x y : BitVec 32) : bits .xor .u32 (U x) (U y) = U (x ^^^ y) := by
  unfold U
  show IntKind.u32.wrap ((BitVec.ofInt 32 _ ^^^ BitVec.ofInt 32 _).toNat : Int) = _
  rw [ofInt_toNat, ofInt_toNat, w32_self]
theorem or32 (x y : BitVec 32) : bits .or .u32 (U x) (U y) = U (x ||| y) := by
  unfold U
  show IntKind.u32.wrap ((BitVec.ofInt 32 _ ||| BitVec.ofInt 32 _).toNat : Int) = _
  rw [ofInt_toNat, ofInt_toNat, w32_self]
theorem and32 (x y : BitVec 32) : bits .and .u32 (U x) (U y) = U (x &&& y) := by
  unfold U
  show IntKind.u32.wrap ((BitVec.ofInt 32 _ &&& BitVec.ofInt 32 _).toNat : Int) = _
  rw [ofInt_toNat, ofInt_toNat, w32_self]
theorem not32 (x : BitVec 32) : bits .xor .u32 IntKind.u32.max (U x) = U (~~~x) := by
  unfold U
  show IntKind.u32.wrap ((BitVec.ofInt 32 _ ^^^ BitVec.ofInt 32 _).toNat : Int) = _
  rw [ofInt_toNat, w32_self, show BitVec.ofInt 32 IntKind.u32.max = BitVec.allOnes 32 by decide, BitVec.allOnes_xor]
theorem shl32 (x : BitVec 32) (s : Nat) : IntKind.u32.wrap (U x * 2 ^ s) = U (x <<< s) := by
  unfold U
  rw [show ((x.toNat : Int) * 2 ^ s) = ((x.toNat * 2 ^ s : Nat) : Int) by simp, w32_cast]
  rw [BitVec.toNat_shiftLeft, BitVec.toNat_ofNat, Nat.shiftLeft_eq]
theorem shr32 (x : BitVec 32) (s : Nat) : U x / 2 ^ s = U (x >>> s) := by
  unfold U
  rw [BitVec.toNat_ushiftRight, Nat.shiftRight_eq_div_pow]; simp
theorem byte32 (x : BitVec 32) : IntKind.u8.wrap (U x) = U (x.setWidth 8) := by
  unfold U
  rw [w8_cast, BitVec.toNat_setWidth, BitVec.toNat_ofNat]
theorem byte64 (x : BitVec 64) : IntKind.u8.wrap (U x) = U (x.setWidth 8) := by
  unfold U
  rw [w8_cast, BitVec.toNat_setWidth, BitVec.toNat_ofNat]
theorem wide32 (x : BitVec 8) : IntKind.u32.wrap (U x) = U (x.setWidth 32) := by
  unfold U
  rw [w32_cast, BitVec.toNat_setWidth, BitVec.toNat_ofNat]
theorem wide64 (x : BitVec 8) : IntKind.u64.wrap (U x) = U (x.setWidth 64) := by
  unfold U
  rw [w64_cast, BitVec.toNat_setWidth, BitVec.toNat_ofNat]
theorem wide64' (x : BitVec 32) : IntKind.u64.wrap (U x) = U (x.setWidth 64) := by
  unfold U
  rw [w64_cast, BitVec.toNat_setWidth, BitVec.toNat_ofNat]
theorem xor8 (x y : BitVec 8) : bits .xor .u8 (U x) (U y) = U (x ^^^ y) := by
  unfold U
  show IntKind.u8.wrap ((BitVec.ofInt 8 _ ^^^ BitVec.ofInt 8 _).toNat : Int) = _
  rw [ofInt_toNat, ofInt_toNat, w8_self]
theorem or8 (x y : BitVec 8) : bits .or .u8 (U x) (U y) = U (x ||| y) := by
  unfold U
  show IntKind.u8.wrap ((BitVec.ofInt 8 _ ||| BitVec.ofInt 8 _).toNat : Int) = _
  rw [ofInt_toNat, ofInt_toNat, w8_self]


/-! shifts by constants, as the walk reckons them -/
theorem shl32_8 (x : BitVec 32) : IntKind.u32.wrap (U x * 256) = U (x <<< 8) := shl32 x 8
theorem shl32_16 (x : BitVec 32) : IntKind.u32.wrap (U x * 65536) = U (x <<< 16) := shl32 x 16
theorem shl32_24 (x : BitVec 32) : IntKind.u32.wrap (U x * 16777216) = U (x <<< 24) := shl32 x 24
theorem shl32_12 (x : BitVec 32) : IntKind.u32.wrap (U x * 4096) = U (x <<< 12) := shl32 x 12
theorem shl32_7 (x : BitVec 32) : IntKind.u32.wrap (U x * 128) = U (x <<< 7) := shl32 x 7
theorem shl32_20 (x : BitVec 32) : IntKind.u32.wrap (U x * 1048576) = U (x <<< 20) := shl32 x 20
theorem shl32_25 (x : BitVec 32) : IntKind.u32.wrap (U x * 33554432) = U (x <<< 25) := shl32 x 25
theorem shr32_3 (x : BitVec 32) : U x / (8 : Int) = U (x >>> 3) := shr32 x 3
theorem shr32_10 (x : BitVec 32) : U x / (1024 : Int) = U (x >>> 10) := shr32 x 10
theorem shr32_8 (x : BitVec 32) : U x / (256 : Int) = U (x >>> 8) := shr32 x 8
theorem shr32_16 (x : BitVec 32) : U x / (65536 : Int) = U (x >>> 16) := shr32 x 16
theorem shr32_24 (x : BitVec 32) : U x / (16777216 : Int) = U (x >>> 24) := shr32 x 24

/-- A rotation, by the amount that RotateLeft32 reckons. -/
def rotl (x : BitVec 32) (s : Nat) : BitVec 32 := x <<< s ||| x >>> (32 - s)

end Go.Proofs.Ytogijkmflhjhkaa
