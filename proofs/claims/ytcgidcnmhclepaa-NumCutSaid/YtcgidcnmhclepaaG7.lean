/- The laws of num, as the rows ask for them. No condition. -/
import Derived.Test.YtcgidcnmhclepaaLnk
import Derived.Test.YtcgidcnmhclepaaG6
import Derived.Test.YtcgidcnmhclepaaG8
import Derived.Test.YtcgidcnmhclepaaG9
import Derived.Test.YtcgidcnmhclepaaG10
namespace Go.Proofs.Ytcgidcnmhclepaa
open Go.Sx Go.RowKit
theorem numAny_w (nl : Bool) (f : Nat → Int) (n : Nat) (w : ∀ j, j < n → wfN .u8 (f j)) : FCalls Try.prog 5 [.sc (.im nl .u8 f n)] [] 0 isTrue := numAny_law nl f n fun j hj => wf_u8 (w j hj)
theorem numLong_w (n : Int) (w0 : wfN .i64 n) (l : Int) (w1 : wfN .u8 l) (f : Int) (w2 : wfN .u8 f) : FCalls Try.prog 6 [.sc (.int .i64 n), .sc (.int .u8 l), .sc (.int .u8 f)] [] 0 isTrue :=
  numLong_law n l f (wf_i64 w0) (wf_u8 w1) (wf_u8 w2)
theorem numMany_w (nl : Bool) (f : Nat → Int) (n : Nat) (w : ∀ j, j < n → wfN .i64 (f j)) : FCalls Try.prog 7 [.sc (.im nl .i64 f n)] [] 0 isTrue := numMany_law nl f n fun j hj => wf_i64 (w j hj)
theorem numCut_w (n : Int) (w0 : wfN .i64 n) (s : ByteArray) (cut : Int) (w2 : wfN .i64 cut) : FCalls Try.prog 8 [.sc (.int .i64 n), .sc (.str s), .sc (.int .i64 cut)] [] 0 isTrue := numCut_law n s cut (wf_i64 w0) (wf_i64 w2)
theorem numOrder_w (a : Int) (w0 : wfN .i64 a) (b : Int) (w1 : wfN .i64 b) : FCalls Try.prog 9 [.sc (.int .i64 a), .sc (.int .i64 b)] [] 0 isTrue := numOrder_law a b (wf_i64 w0) (wf_i64 w1)
theorem numBack_w (nl0 : Bool) (f0 : Nat → Int) (n0 : Nat) (w0 : ∀ j, j < n0 → wfN .u8 (f0 j)) (nl1 : Bool) (f1 : Nat → Int) (n1 : Nat) (w1 : ∀ j, j < n1 → wfN .u8 (f1 j)) (n : Int) (w2 : wfN .i64 n) (s : ByteArray) (u : Int) (w4 : wfN .u32 u) :
    FCalls Try.prog 4 [.sc (.im nl0 .u8 f0 n0), .sc (.im nl1 .u8 f1 n1), .sc (.int .i64 n), .sc (.str s), .sc (.int .u32 u)] [] 0 isTrue :=
  numBack_law nl0 f0 n0 nl1 f1 n1 n s u (fun j hj => wf_u8 (w0 j hj)) (fun j hj => wf_u8 (w1 j hj)) (wf_i64 w2) (wf_u32 w4)
end Go.Proofs.Ytcgidcnmhclepaa
