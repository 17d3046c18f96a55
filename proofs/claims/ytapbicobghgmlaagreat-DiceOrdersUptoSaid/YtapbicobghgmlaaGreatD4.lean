import Derived.Test.YtapbicobghgmlaaGreatD3
namespace Go.Sx
open Go.RowKit
set_option linter.unusedVariables false
set_option linter.unusedSimpArgs false
/-! ### skips -/
section
variable (at_ n : UInt64) (m : Nat) (hm : at_.toNat = 8 * m) (hl : m < 34359738368) (hn : m + n.toNat ≤ 34359738368)
include hm
end
section
variable (R : List UInt8) (hR : R.length = 64) (d : Int) (blk nk : List UInt8) (last : Bool) (wr : UInt64) (h : Vec UInt64 8) (lo hi : UInt64) (held : List UInt8)
  (hn : m_node_Node_Out 1 d blk nk last wr h lo hi held 128 64 = some (R, 0, h, lo, hi, held, 128, 1, d, blk, nk, last, wr))
  (seed key : List UInt8) (at_ : UInt64) (now : Vec UInt8 64) (hv : Int)
variable (n : UInt64) (m : Nat) (hm : at_.toNat = 8 * m) (hl : m < 34359738368) (hk : m + n.toNat ≤ 34359738368)
include hm hl hk in
end
end Go.Sx

