/- The length of a number in bits. -/
import Derived.Test.YtlobmpkfdnifpaaBits
namespace Go.Gh
open Go Go.Proofs Go.RowKit
def len8 (x : Nat) : Nat := if x = 0 then 0 else Nat.log2 x + 1
end Go.Gh
