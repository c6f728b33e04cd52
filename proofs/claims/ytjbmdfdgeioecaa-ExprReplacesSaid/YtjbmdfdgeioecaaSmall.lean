/- The documented examples. -/
import Derived.Test.YtjbmdfdgeioecaaF0
namespace Go.Proofs.Ytjbmdfdgeioecaa.X
open Go.Proofs.Ytjbmdfdgeioecaa.Am Go.Proofs.Ytjbmdfdgeioecaa.F
set_option maxRecDepth 100000
theorem small_fuel : afun PP prim TT 60 9 [] [] = some (.pv (.bool true), []) := by kernel_rfl
theorem small_ok : RR 9 [] [] = some (.pv (.bool true), []) := R_fuel 60 _ _ _ _ small_fuel
end Go.Proofs.Ytjbmdfdgeioecaa.X
