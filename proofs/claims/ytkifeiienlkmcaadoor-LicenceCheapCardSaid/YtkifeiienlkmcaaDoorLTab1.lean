/-
  Closed calls: printed by a program.
-/
import Derived.Test.YtkifeiienlkmcaaDoorLTab0
set_option linter.all false
namespace Go.Proofs.Tryd
open Go Go.Proofs.AM
theorem e0 : TabOk Tryd.prog (envT fns G []) 76 [] [] [townV, i (95), .lst (some true) true 0 []] (.agg [i (0), .lst (some true) true 0 []]) := tab_one base tab_nil (m := 60) (l := 0) (by kernel_rfl) (by kernel_rfl) (by kernel_rfl)
theorem e1 : TabOk Tryd.prog (envT fns G []) 76 [] [] [townV, i (95), .lst (some false) false 1 [i (101)]] (.agg [i (0), .lst (some true) true 0 []]) := tab_one base tab_nil (m := 60) (l := 0) (by kernel_rfl) (by kernel_rfl) (by kernel_rfl)
theorem e2 : TabOk Tryd.prog (envT fns G []) 76 [] [] [townV, i (95), .lst (some false) false 1 [i (108)]] (.agg [i (5), .lst (some false) true 1 [i (0), i (108)]]) := tab_one base tab_nil (m := 60) (l := 0) (by kernel_rfl) (by kernel_rfl) (by kernel_rfl)
theorem e3 : TabOk Tryd.prog (envT fns G []) 76 [] [] [townV, i (95), .lst (some false) false 2 [i (101), i (108)]] (.agg [i (5), .lst (some false) true 1 [i (0), i (108)]]) := tab_one base tab_nil (m := 60) (l := 0) (by kernel_rfl) (by kernel_rfl) (by kernel_rfl)
theorem e4 : TabOk Tryd.prog (envT fns G []) 76 [] [] [townV, i (95), .lst (some false) false 1 [i (110)]] (.agg [i (5), .lst (some false) true 1 [i (0), i (110)]]) := tab_one base tab_nil (m := 60) (l := 0) (by kernel_rfl) (by kernel_rfl) (by kernel_rfl)
theorem e5 : TabOk Tryd.prog (envT fns G []) 76 [] [] [townV, i (95), .lst (some false) false 2 [i (101), i (110)]] (.agg [i (5), .lst (some false) true 1 [i (0), i (110)]]) := tab_one base tab_nil (m := 60) (l := 0) (by kernel_rfl) (by kernel_rfl) (by kernel_rfl)
theorem e6 : TabOk Tryd.prog (envT fns G []) 76 [] [] [townV, i (95), .lst (some false) false 2 [i (108), i (110)]] (.agg [i (10), .lst (some false) false 2 [i (0), i (108), i (0), i (110)]]) := tab_one base tab_nil (m := 60) (l := 0) (by kernel_rfl) (by kernel_rfl) (by kernel_rfl)
end Go.Proofs.Tryd
