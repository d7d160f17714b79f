/-
  Closed calls: printed by a program.
-/
import Derived.Test.YtkifeiienlkmcaaDoorLTab0
set_option linter.all false
namespace Go.Proofs.Tryd
open Go Go.Proofs.AM
theorem e7 : TabOk Tryd.prog (envT fns G []) 76 [] [] [townV, i (95), .lst (some false) false 3 [i (101), i (108), i (110)]] (.agg [i (10), .lst (some false) false 2 [i (0), i (108), i (0), i (110)]]) := tab_one base tab_nil (m := 60) (l := 0) (by kernel_rfl) (by kernel_rfl) (by kernel_rfl)
theorem e8 : TabOk Tryd.prog (envT fns G []) 76 [] [] [townV, i (95), .lst (some false) false 1 [i (112)]] (.agg [i (5), .lst (some false) true 1 [i (0), i (112)]]) := tab_one base tab_nil (m := 60) (l := 0) (by kernel_rfl) (by kernel_rfl) (by kernel_rfl)
theorem e9 : TabOk Tryd.prog (envT fns G []) 76 [] [] [townV, i (95), .lst (some false) false 2 [i (101), i (112)]] (.agg [i (5), .lst (some false) true 1 [i (0), i (112)]]) := tab_one base tab_nil (m := 60) (l := 0) (by kernel_rfl) (by kernel_rfl) (by kernel_rfl)
theorem e10 : TabOk Tryd.prog (envT fns G []) 76 [] [] [townV, i (95), .lst (some false) false 2 [i (108), i (112)]] (.agg [i (10), .lst (some false) false 2 [i (0), i (108), i (0), i (112)]]) := tab_one base tab_nil (m := 60) (l := 0) (by kernel_rfl) (by kernel_rfl) (by kernel_rfl)
theorem e11 : TabOk Tryd.prog (envT fns G []) 76 [] [] [townV, i (95), .lst (some false) false 3 [i (101), i (108), i (112)]] (.agg [i (10), .lst (some false) false 2 [i (0), i (108), i (0), i (112)]]) := tab_one base tab_nil (m := 60) (l := 0) (by kernel_rfl) (by kernel_rfl) (by kernel_rfl)
theorem e12 : TabOk Tryd.prog (envT fns G []) 76 [] [] [townV, i (95), .lst (some false) false 2 [i (110), i (112)]] (.agg [i (10), .lst (some false) false 2 [i (0), i (110), i (0), i (112)]]) := tab_one base tab_nil (m := 60) (l := 0) (by kernel_rfl) (by kernel_rfl) (by kernel_rfl)
theorem e13 : TabOk Tryd.prog (envT fns G []) 76 [] [] [townV, i (95), .lst (some false) false 3 [i (101), i (110), i (112)]] (.agg [i (10), .lst (some false) false 2 [i (0), i (110), i (0), i (112)]]) := tab_one base tab_nil (m := 60) (l := 0) (by kernel_rfl) (by kernel_rfl) (by kernel_rfl)
end Go.Proofs.Tryd
