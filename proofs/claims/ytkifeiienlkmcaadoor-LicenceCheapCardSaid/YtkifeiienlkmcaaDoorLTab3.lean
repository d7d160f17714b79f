/-
  Closed calls: printed by a program.
-/
import Derived.Test.YtkifeiienlkmcaaDoorLTab0
set_option linter.all false
namespace Go.Proofs.Tryd
open Go Go.Proofs.AM
theorem e14 : TabOk Tryd.prog (envT fns G []) 76 [] [] [townV, i (95), .lst (some false) false 3 [i (108), i (110), i (112)]] (.agg [i (15), .lst (some false) false 3 [i (0), i (108), i (0), i (110), i (0), i (112)]]) := tab_one base tab_nil (m := 60) (l := 0) (by kernel_rfl) (by kernel_rfl) (by kernel_rfl)
theorem e15 : TabOk Tryd.prog (envT fns G []) 76 [] [] [townV, i (95), .lst (some false) false 4 [i (101), i (108), i (110), i (112)]] (.agg [i (15), .lst (some false) false 3 [i (0), i (108), i (0), i (110), i (0), i (112)]]) := tab_one base tab_nil (m := 60) (l := 0) (by kernel_rfl) (by kernel_rfl) (by kernel_rfl)
theorem e16 : TabOk Tryd.prog (envT fns G []) 76 [] [] [townV, i (0), .lst (some false) true 4 [i (101), i (108), i (110), i (112)]] (.agg [i (15), .lst (some false) false 3 [i (0), i (108), i (0), i (110), i (0), i (112)]]) := tab_one base tab_nil (m := 60) (l := 0) (by kernel_rfl) (by kernel_rfl) (by kernel_rfl)
theorem e17 : TabOk Tryd.prog (envT fns G []) 76 [] [] [townV, i (500), .lst (some false) true 4 [i (101), i (108), i (110), i (112)]] (.agg [i (-1), .lst (some true) true 0 []]) := tab_one base tab_nil (m := 60) (l := 0) (by kernel_rfl) (by kernel_rfl) (by kernel_rfl)
theorem e18 : TabOk Tryd.prog (envT fns G []) 76 [] [] [townV, i (250), .lst (some false) true 4 [i (101), i (108), i (110), i (112)]] (.agg [i (-1), .lst (some true) true 0 []]) := tab_one base tab_nil (m := 60) (l := 0) (by kernel_rfl) (by kernel_rfl) (by kernel_rfl)
theorem e19 : TabOk Tryd.prog (envT fns G []) 76 [] [] [townV, i (125), .lst (some false) true 4 [i (101), i (108), i (110), i (112)]] (.agg [i (-1), .lst (some true) true 0 []]) := tab_one base tab_nil (m := 60) (l := 0) (by kernel_rfl) (by kernel_rfl) (by kernel_rfl)
theorem e20 : TabOk Tryd.prog (envT fns G []) 76 [] [] [townV, i (62), .lst (some false) true 4 [i (101), i (108), i (110), i (112)]] (.agg [i (15), .lst (some false) false 3 [i (0), i (108), i (0), i (110), i (0), i (112)]]) := tab_one base tab_nil (m := 60) (l := 0) (by kernel_rfl) (by kernel_rfl) (by kernel_rfl)
end Go.Proofs.Tryd
