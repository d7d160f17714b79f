/-
  Closed calls: printed by a program.
-/
import Derived.Test.YtkifeiienlkmcaaDoorLTab0
set_option linter.all false
namespace Go.Proofs.Tryd
open Go Go.Proofs.AM
theorem e21 : TabOk Tryd.prog (envT fns G []) 76 [] [] [townV, i (93), .lst (some false) true 4 [i (101), i (108), i (110), i (112)]] (.agg [i (15), .lst (some false) false 3 [i (0), i (108), i (0), i (110), i (0), i (112)]]) := tab_one base tab_nil (m := 60) (l := 0) (by kernel_rfl) (by kernel_rfl) (by kernel_rfl)
theorem e22 : TabOk Tryd.prog (envT fns G []) 76 [] [] [townV, i (109), .lst (some false) true 4 [i (101), i (108), i (110), i (112)]] (.agg [i (-1), .lst (some true) true 0 []]) := tab_one base tab_nil (m := 60) (l := 0) (by kernel_rfl) (by kernel_rfl) (by kernel_rfl)
theorem e23 : TabOk Tryd.prog (envT fns G []) 76 [] [] [townV, i (101), .lst (some false) true 4 [i (101), i (108), i (110), i (112)]] (.agg [i (15), .lst (some false) false 3 [i (0), i (108), i (0), i (110), i (0), i (112)]]) := tab_one base tab_nil (m := 60) (l := 0) (by kernel_rfl) (by kernel_rfl) (by kernel_rfl)
theorem e24 : TabOk Tryd.prog (envT fns G []) 76 [] [] [townV, i (105), .lst (some false) true 4 [i (101), i (108), i (110), i (112)]] (.agg [i (15), .lst (some false) false 3 [i (0), i (108), i (0), i (110), i (0), i (112)]]) := tab_one base tab_nil (m := 60) (l := 0) (by kernel_rfl) (by kernel_rfl) (by kernel_rfl)
theorem e25 : TabOk Tryd.prog (envT fns G []) 76 [] [] [townV, i (107), .lst (some false) true 4 [i (101), i (108), i (110), i (112)]] (.agg [i (-1), .lst (some true) true 0 []]) := tab_one base tab_nil (m := 60) (l := 0) (by kernel_rfl) (by kernel_rfl) (by kernel_rfl)
theorem e26 : TabOk Tryd.prog (envT fns G []) 76 [] [] [townV, i (106), .lst (some false) true 4 [i (101), i (108), i (110), i (112)]] (.agg [i (15), .lst (some false) false 3 [i (0), i (108), i (0), i (110), i (0), i (112)]]) := tab_one base tab_nil (m := 60) (l := 0) (by kernel_rfl) (by kernel_rfl) (by kernel_rfl)
end Go.Proofs.Tryd
