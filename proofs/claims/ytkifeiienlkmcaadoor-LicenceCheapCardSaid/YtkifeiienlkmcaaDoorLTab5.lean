/-
  The chapter's examples (stamped): a closed call.
-/
import Derived.Test.YtkifeiienlkmcaaDoorLTab1
import Derived.Test.YtkifeiienlkmcaaDoorLTab2
import Derived.Test.YtkifeiienlkmcaaDoorLTab3
import Derived.Test.YtkifeiienlkmcaaDoorLTab4
set_option linter.all false
namespace Go.Proofs.Tryd
open Go Go.Proofs.AM
def tabS : List Ent := [⟨76, [townV, i (95), .lst (some true) true 0 []], .agg [i (0), .lst (some true) true 0 []]⟩,
  ⟨76, [townV, i (95), .lst (some false) false 1 [i (101)]], .agg [i (0), .lst (some true) true 0 []]⟩,
  ⟨76, [townV, i (95), .lst (some false) false 1 [i (108)]], .agg [i (5), .lst (some false) true 1 [i (0), i (108)]]⟩,
  ⟨76, [townV, i (95), .lst (some false) false 2 [i (101), i (108)]], .agg [i (5), .lst (some false) true 1 [i (0), i (108)]]⟩,
  ⟨76, [townV, i (95), .lst (some false) false 1 [i (110)]], .agg [i (5), .lst (some false) true 1 [i (0), i (110)]]⟩,
  ⟨76, [townV, i (95), .lst (some false) false 2 [i (101), i (110)]], .agg [i (5), .lst (some false) true 1 [i (0), i (110)]]⟩,
  ⟨76, [townV, i (95), .lst (some false) false 2 [i (108), i (110)]], .agg [i (10), .lst (some false) false 2 [i (0), i (108), i (0), i (110)]]⟩,
  ⟨76, [townV, i (95), .lst (some false) false 3 [i (101), i (108), i (110)]], .agg [i (10), .lst (some false) false 2 [i (0), i (108), i (0), i (110)]]⟩,
  ⟨76, [townV, i (95), .lst (some false) false 1 [i (112)]], .agg [i (5), .lst (some false) true 1 [i (0), i (112)]]⟩,
  ⟨76, [townV, i (95), .lst (some false) false 2 [i (101), i (112)]], .agg [i (5), .lst (some false) true 1 [i (0), i (112)]]⟩,
  ⟨76, [townV, i (95), .lst (some false) false 2 [i (108), i (112)]], .agg [i (10), .lst (some false) false 2 [i (0), i (108), i (0), i (112)]]⟩,
  ⟨76, [townV, i (95), .lst (some false) false 3 [i (101), i (108), i (112)]], .agg [i (10), .lst (some false) false 2 [i (0), i (108), i (0), i (112)]]⟩,
  ⟨76, [townV, i (95), .lst (some false) false 2 [i (110), i (112)]], .agg [i (10), .lst (some false) false 2 [i (0), i (110), i (0), i (112)]]⟩,
  ⟨76, [townV, i (95), .lst (some false) false 3 [i (101), i (110), i (112)]], .agg [i (10), .lst (some false) false 2 [i (0), i (110), i (0), i (112)]]⟩,
  ⟨76, [townV, i (95), .lst (some false) false 3 [i (108), i (110), i (112)]], .agg [i (15), .lst (some false) false 3 [i (0), i (108), i (0), i (110), i (0), i (112)]]⟩,
  ⟨76, [townV, i (95), .lst (some false) false 4 [i (101), i (108), i (110), i (112)]], .agg [i (15), .lst (some false) false 3 [i (0), i (108), i (0), i (110), i (0), i (112)]]⟩,
  ⟨76, [townV, i (0), .lst (some false) true 4 [i (101), i (108), i (110), i (112)]], .agg [i (15), .lst (some false) false 3 [i (0), i (108), i (0), i (110), i (0), i (112)]]⟩,
  ⟨76, [townV, i (500), .lst (some false) true 4 [i (101), i (108), i (110), i (112)]], .agg [i (-1), .lst (some true) true 0 []]⟩,
  ⟨76, [townV, i (250), .lst (some false) true 4 [i (101), i (108), i (110), i (112)]], .agg [i (-1), .lst (some true) true 0 []]⟩,
  ⟨76, [townV, i (125), .lst (some false) true 4 [i (101), i (108), i (110), i (112)]], .agg [i (-1), .lst (some true) true 0 []]⟩,
  ⟨76, [townV, i (62), .lst (some false) true 4 [i (101), i (108), i (110), i (112)]], .agg [i (15), .lst (some false) false 3 [i (0), i (108), i (0), i (110), i (0), i (112)]]⟩,
  ⟨76, [townV, i (93), .lst (some false) true 4 [i (101), i (108), i (110), i (112)]], .agg [i (15), .lst (some false) false 3 [i (0), i (108), i (0), i (110), i (0), i (112)]]⟩,
  ⟨76, [townV, i (109), .lst (some false) true 4 [i (101), i (108), i (110), i (112)]], .agg [i (-1), .lst (some true) true 0 []]⟩,
  ⟨76, [townV, i (101), .lst (some false) true 4 [i (101), i (108), i (110), i (112)]], .agg [i (15), .lst (some false) false 3 [i (0), i (108), i (0), i (110), i (0), i (112)]]⟩,
  ⟨76, [townV, i (105), .lst (some false) true 4 [i (101), i (108), i (110), i (112)]], .agg [i (15), .lst (some false) false 3 [i (0), i (108), i (0), i (110), i (0), i (112)]]⟩,
  ⟨76, [townV, i (107), .lst (some false) true 4 [i (101), i (108), i (110), i (112)]], .agg [i (-1), .lst (some true) true 0 []]⟩,
  ⟨76, [townV, i (106), .lst (some false) true 4 [i (101), i (108), i (110), i (112)]], .agg [i (15), .lst (some false) false 3 [i (0), i (108), i (0), i (110), i (0), i (112)]]⟩]
theorem tabS_ok : TabsOk Tryd.prog fns G tabS := .cons e0 (.cons e1 (.cons e2 (.cons e3 (.cons e4 (.cons e5 (.cons e6 (.cons e7 (.cons e8 (.cons e9 (.cons e10 (.cons e11 (.cons e12 (.cons e13 (.cons e14 (.cons e15 (.cons e16 (.cons e17 (.cons e18 (.cons e19 (.cons e20 (.cons e21 (.cons e22 (.cons e23 (.cons e24 (.cons e25 (.cons e26 (tab_nil)))))))))))))))))))))))))))
theorem stamped_ok : TabOk Tryd.prog (envT fns G []) 23 [] [] [] (.bool true) := tab_one base tabS_ok (m := 60) (l := 0) (by kernel_rfl) (by kernel_rfl) (by kernel_rfl)
end Go.Proofs.Tryd
