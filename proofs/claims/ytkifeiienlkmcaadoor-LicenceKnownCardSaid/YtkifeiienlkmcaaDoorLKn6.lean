/-
  Closed calls: printed by a program.
-/
import Derived.Test.YtkifeiienlkmcaaDoorLKn1
import Derived.Test.YtkifeiienlkmcaaDoorLKn2
import Derived.Test.YtkifeiienlkmcaaDoorLKn3
import Derived.Test.YtkifeiienlkmcaaDoorLKn4
import Derived.Test.YtkifeiienlkmcaaDoorLKn5
import Derived.Test.YtkifeiienlkmcaaDoorLTab5
set_option linter.all false
namespace Go.Proofs.Tryd
open Go Go.Proofs.AM
theorem k198 : TabOk Tryd.prog (envT fns G []) 29 [] [] [townV, i (95), .lst (some false) true 4 [i (101), i (108), i (110), i (112)]] (.tup [i (15), i (0)]) := tab_one (es := [⟨71, [.lst (some false) true 4 [i (101), i (108), i (110), i (112)]], .bool true⟩, ⟨16, [townV], i (0)⟩, ⟨76, [townV, i (95), .lst (some false) true 4 [i (101), i (108), i (110), i (112)]], .agg [i (15), .lst (some false) false 3 [i (0), i (108), i (0), i (110), i (0), i (112)]]⟩]) base (.cons k138 (.cons k100 (.cons k197 tab_nil))) (m := 60) (l := 0) (by kernel_rfl) (by kernel_rfl) (by kernel_rfl)
theorem k206 : TabOk Tryd.prog (envT fns G []) 30 [] [] [.agg [.lst (some false) true 2 [i (1), i (8), i (2), i (7), i (20), i (10)], i (1), .lst (some false) true 1 [i (105), i (106)], i (8), i (1350), .lst (some false) true 1 [i (1), i (100)]], i (95), .lst (some false) true 4 [i (101), i (108), i (110), i (112)]] (.tup [.lst (some false) true 1 [i (1), i (108)], i (0)]) := tab_one (es := [⟨71, [.lst (some false) true 4 [i (101), i (108), i (110), i (112)]], .bool true⟩, ⟨16, [.agg [.lst (some false) true 2 [i (1), i (8), i (2), i (7), i (20), i (10)], i (1), .lst (some false) true 1 [i (105), i (106)], i (8), i (1350), .lst (some false) true 1 [i (1), i (100)]]], i (0)⟩, ⟨76, [.agg [.lst (some false) true 2 [i (1), i (8), i (2), i (7), i (20), i (10)], i (1), .lst (some false) true 1 [i (105), i (106)], i (8), i (1350), .lst (some false) true 1 [i (1), i (100)]], i (95), .lst (some false) true 4 [i (101), i (108), i (110), i (112)]], .agg [i (20), .lst (some false) true 1 [i (1), i (108)]]⟩]) base (.cons k138 (.cons k201 (.cons k205 tab_nil))) (m := 60) (l := 0) (by kernel_rfl) (by kernel_rfl) (by kernel_rfl)
end Go.Proofs.Tryd
