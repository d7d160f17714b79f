/-
  Closed calls: the globals; the program.
-/
import Derived.Test.YtkifeiienlkmcaaDoorAmG
import Derived.Test.YtkifeiienlkmcaaDoorLEnv
set_option linter.all false
namespace Go.Proofs.Tryd
open Go Go.Proofs.AM
def G : Nat → Option (List AV)
  | 0 => some [.fn 128 [] [], .fn 129 [] [], .fn 130 [] [], .fn 131 [] []]
  | 1 => some [.int .i64 (-1), .int .i64 (-1)]
  | _ => none
theorem base : Base Tryd.prog fns G :=
  { mix := mix, fn := fns_ok, glob := fun g cs h => by
      unfold G at h
      split at h
      · cases h; rfl
      · cases h; rfl
      · cases h }
abbrev i (n : Int) : AV := .int .i64 n
abbrev townV : AV := .agg [.lst (some false) true 2 [i (1), i (5), i (2), i (7), i (20), i (10)], i (1), .lst (some false) true 1 [i (105), i (106)], i (8), i (1350), .lst (some false) true 1 [i (1), i (100)]]
end Go.Proofs.Tryd
