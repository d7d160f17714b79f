/-
  NARROWER THAN 'FOR EVERY INPUT', by the rows' own cells (each row's printed sentence says how): LicenceWhys: laid · LicencePlans: laid · LicenceFees: laid · LicenceMosts: laid · LicenceFine: laid · LicenceOver: laid · LicenceCheap: laid · LicenceInTime: laid · LicenceEasier: laid · LicenceMost: laid · LicenceKnown: laid.
  DERIVED. THE GIVEN ROWS OF THIS SEAT. 11 by the template 'for every input the law returns true; each argument reads behind the call as it read before'; 0 by the template 'total and deterministic' (their statements: YtkifeiienlkmcaaDoorTotals.lean).
  GIVEN WITH THE SEED: the statements are not yours to turn. If you find one false, say at which input.
  Laid BY PROGRAM, IN A SANDBOX (cutbox-rows.mjs): the forced cells as the released guide's own fill.sh prints them over the translation b6016bd4b55888ff… (all of the seat's roots in one cut). By AI agents, Wed Nov 11 2026. No macro, syntax, notation, axiom, sorry.
-/
import Derived.Test.YtkifeiienlkmcaaDoorChecked
import GoSem.Claim
import GoSem.ClaimJoined
import GoSem.ClaimMapViews
import Derived.JoinedTies
import Derived.KernelRfl
namespace Go.Proofs.YtkifeiienlkmcaaDoor
/- THE CELL 'sum', in the pinned program and in every row, IS THE sha256 OF THE DUMP (.gsa) THAT YtkifeiienlkmcaaDoorProg.lean LOADS. Nothing in Lean hashes anything: it is a label: what it is worth is what the hold of that sum in a sandbox is worth. -/
noncomputable def Tryd.pinned : Pinned := { name := "ytkifeiienlkmcaadoor", sum := "b6016bd4b55888ff10197c95f14ef91e9ebe5a7d9a24083ca688c856cf011749", checked := Tryd.checked }
namespace Rows
def none {H : Type} : Left H := { results := [], args := [] }

/- WHAT THE LISTED PACKAGE-LEVEL VARIABLES READ AS WHEN THE CALL BEGINS. Each datum BY PROGRAM (the guide's laid-datum.mjs) off the statement by which the dump's own 'gosem.cut.vars' lays the variable. In a bare row this is a premise. The card (YtkifeiienlkmcaaDoorCards.lean) ties it to the program's text. -/
def laid_bioscope_licence_reasons {H : Type} : DataW H := .iface "func table" (.agg [.iface "func" (.lit (.string [40, 98, 105, 111, 115, 99, 111, 112, 101, 47, 108, 105, 99, 101, 110, 99, 101, 46, 116, 111, 119, 110, 41, 46, 117, 110, 99, 111, 118, 101, 114, 101, 100])), .iface "func" (.lit (.string [40, 98, 105, 111, 115, 99, 111, 112, 101, 47, 108, 105, 99, 101, 110, 99, 101, 46, 116, 111, 119, 110, 41, 46, 98, 97, 114, 114, 101, 100])), .iface "func" (.lit (.string [40, 98, 105, 111, 115, 99, 111, 112, 101, 47, 108, 105, 99, 101, 110, 99, 101, 46, 116, 111, 119, 110, 41, 46, 102, 111, 114, 98, 105, 100, 100, 101, 110])), .iface "func" (.lit (.string [40, 98, 105, 111, 115, 99, 111, 112, 101, 47, 108, 105, 99, 101, 110, 99, 101, 46, 116, 111, 119, 110, 41, 46, 108, 97, 116, 101]))])
def laid_bioscope_licence_nobody {H : Type} : DataW H := .agg [.lit (.int .i64 (-1)), .lit (.int .i64 (-1))]

/-- 'bioscopelaw05.LicenceWhys': WHATEVER THE INPUT: true; the input reads as it did. -/
def licenceWhysSpec : ChangeSpec := { name := "licenceWhys", fn := fun _ => fun
  | [d1, d2, d3] => { results := [.lit (.bool true)], args := [d1, d2, d3] }
  | _ => none }
def licenceWhysRow : OpenClaim := { program := "ytkifeiienlkmcaadoor", sum := "b6016bd4b55888ff10197c95f14ef91e9ebe5a7d9a24083ca688c856cf011749", func := "bioscope/bioscopelaw05.LicenceWhys", spec := "licenceWhys", unfollowed := true, recurses := true, named := ["bioscope/licence.reasons", "bioscope/licence.nobody"], plainKeys := false, apart := false, laid := [("bioscope/licence.reasons", laid_bioscope_licence_reasons), ("bioscope/licence.nobody", laid_bioscope_licence_nobody)] }
def LicenceWhysSaid : Prop := licenceWhysRow.holds Tryd.pinned (OpenSpec.ofChange licenceWhysSpec)

/-- ITS FALSE NEIGHBOUR: 'it returns false'. Refute it at one input. -/
def licenceWhysWrong : ChangeSpec := { name := "licenceWhys", fn := fun _ => fun
  | [d1, d2, d3] => { results := [.lit (.bool false)], args := [d1, d2, d3] }
  | _ => none }
def LicenceWhysWrongFalsely : Prop := licenceWhysRow.holds Tryd.pinned (OpenSpec.ofChange licenceWhysWrong)

/-- 'bioscopelaw05.LicencePlans': WHATEVER THE INPUT: true; the input reads as it did. -/
def licencePlansSpec : ChangeSpec := { name := "licencePlans", fn := fun _ => fun
  | [d1, d2, d3, d4] => { results := [.lit (.bool true)], args := [d1, d2, d3, d4] }
  | _ => none }
def licencePlansRow : OpenClaim := { program := "ytkifeiienlkmcaadoor", sum := "b6016bd4b55888ff10197c95f14ef91e9ebe5a7d9a24083ca688c856cf011749", func := "bioscope/bioscopelaw05.LicencePlans", spec := "licencePlans", unfollowed := true, recurses := true, named := ["bioscope/licence.reasons", "bioscope/licence.nobody"], plainKeys := false, apart := false, laid := [("bioscope/licence.reasons", laid_bioscope_licence_reasons), ("bioscope/licence.nobody", laid_bioscope_licence_nobody)] }
def LicencePlansSaid : Prop := licencePlansRow.holds Tryd.pinned (OpenSpec.ofChange licencePlansSpec)

/-- ITS FALSE NEIGHBOUR: 'it returns false'. Refute it at one input. -/
def licencePlansWrong : ChangeSpec := { name := "licencePlans", fn := fun _ => fun
  | [d1, d2, d3, d4] => { results := [.lit (.bool false)], args := [d1, d2, d3, d4] }
  | _ => none }
def LicencePlansWrongFalsely : Prop := licencePlansRow.holds Tryd.pinned (OpenSpec.ofChange licencePlansWrong)

/-- 'bioscopelaw05.LicenceFees': WHATEVER THE INPUT: true; the input reads as it did. -/
def licenceFeesSpec : ChangeSpec := { name := "licenceFees", fn := fun _ => fun
  | [d1, d2, d3] => { results := [.lit (.bool true)], args := [d1, d2, d3] }
  | _ => none }
def licenceFeesRow : OpenClaim := { program := "ytkifeiienlkmcaadoor", sum := "b6016bd4b55888ff10197c95f14ef91e9ebe5a7d9a24083ca688c856cf011749", func := "bioscope/bioscopelaw05.LicenceFees", spec := "licenceFees", unfollowed := true, recurses := true, named := ["bioscope/licence.nobody", "bioscope/licence.reasons"], plainKeys := false, apart := false, laid := [("bioscope/licence.reasons", laid_bioscope_licence_reasons), ("bioscope/licence.nobody", laid_bioscope_licence_nobody)] }
def LicenceFeesSaid : Prop := licenceFeesRow.holds Tryd.pinned (OpenSpec.ofChange licenceFeesSpec)

/-- ITS FALSE NEIGHBOUR: 'it returns false'. Refute it at one input. -/
def licenceFeesWrong : ChangeSpec := { name := "licenceFees", fn := fun _ => fun
  | [d1, d2, d3] => { results := [.lit (.bool false)], args := [d1, d2, d3] }
  | _ => none }
def LicenceFeesWrongFalsely : Prop := licenceFeesRow.holds Tryd.pinned (OpenSpec.ofChange licenceFeesWrong)

/-- 'bioscopelaw05.LicenceMosts': WHATEVER THE INPUT: true; the input reads as it did. -/
def licenceMostsSpec : ChangeSpec := { name := "licenceMosts", fn := fun _ => fun
  | [d1, d2, d3, d4] => { results := [.lit (.bool true)], args := [d1, d2, d3, d4] }
  | _ => none }
def licenceMostsRow : OpenClaim := { program := "ytkifeiienlkmcaadoor", sum := "b6016bd4b55888ff10197c95f14ef91e9ebe5a7d9a24083ca688c856cf011749", func := "bioscope/bioscopelaw05.LicenceMosts", spec := "licenceMosts", unfollowed := true, recurses := true, named := ["bioscope/licence.nobody", "bioscope/licence.reasons"], plainKeys := false, apart := false, laid := [("bioscope/licence.reasons", laid_bioscope_licence_reasons), ("bioscope/licence.nobody", laid_bioscope_licence_nobody)] }
def LicenceMostsSaid : Prop := licenceMostsRow.holds Tryd.pinned (OpenSpec.ofChange licenceMostsSpec)

/-- ITS FALSE NEIGHBOUR: 'it returns false'. Refute it at one input. -/
def licenceMostsWrong : ChangeSpec := { name := "licenceMosts", fn := fun _ => fun
  | [d1, d2, d3, d4] => { results := [.lit (.bool false)], args := [d1, d2, d3, d4] }
  | _ => none }
def LicenceMostsWrongFalsely : Prop := licenceMostsRow.holds Tryd.pinned (OpenSpec.ofChange licenceMostsWrong)

/-- 'bioscopelaw05.LicenceFine': WHATEVER THE INPUT: true; the input reads as it did. -/
def licenceFineSpec : ChangeSpec := { name := "licenceFine", fn := fun _ => fun
  | [d1, d2] => { results := [.lit (.bool true)], args := [d1, d2] }
  | _ => none }
def licenceFineRow : OpenClaim := { program := "ytkifeiienlkmcaadoor", sum := "b6016bd4b55888ff10197c95f14ef91e9ebe5a7d9a24083ca688c856cf011749", func := "bioscope/bioscopelaw05.LicenceFine", spec := "licenceFine", unfollowed := true, recurses := true, named := ["bioscope/licence.reasons", "bioscope/licence.nobody"], plainKeys := false, apart := false, laid := [("bioscope/licence.reasons", laid_bioscope_licence_reasons), ("bioscope/licence.nobody", laid_bioscope_licence_nobody)] }
def LicenceFineSaid : Prop := licenceFineRow.holds Tryd.pinned (OpenSpec.ofChange licenceFineSpec)

/-- ITS FALSE NEIGHBOUR: 'it returns false'. Refute it at one input. -/
def licenceFineWrong : ChangeSpec := { name := "licenceFine", fn := fun _ => fun
  | [d1, d2] => { results := [.lit (.bool false)], args := [d1, d2] }
  | _ => none }
def LicenceFineWrongFalsely : Prop := licenceFineRow.holds Tryd.pinned (OpenSpec.ofChange licenceFineWrong)

/-- 'bioscopelaw05.LicenceOver': WHATEVER THE INPUT: true; the input reads as it did. -/
def licenceOverSpec : ChangeSpec := { name := "licenceOver", fn := fun _ => fun
  | [d1, d2] => { results := [.lit (.bool true)], args := [d1, d2] }
  | _ => none }
def licenceOverRow : OpenClaim := { program := "ytkifeiienlkmcaadoor", sum := "b6016bd4b55888ff10197c95f14ef91e9ebe5a7d9a24083ca688c856cf011749", func := "bioscope/bioscopelaw05.LicenceOver", spec := "licenceOver", unfollowed := true, recurses := true, named := ["bioscope/licence.reasons", "bioscope/licence.nobody"], plainKeys := false, apart := false, laid := [("bioscope/licence.reasons", laid_bioscope_licence_reasons), ("bioscope/licence.nobody", laid_bioscope_licence_nobody)] }
def LicenceOverSaid : Prop := licenceOverRow.holds Tryd.pinned (OpenSpec.ofChange licenceOverSpec)

/-- ITS FALSE NEIGHBOUR: 'it returns false'. Refute it at one input. -/
def licenceOverWrong : ChangeSpec := { name := "licenceOver", fn := fun _ => fun
  | [d1, d2] => { results := [.lit (.bool false)], args := [d1, d2] }
  | _ => none }
def LicenceOverWrongFalsely : Prop := licenceOverRow.holds Tryd.pinned (OpenSpec.ofChange licenceOverWrong)

/-- 'bioscopelaw05.LicenceCheap': WHATEVER THE INPUT: true; the input reads as it did. -/
def licenceCheapSpec : ChangeSpec := { name := "licenceCheap", fn := fun _ => fun
  | [d1, d2, d3, d4] => { results := [.lit (.bool true)], args := [d1, d2, d3, d4] }
  | _ => none }
def licenceCheapRow : OpenClaim := { program := "ytkifeiienlkmcaadoor", sum := "b6016bd4b55888ff10197c95f14ef91e9ebe5a7d9a24083ca688c856cf011749", func := "bioscope/bioscopelaw05.LicenceCheap", spec := "licenceCheap", unfollowed := true, recurses := true, named := ["bioscope/licence.reasons", "bioscope/licence.nobody"], plainKeys := false, apart := false, laid := [("bioscope/licence.reasons", laid_bioscope_licence_reasons), ("bioscope/licence.nobody", laid_bioscope_licence_nobody)] }
def LicenceCheapSaid : Prop := licenceCheapRow.holds Tryd.pinned (OpenSpec.ofChange licenceCheapSpec)

/-- ITS FALSE NEIGHBOUR: 'it returns false'. Refute it at one input. -/
def licenceCheapWrong : ChangeSpec := { name := "licenceCheap", fn := fun _ => fun
  | [d1, d2, d3, d4] => { results := [.lit (.bool false)], args := [d1, d2, d3, d4] }
  | _ => none }
def LicenceCheapWrongFalsely : Prop := licenceCheapRow.holds Tryd.pinned (OpenSpec.ofChange licenceCheapWrong)

/-- 'bioscopelaw05.LicenceInTime': WHATEVER THE INPUT: true; the input reads as it did. -/
def licenceInTimeSpec : ChangeSpec := { name := "licenceInTime", fn := fun _ => fun
  | [d1, d2, d3] => { results := [.lit (.bool true)], args := [d1, d2, d3] }
  | _ => none }
def licenceInTimeRow : OpenClaim := { program := "ytkifeiienlkmcaadoor", sum := "b6016bd4b55888ff10197c95f14ef91e9ebe5a7d9a24083ca688c856cf011749", func := "bioscope/bioscopelaw05.LicenceInTime", spec := "licenceInTime", unfollowed := true, recurses := true, named := ["bioscope/licence.nobody", "bioscope/licence.reasons"], plainKeys := false, apart := false, laid := [("bioscope/licence.reasons", laid_bioscope_licence_reasons), ("bioscope/licence.nobody", laid_bioscope_licence_nobody)] }
def LicenceInTimeSaid : Prop := licenceInTimeRow.holds Tryd.pinned (OpenSpec.ofChange licenceInTimeSpec)

/-- ITS FALSE NEIGHBOUR: 'it returns false'. Refute it at one input. -/
def licenceInTimeWrong : ChangeSpec := { name := "licenceInTime", fn := fun _ => fun
  | [d1, d2, d3] => { results := [.lit (.bool false)], args := [d1, d2, d3] }
  | _ => none }
def LicenceInTimeWrongFalsely : Prop := licenceInTimeRow.holds Tryd.pinned (OpenSpec.ofChange licenceInTimeWrong)

/-- 'bioscopelaw05.LicenceEasier': WHATEVER THE INPUT: true; the input reads as it did. -/
def licenceEasierSpec : ChangeSpec := { name := "licenceEasier", fn := fun _ => fun
  | [d1, d2, d3, d4] => { results := [.lit (.bool true)], args := [d1, d2, d3, d4] }
  | _ => none }
def licenceEasierRow : OpenClaim := { program := "ytkifeiienlkmcaadoor", sum := "b6016bd4b55888ff10197c95f14ef91e9ebe5a7d9a24083ca688c856cf011749", func := "bioscope/bioscopelaw05.LicenceEasier", spec := "licenceEasier", unfollowed := true, recurses := true, named := ["bioscope/licence.reasons", "bioscope/licence.nobody"], plainKeys := false, apart := false, laid := [("bioscope/licence.reasons", laid_bioscope_licence_reasons), ("bioscope/licence.nobody", laid_bioscope_licence_nobody)] }
def LicenceEasierSaid : Prop := licenceEasierRow.holds Tryd.pinned (OpenSpec.ofChange licenceEasierSpec)

/-- ITS FALSE NEIGHBOUR: 'it returns false'. Refute it at one input. -/
def licenceEasierWrong : ChangeSpec := { name := "licenceEasier", fn := fun _ => fun
  | [d1, d2, d3, d4] => { results := [.lit (.bool false)], args := [d1, d2, d3, d4] }
  | _ => none }
def LicenceEasierWrongFalsely : Prop := licenceEasierRow.holds Tryd.pinned (OpenSpec.ofChange licenceEasierWrong)

/-- 'bioscopelaw05.LicenceMost': WHATEVER THE INPUT: true; the input reads as it did. -/
def licenceMostSpec : ChangeSpec := { name := "licenceMost", fn := fun _ => fun
  | [d1, d2, d3, d4] => { results := [.lit (.bool true)], args := [d1, d2, d3, d4] }
  | _ => none }
def licenceMostRow : OpenClaim := { program := "ytkifeiienlkmcaadoor", sum := "b6016bd4b55888ff10197c95f14ef91e9ebe5a7d9a24083ca688c856cf011749", func := "bioscope/bioscopelaw05.LicenceMost", spec := "licenceMost", unfollowed := true, recurses := true, named := ["bioscope/licence.reasons", "bioscope/licence.nobody"], plainKeys := false, apart := false, laid := [("bioscope/licence.reasons", laid_bioscope_licence_reasons), ("bioscope/licence.nobody", laid_bioscope_licence_nobody)] }
def LicenceMostSaid : Prop := licenceMostRow.holds Tryd.pinned (OpenSpec.ofChange licenceMostSpec)

/-- ITS FALSE NEIGHBOUR: 'it returns false'. Refute it at one input. -/
def licenceMostWrong : ChangeSpec := { name := "licenceMost", fn := fun _ => fun
  | [d1, d2, d3, d4] => { results := [.lit (.bool false)], args := [d1, d2, d3, d4] }
  | _ => none }
def LicenceMostWrongFalsely : Prop := licenceMostRow.holds Tryd.pinned (OpenSpec.ofChange licenceMostWrong)

/-- 'bioscopelaw05.LicenceKnown': WHATEVER THE INPUT: true; the input reads as it did. -/
def licenceKnownSpec : ChangeSpec := { name := "licenceKnown", fn := fun _ => fun
  | [] => { results := [.lit (.bool true)], args := [] }
  | _ => none }
def licenceKnownRow : OpenClaim := { program := "ytkifeiienlkmcaadoor", sum := "b6016bd4b55888ff10197c95f14ef91e9ebe5a7d9a24083ca688c856cf011749", func := "bioscope/bioscopelaw05.LicenceKnown", spec := "licenceKnown", unfollowed := true, recurses := true, named := ["bioscope/licence.reasons", "bioscope/licence.nobody"], plainKeys := false, apart := false, laid := [("bioscope/licence.reasons", laid_bioscope_licence_reasons), ("bioscope/licence.nobody", laid_bioscope_licence_nobody)] }
def LicenceKnownSaid : Prop := licenceKnownRow.holds Tryd.pinned (OpenSpec.ofChange licenceKnownSpec)

/-- ITS FALSE NEIGHBOUR: 'it returns false'. Refute it at one input. -/
def licenceKnownWrong : ChangeSpec := { name := "licenceKnown", fn := fun _ => fun
  | [] => { results := [.lit (.bool false)], args := [] }
  | _ => none }
def LicenceKnownWrongFalsely : Prop := licenceKnownRow.holds Tryd.pinned (OpenSpec.ofChange licenceKnownWrong)

/- THE SECOND FORM. 'bulk': how many values and letters a reading holds, each counted each time it is reached (what is shared counts as often as it is met; a slice's spare places count too). A statement '..UptoSaid' is the law's where the arguments, and the package variables that the reading takes, are together of bulk at most 1048576: NARROWER than '..Said'. Prove '..Said' where nothing that the law and all that it calls make is longer than what came in: it says more and counts as full. Else prove '..UptoSaid'. A law counts once. -/
mutual
def uptoBulk {H : Type} : DataW H → Nat
  | .lit (.string bytes) => bytes.length + 1
  | .lit _ => 1
  | .nil => 1
  | .ptr d => uptoBulk d + 1
  | .slice elems spare => uptoBulkAll elems + uptoBulkAll spare + 1
  | .agg parts => uptoBulkAll parts + 1
  | .iface _ d => uptoBulk d + 1
  | .map entries => uptoBulkEntries entries + 1
  | .held _ => 1
def uptoBulkAll {H : Type} : List (DataW H) → Nat
  | [] => 0
  | d :: r => uptoBulk d + uptoBulkAll r
def uptoBulkEntries {H : Type} : List (Lit × DataW H) → Nat
  | [] => 0
  | x :: r => uptoBulkEntry x + uptoBulkEntries r
def uptoBulkEntry {H : Type} : Lit × DataW H → Nat
  | (.string bytes, d) => bytes.length + uptoBulk d + 1
  | (_, d) => uptoBulk d + 1
 end
def uptoSmall : (H : Type) → List (DataW H) → Bool := fun _ ds => decide (uptoBulkAll ds ≤ 1048576)
def OpenSpec.upto (s : _root_.Go.ChangeSpec) : _root_.Go.OpenSpec := { _root_.Go.OpenSpec.ofChange s with cond := some uptoSmall }

/-- 'bioscopelaw05.LicenceWhys', WHERE WHAT IT READS IS OF BULK AT MOST 1048576: true; the input reads as it did. -/
def licenceWhysUptoRow : OpenClaim := { program := "ytkifeiienlkmcaadoor", sum := "b6016bd4b55888ff10197c95f14ef91e9ebe5a7d9a24083ca688c856cf011749", func := "bioscope/bioscopelaw05.LicenceWhys", spec := "licenceWhys", unfollowed := true, recurses := true, named := ["bioscope/licence.reasons", "bioscope/licence.nobody"], plainKeys := false, apart := false, laid := [("bioscope/licence.reasons", laid_bioscope_licence_reasons), ("bioscope/licence.nobody", laid_bioscope_licence_nobody)], narrowed := true }
def LicenceWhysUptoSaid : Prop := licenceWhysUptoRow.holds Tryd.pinned (OpenSpec.upto licenceWhysSpec)

/-- 'bioscopelaw05.LicencePlans', WHERE WHAT IT READS IS OF BULK AT MOST 1048576: true; the input reads as it did. -/
def licencePlansUptoRow : OpenClaim := { program := "ytkifeiienlkmcaadoor", sum := "b6016bd4b55888ff10197c95f14ef91e9ebe5a7d9a24083ca688c856cf011749", func := "bioscope/bioscopelaw05.LicencePlans", spec := "licencePlans", unfollowed := true, recurses := true, named := ["bioscope/licence.reasons", "bioscope/licence.nobody"], plainKeys := false, apart := false, laid := [("bioscope/licence.reasons", laid_bioscope_licence_reasons), ("bioscope/licence.nobody", laid_bioscope_licence_nobody)], narrowed := true }
def LicencePlansUptoSaid : Prop := licencePlansUptoRow.holds Tryd.pinned (OpenSpec.upto licencePlansSpec)

/-- 'bioscopelaw05.LicenceFees', WHERE WHAT IT READS IS OF BULK AT MOST 1048576: true; the input reads as it did. -/
def licenceFeesUptoRow : OpenClaim := { program := "ytkifeiienlkmcaadoor", sum := "b6016bd4b55888ff10197c95f14ef91e9ebe5a7d9a24083ca688c856cf011749", func := "bioscope/bioscopelaw05.LicenceFees", spec := "licenceFees", unfollowed := true, recurses := true, named := ["bioscope/licence.nobody", "bioscope/licence.reasons"], plainKeys := false, apart := false, laid := [("bioscope/licence.reasons", laid_bioscope_licence_reasons), ("bioscope/licence.nobody", laid_bioscope_licence_nobody)], narrowed := true }
def LicenceFeesUptoSaid : Prop := licenceFeesUptoRow.holds Tryd.pinned (OpenSpec.upto licenceFeesSpec)

/-- 'bioscopelaw05.LicenceMosts', WHERE WHAT IT READS IS OF BULK AT MOST 1048576: true; the input reads as it did. -/
def licenceMostsUptoRow : OpenClaim := { program := "ytkifeiienlkmcaadoor", sum := "b6016bd4b55888ff10197c95f14ef91e9ebe5a7d9a24083ca688c856cf011749", func := "bioscope/bioscopelaw05.LicenceMosts", spec := "licenceMosts", unfollowed := true, recurses := true, named := ["bioscope/licence.nobody", "bioscope/licence.reasons"], plainKeys := false, apart := false, laid := [("bioscope/licence.reasons", laid_bioscope_licence_reasons), ("bioscope/licence.nobody", laid_bioscope_licence_nobody)], narrowed := true }
def LicenceMostsUptoSaid : Prop := licenceMostsUptoRow.holds Tryd.pinned (OpenSpec.upto licenceMostsSpec)

/-- 'bioscopelaw05.LicenceFine', WHERE WHAT IT READS IS OF BULK AT MOST 1048576: true; the input reads as it did. -/
def licenceFineUptoRow : OpenClaim := { program := "ytkifeiienlkmcaadoor", sum := "b6016bd4b55888ff10197c95f14ef91e9ebe5a7d9a24083ca688c856cf011749", func := "bioscope/bioscopelaw05.LicenceFine", spec := "licenceFine", unfollowed := true, recurses := true, named := ["bioscope/licence.reasons", "bioscope/licence.nobody"], plainKeys := false, apart := false, laid := [("bioscope/licence.reasons", laid_bioscope_licence_reasons), ("bioscope/licence.nobody", laid_bioscope_licence_nobody)], narrowed := true }
def LicenceFineUptoSaid : Prop := licenceFineUptoRow.holds Tryd.pinned (OpenSpec.upto licenceFineSpec)

/-- 'bioscopelaw05.LicenceOver', WHERE WHAT IT READS IS OF BULK AT MOST 1048576: true; the input reads as it did. -/
def licenceOverUptoRow : OpenClaim := { program := "ytkifeiienlkmcaadoor", sum := "b6016bd4b55888ff10197c95f14ef91e9ebe5a7d9a24083ca688c856cf011749", func := "bioscope/bioscopelaw05.LicenceOver", spec := "licenceOver", unfollowed := true, recurses := true, named := ["bioscope/licence.reasons", "bioscope/licence.nobody"], plainKeys := false, apart := false, laid := [("bioscope/licence.reasons", laid_bioscope_licence_reasons), ("bioscope/licence.nobody", laid_bioscope_licence_nobody)], narrowed := true }
def LicenceOverUptoSaid : Prop := licenceOverUptoRow.holds Tryd.pinned (OpenSpec.upto licenceOverSpec)

/-- 'bioscopelaw05.LicenceCheap', WHERE WHAT IT READS IS OF BULK AT MOST 1048576: true; the input reads as it did. -/
def licenceCheapUptoRow : OpenClaim := { program := "ytkifeiienlkmcaadoor", sum := "b6016bd4b55888ff10197c95f14ef91e9ebe5a7d9a24083ca688c856cf011749", func := "bioscope/bioscopelaw05.LicenceCheap", spec := "licenceCheap", unfollowed := true, recurses := true, named := ["bioscope/licence.reasons", "bioscope/licence.nobody"], plainKeys := false, apart := false, laid := [("bioscope/licence.reasons", laid_bioscope_licence_reasons), ("bioscope/licence.nobody", laid_bioscope_licence_nobody)], narrowed := true }
def LicenceCheapUptoSaid : Prop := licenceCheapUptoRow.holds Tryd.pinned (OpenSpec.upto licenceCheapSpec)

/-- 'bioscopelaw05.LicenceInTime', WHERE WHAT IT READS IS OF BULK AT MOST 1048576: true; the input reads as it did. -/
def licenceInTimeUptoRow : OpenClaim := { program := "ytkifeiienlkmcaadoor", sum := "b6016bd4b55888ff10197c95f14ef91e9ebe5a7d9a24083ca688c856cf011749", func := "bioscope/bioscopelaw05.LicenceInTime", spec := "licenceInTime", unfollowed := true, recurses := true, named := ["bioscope/licence.nobody", "bioscope/licence.reasons"], plainKeys := false, apart := false, laid := [("bioscope/licence.reasons", laid_bioscope_licence_reasons), ("bioscope/licence.nobody", laid_bioscope_licence_nobody)], narrowed := true }
def LicenceInTimeUptoSaid : Prop := licenceInTimeUptoRow.holds Tryd.pinned (OpenSpec.upto licenceInTimeSpec)

/-- 'bioscopelaw05.LicenceEasier', WHERE WHAT IT READS IS OF BULK AT MOST 1048576: true; the input reads as it did. -/
def licenceEasierUptoRow : OpenClaim := { program := "ytkifeiienlkmcaadoor", sum := "b6016bd4b55888ff10197c95f14ef91e9ebe5a7d9a24083ca688c856cf011749", func := "bioscope/bioscopelaw05.LicenceEasier", spec := "licenceEasier", unfollowed := true, recurses := true, named := ["bioscope/licence.reasons", "bioscope/licence.nobody"], plainKeys := false, apart := false, laid := [("bioscope/licence.reasons", laid_bioscope_licence_reasons), ("bioscope/licence.nobody", laid_bioscope_licence_nobody)], narrowed := true }
def LicenceEasierUptoSaid : Prop := licenceEasierUptoRow.holds Tryd.pinned (OpenSpec.upto licenceEasierSpec)

/-- 'bioscopelaw05.LicenceMost', WHERE WHAT IT READS IS OF BULK AT MOST 1048576: true; the input reads as it did. -/
def licenceMostUptoRow : OpenClaim := { program := "ytkifeiienlkmcaadoor", sum := "b6016bd4b55888ff10197c95f14ef91e9ebe5a7d9a24083ca688c856cf011749", func := "bioscope/bioscopelaw05.LicenceMost", spec := "licenceMost", unfollowed := true, recurses := true, named := ["bioscope/licence.reasons", "bioscope/licence.nobody"], plainKeys := false, apart := false, laid := [("bioscope/licence.reasons", laid_bioscope_licence_reasons), ("bioscope/licence.nobody", laid_bioscope_licence_nobody)], narrowed := true }
def LicenceMostUptoSaid : Prop := licenceMostUptoRow.holds Tryd.pinned (OpenSpec.upto licenceMostSpec)

/-- 'bioscopelaw05.LicenceKnown', WHERE WHAT IT READS IS OF BULK AT MOST 1048576: true; the input reads as it did. -/
def licenceKnownUptoRow : OpenClaim := { program := "ytkifeiienlkmcaadoor", sum := "b6016bd4b55888ff10197c95f14ef91e9ebe5a7d9a24083ca688c856cf011749", func := "bioscope/bioscopelaw05.LicenceKnown", spec := "licenceKnown", unfollowed := true, recurses := true, named := ["bioscope/licence.reasons", "bioscope/licence.nobody"], plainKeys := false, apart := false, laid := [("bioscope/licence.reasons", laid_bioscope_licence_reasons), ("bioscope/licence.nobody", laid_bioscope_licence_nobody)], narrowed := true }
def LicenceKnownUptoSaid : Prop := licenceKnownUptoRow.holds Tryd.pinned (OpenSpec.upto licenceKnownSpec)

end Rows
end Go.Proofs.YtkifeiienlkmcaaDoor
