/-
  What the listed variables hold when a call begins, in the machine's words; the closed facts that each row of the seat asks.
-/
import Derived.Test.YtkifeiienlkmcaaDoorLTab0
import Derived.Test.YtkifeiienlkmcaaDoorAmJ
import Derived.Test.YtkifeiienlkmcaaDoorTie
import Derived.Test.YtkifeiienlkmcaaDoorCards
import Derived.LaidMore
import Derived.Stop.Joined
set_option linter.all false
namespace Go.Proofs.YtkifeiienlkmcaaDoor
open Go Go.ChangeShapes Go.WideShapes Go.ChangeAt Go.RowKit Go.Proofs.AM

abbrev laid2 : List (String × DataW Unit) := [("bioscope/licence.reasons", Rows.laid_bioscope_licence_reasons), ("bioscope/licence.nobody", Rows.laid_bioscope_licence_nobody)]
theorem own : ownKnob Tryd.prog.godebug = none := by kernel_rfl
theorem kids : Kids Tryd.prog (· < Tryd.prog.types.size) := kids_rows (by kernel_rfl) (by kernel_rfl)
theorem full : ∀ t e, t < Tryd.prog.types.size → Tryd.prog.underlying t = some (.slice e) → 0 < Tryd.prog.cellsOf e := slices_full_of Tryd.prog (by kernel_rfl)
theorem gReasons : Tryd.prog.globalNamed "bioscope/licence.reasons" = some 0 := by kernel_rfl
theorem gNobody : Tryd.prog.globalNamed "bioscope/licence.nobody" = some 1 := by kernel_rfl
theorem tReasons : (Tryd.prog.globals[0]?).map (·.type) = some 95 := by kernel_rfl
theorem tNobody : (Tryd.prog.globals[1]?).map (·.type) = some 55 := by kernel_rfl
/-- The door's own heap meets the condition. -/
theorem door_met (os : Os) (args : Array Value) (new : Array Obj) : laidMetH Tryd.prog laid2 ((World.doorLaid Tryd.prog 400 os).forCall (fun _ _ => 0) ⟨#[], args, []⟩).memory :=
  laidMetH_of_parts3 (fuel := 8) (laidMet_of_run' 8 (by kernel_rfl) (by kernel_rfl)) (by kernel_rfl) (by kernel_rfl)
theorem heap_of_var {W : World} {n : String} {g : Nat} {cs : Array Value} (hg : Tryd.prog.globalNamed n = some g) (h : W.var? Tryd.prog n = some cs) : ∃ t fr, W.heap[g]? = some (.cells cs t fr) := by
  simp only [World.var?, hg, Option.bind_some] at h
  split at h
  · rename_i c t fr hb
    cases h
    exact ⟨t, fr, hb⟩
  · cases h
/-- What the condition gives. -/
theorem of_laid {W : World} (h : laidMetH Tryd.prog laid2 W) : ∀ g cs, Tryd.G g = some cs → g < W.heap.size ∧ FrzR (Cf.all W) W g cs := by
  obtain ⟨g, t, cs, fuel, p, hg, ht, hv, hd⟩ := h.funcs (n := "bioscope/licence.reasons") (List.mem_cons_self ..)
  obtain rfl := Option.some.inj (gReasons.symm.trans hg)
  obtain rfl := Option.some.inj (tReasons.symm.trans ht)
  obtain ⟨ty0, fr0, hh0⟩ := heap_of_var hg hv
  have hp : laidMet Tryd.prog [("bioscope/licence.nobody", Rows.laid_bioscope_licence_nobody)] W := (show laidMet Tryd.prog _ W ∧ handlesMet Tryd.prog _ W from h).1
  obtain ⟨ps, ⟨g1, t1, cs1, f1, p1, q1, hg1, ht1, hv1, hd1, _, _⟩, _, _⟩ := hp
  obtain rfl := Option.some.inj (gNobody.symm.trans hg1)
  obtain rfl := Option.some.inj (tNobody.symm.trans ht1)
  obtain ⟨ty1, fr1, hh1⟩ := heap_of_var hg1 hv1
  have a0 : CL (Cf.all W) W [.fn 128 [] [], .fn 129 [] [], .fn 130 [] [], .fn 131 [] []] cs.toList := by
    have hd' : DataW.trod (funcToken Tryd.prog) Tryd.prog W 0 (fun _ => true) true fuel 95 cs.toList = some (.agg [.held [40, 98, 105, 111, 115, 99, 111, 112, 101, 47, 108, 105, 99, 101, 110, 99, 101, 46, 116, 111, 119, 110, 41, 46, 117, 110, 99, 111, 118, 101, 114, 101, 100], .held [40, 98, 105, 111, 115, 99, 111, 112, 101, 47, 108, 105, 99, 101, 110, 99, 101, 46, 116, 111, 119, 110, 41, 46, 98, 97, 114, 114, 101, 100], .held [40, 98, 105, 111, 115, 99, 111, 112, 101, 47, 108, 105, 99, 101, 110, 99, 101, 46, 116, 111, 119, 110, 41, 46, 102, 111, 114, 98, 105, 100, 100, 101, 110], .held [40, 98, 105, 111, 115, 99, 111, 112, 101, 47, 108, 105, 99, 101, 110, 99, 101, 46, 116, 111, 119, 110, 41, 46, 108, 97, 116, 101]], p) := hd
    obtain ⟨xs, m, _, hx, hl, hn, hel⟩ := DataW.trod_array Tryd.underlying95 hd'
    have c94 : Tryd.prog.cellsOf 94 = 1 := by kernel_rfl
    have c95 : Tryd.prog.cellsOf 95 = 4 := by kernel_rfl
    rw [c95] at hl
    rw [c94] at hel
    obtain ⟨l⟩ := cs
    match l, hl with
    | [v0, v1, v2, v3], _ =>
      match xs, hn with
      | [x0, x1, x2, x3], _ =>
        simp only [Prod.mk.injEq, DataW.agg.injEq, List.map_cons, List.map_nil] at hx
        have h0 := hel 0 (by decide)
        have h1 := hel 1 (by decide)
        have h2 := hel 2 (by decide)
        have h3 := hel 3 (by decide)
        simp only [List.cons.injEq, and_true] at hx
        obtain ⟨⟨e0, e1, e2, e3⟩, _⟩ := hx
        obtain ⟨x0, q0⟩ := x0
        obtain ⟨x1, q1⟩ := x1
        obtain ⟨x2, q2⟩ := x2
        obtain ⟨x3, q3⟩ := x3
        simp only at e0 e1 e2 e3
        subst e0 e1 e2 e3
        obtain rfl := func_of_trod (f0 := 128) Tryd.underlying94 (by kernel_rfl) h0
        obtain rfl := func_of_trod (f0 := 129) Tryd.underlying94 (by kernel_rfl) h1
        obtain rfl := func_of_trod (f0 := 130) Tryd.underlying94 (by kernel_rfl) h2
        obtain rfl := func_of_trod (f0 := 131) Tryd.underlying94 (by kernel_rfl) h3
        exact CL.cons (.fn 128 [] [] [] [] rfl rfl (by simp) (by simp)) rfl (CL.cons (.fn 129 [] [] [] [] rfl rfl (by simp) (by simp)) rfl (CL.cons (.fn 130 [] [] [] [] rfl rfl (by simp) (by simp)) rfl (CL.cons (.fn 131 [] [] [] [] rfl rfl (by simp) (by simp)) rfl (CL.nil _ _))))
  have a1 : CL (Cf.all W) W [.int .i64 (-1), .int .i64 (-1)] cs1.toList := by
    have hcl := trod_CL 3 f1 55 cs1.toList (_, p1) (by kernel_rfl) hd1
    exact hcl
  intro g cs e
  unfold Tryd.G at e
  split at e
  · cases e
    exact ⟨(Array.getElem?_eq_some_iff.1 hh0).1, _, _, _, hh0, cs.toList, [], by simp, a0⟩
  · cases e
    exact ⟨(Array.getElem?_eq_some_iff.1 hh1).1, _, _, _, hh1, cs1.toList, [], by simp, a1⟩
  · cases e
end Go.Proofs.YtkifeiienlkmcaaDoor
