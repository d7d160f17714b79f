/-
  LicenceKnown returns true, and each argument reads afterwards as it read before (there is none); the listed variables hold what the program's text lays in them.
-/
import Derived.Test.YtkifeiienlkmcaaDoorLKn7
import Derived.Test.YtkifeiienlkmcaaDoorLRow0
set_option linter.all false
namespace Go.Proofs.YtkifeiienlkmcaaDoor
open Go Go.ChangeShapes Go.WideShapes Go.ChangeAt Go.RowKit Go.Proofs.AM

def tabK : List Ent := [⟨13, [], .bool true⟩]
theorem tabK_ok : TabsOk Tryd.prog Tryd.fns Tryd.G tabK := .cons Tryd.k208 tab_nil
theorem known_call : callE (envT Tryd.fns Tryd.G tabK) false (.fn 13 [] []) [] empty = some (.bool true, empty) := by
  rw [callE_eq]
  rfl

set_option maxRecDepth 100000 in
theorem known_lifted (os : Os) (started : os.Started) (H : Type) (enc : TypeId × Value → H) :
    ReturnsInHanded {} Tryd.checked os 13 .any (fun w args => (Rows.licenceKnownSpec.pre enc Tryd.prog Tryd.f13 [] false w args ∧ laidMetH Tryd.prog laid2 w) ∧ sizedMet enc Tryd.prog Tryd.f13 (OpenSpec.ofChange Rows.licenceKnownSpec) false w args)
      (Rows.licenceKnownSpec.post enc Tryd.prog Tryd.f13 false true false false) := by
  refine returnsInHanded_of_change_and (C := Tryd.checked) (X := fun w _ => laidMetH Tryd.prog laid2 w) (fun _ _ _ hh h => h.of_heap hh) own started (by kernel_rfl) Tryd.func13
    (ChangeSpec.witness_shaped (enc := enc) (C := Tryd.checked) (os := os) (X := fun w _ => laidMetH Tryd.prog laid2 w) false (World.doorLaid Tryd.prog 400 os) #[] 8 rfl (World.shaped_of_RefB (by kernel_rfl) (by kernel_rfl)) (by kernel_rfl) (by kernel_rfl) (by kernel_rfl) (door_met os _ #[])) ?_
  intro W base args ds gs before hval0 hW _ _ hL _
  have hW' := hW
  obtain ⟨p, q, hA0, hV, rfl, hfz, hnd⟩ := hW
  have hA : DataW.TrodAll enc Tryd.prog W 0 (fun _ => true) true Tryd.f13.params.toList args.toList ds p := hA0
  rw [Tryd.params13] at hA
  obtain ⟨rfl, rfl, rfl⟩ := trodAll_none hA
  obtain ⟨rfl, rfl⟩ := trodVars_none hV
  refine (whole (envT_ok Tryd.base tabK_ok) (of_laid hL) (vs := []) ⟨rfl, by simp⟩ known_call).mono fun e W' ⟨v, he, ⟨c', hv⟩, hfr, _, hos, _, hout⟩ => ?_
  cases hv
  exact ⟨_, he, post_true hW' rfl rfl rfl rfl (by kernel_rfl) Tryd.underlying4 kids full (by rw [Tryd.params13]; simp) hfr hos hout⟩
theorem known_holds : Rows.LicenceKnownSaid :=
  OpenClaim.holds_of_wide 13 Tryd.f13 rfl rfl rfl rfl rfl rfl rfl ⟨rfl, rfl, rfl, rfl, rfl⟩ rfl rfl rfl rfl rfl (by kernel_rfl) Tryd.func13 (by kernel_rfl)
    (of_decide_eq_true (by kernel_rfl)) (by unfold Func.isWrapper; first | (rw [if_pos (by decide +kernel)]; kernel_rfl) | (rw [if_neg (by decide +kernel)]; exact ⟨rfl, rfl⟩))
    (fun os started H enc _ => known_lifted os started H enc)
theorem licenceKnown_card : Rows.LicenceKnownCardSaid :=
  Claim7.holds_tied_plain_at .later [] [.funcs, .data] true (true, "437e3c37619c3260e62310a36d884f5b71c77ba8cf21ddf0ff9a4a43c5141644") false
    known_holds (fun _ h => by cases h) (by kernel_rfl) (fun _ h => by cases h) licenceKnown_row_tie rfl ⟨rfl, rfl⟩ (by kernel_rfl) rfl
    (fun f fn hf hfn => by
      obtain rfl : f = 13 := Option.some.inj ((show Tryd.prog.funcNamed "bioscope/bioscopelaw05.LicenceKnown" = some 13 by kernel_rfl).symm.trans hf) |>.symm
      obtain rfl : fn = Tryd.f13 := (Option.some.inj (Tryd.func13.symm.trans hfn)).symm
      exact ⟨by kernel_rfl, fun j t ht => by
        rw [Tryd.params13] at ht
        simp at ht⟩)
    (by kernel_rfl)
end Go.Proofs.YtkifeiienlkmcaaDoor
