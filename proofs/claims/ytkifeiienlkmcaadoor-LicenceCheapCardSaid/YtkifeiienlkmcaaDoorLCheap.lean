/-
  LicenceCheap returns true for every input, and each argument reads afterwards as it read before; the listed variables hold what the program's text lays in them.
-/
import Derived.Test.YtkifeiienlkmcaaDoorLTab5
import Derived.Test.YtkifeiienlkmcaaDoorLawA
import Derived.Test.YtkifeiienlkmcaaDoorLShape
set_option linter.all false
namespace Go.Proofs.YtkifeiienlkmcaaDoor
open Go Go.ChangeShapes Go.WideShapes Go.ChangeAt Go.RowKit Go.Proofs.AM

set_option maxRecDepth 100000 in
theorem licenceCheap_lifted (os : Os) (started : os.Started) (H : Type) (enc : TypeId × Value → H) :
    ReturnsInHanded {} Tryd.checked os 9 .any (fun w args => (Rows.licenceCheapSpec.pre enc Tryd.prog Tryd.f9 [] false w args ∧ laidMetH Tryd.prog laid2 w) ∧ sizedMet enc Tryd.prog Tryd.f9 (OpenSpec.ofChange Rows.licenceCheapSpec) false w args)
      (Rows.licenceCheapSpec.post enc Tryd.prog Tryd.f9 false true false false) := by
  refine returnsInHanded_of_change_and (C := Tryd.checked) (X := fun w _ => laidMetH Tryd.prog laid2 w) (fun _ _ _ hh h => h.of_heap hh) own started (by kernel_rfl) Tryd.func9
    (ChangeSpec.witness_shaped (enc := enc) (C := Tryd.checked) (os := os) (X := fun w _ => laidMetH Tryd.prog laid2 w) false (World.doorLaid Tryd.prog 400 os) #[.agg #[.slice none 0 0, .int .i64 0, .slice none 0 0, .int .i64 0, .int .i64 0, .slice none 0 0], .int .i64 0, .slice none 0 0, .slice none 0 0] 8 rfl (World.shaped_of_RefB (by kernel_rfl) (by kernel_rfl)) (by kernel_rfl) (by kernel_rfl) (by kernel_rfl) (door_met os _ #[])) ?_
  intro W base args ds gs before hval0 hW _ _ hL _
  have hval : ∀ (j : Nat) t v, Tryd.f9.params[j]? = some t → args[j]? = some v → Value.okWide Tryd.prog W .any base t v := hval0
  have hW' := hW
  obtain ⟨p, q, hA0, hV, rfl, hfz, hnd⟩ := hW
  have hA : DataW.TrodAll enc Tryd.prog W 0 (fun _ => true) true Tryd.f9.params.toList args.toList ds p := hA0
  rw [Tryd.params9] at hA hval
  obtain ⟨v0, vs0, d0, ds0, p0, q0, hargs, rfl, rfl, h0, r0⟩ := trodAll_cons hA
  obtain ⟨v1, vs1, d1, ds1, p1, q1, rfl, rfl, rfl, h1, r1⟩ := trodAll_cons r0
  obtain ⟨v2, vs2, d2, ds2, p2, q2, rfl, rfl, rfl, h2, r2⟩ := trodAll_cons r1
  obtain ⟨v3, vs3, d3, ds3, p3, q3, rfl, rfl, rfl, h3, r3⟩ := trodAll_cons r2
  obtain ⟨rfl, rfl, rfl⟩ := trodAll_nil r3
  obtain rfl : args = #[v0, v1, v2, v3] := by cases args; simp_all
  obtain ⟨rfl, rfl⟩ := trodVars_none hV
  have a0 := arg_agg (d := 4) (by kernel_rfl) (by kernel_rfl) (hval 0 26 v0 rfl rfl) h0
  obtain ⟨t0, e0, f0⟩ := sh_town (Trod_Sh (d := 4) (by kernel_rfl) h0)
  rw [e0] at a0
  obtain ⟨x1, a1, w1⟩ := one_int (hval 1 3 v1 rfl rfl) h1
  obtain ⟨y2, z2, a2⟩ := one_slice Tryd.underlying35 (by kernel_rfl) (hval 2 35 v2 rfl rfl) h2
  obtain ⟨hd2, l2, e2, f2⟩ := sh_ints (Trod_Sh (d := 4) (by kernel_rfl) h2)
  rw [z2] at e2
  cases e2
  obtain ⟨y3, z3, a3⟩ := one_slice Tryd.underlying35 (by kernel_rfl) (hval 3 35 v3 rfl rfl) h3
  obtain ⟨hd3, l3, e3, f3⟩ := sh_ints (Trod_Sh (d := 4) (by kernel_rfl) h3)
  rw [z3] at e3
  cases e3
  have hts : ∀ t ∈ Tryd.f9.params.toList, t < Tryd.prog.types.size := fun t ht => by
    rw [Tryd.params9] at ht
    have hm : t ∈ [26, 3, 35, 35] := by simpa using ht
    have hall : ([26, 3, 35, 35].all fun u => decide (u < Tryd.prog.types.size)) = true := by kernel_rfl
    simpa using List.all_eq_true.1 hall t hm
  refine (whole (envT_ok Tryd.base (.cons Tryd.stamped_ok tab_nil)) (of_laid hL) (VL_cons a0 (VL_cons a1 (VL_cons a2 (VL_cons a3 (VL_nil _ _))))) (Tryd.cheapLaw_ev f0 f2 f3 x1 empty)).mono fun e W' ⟨v, he, ⟨c', hv⟩, hfr, _, hos, _, hout⟩ => ?_
  cases hv
  exact ⟨_, he, post_true hW' rfl rfl rfl rfl (by kernel_rfl) Tryd.underlying4 kids full hts hfr hos hout⟩
theorem licenceCheap_holds : Rows.LicenceCheapSaid :=
  OpenClaim.holds_of_wide 9 Tryd.f9 rfl rfl rfl rfl rfl rfl rfl ⟨rfl, rfl, rfl, rfl, rfl⟩ rfl rfl rfl rfl rfl (by kernel_rfl) Tryd.func9 (by kernel_rfl)
    (of_decide_eq_true (by kernel_rfl)) (by unfold Func.isWrapper; first | (rw [if_pos (by decide +kernel)]; kernel_rfl) | (rw [if_neg (by decide +kernel)]; exact ⟨rfl, rfl⟩))
    (fun os started H enc _ => licenceCheap_lifted os started H enc)
theorem licenceCheap_card : Rows.LicenceCheapCardSaid :=
  Claim7.holds_tied_plain_at .later [] [.funcs, .data] true (true, "437e3c37619c3260e62310a36d884f5b71c77ba8cf21ddf0ff9a4a43c5141644") false
    licenceCheap_holds (fun _ h => by cases h) (by kernel_rfl) (fun _ h => by cases h) licenceCheap_row_tie rfl ⟨rfl, rfl⟩ (by kernel_rfl) rfl
    (fun f fn hf hfn => by
      obtain rfl : f = 9 := Option.some.inj ((show Tryd.prog.funcNamed "bioscope/bioscopelaw05.LicenceCheap" = some 9 by kernel_rfl).symm.trans hf) |>.symm
      obtain rfl : fn = Tryd.f9 := (Option.some.inj (Tryd.func9.symm.trans hfn)).symm
      exact ⟨by kernel_rfl, fun j t ht => by
        rw [Tryd.params9] at ht
        have hm : t ∈ [26, 3, 35, 35] := by simpa using Array.mem_of_getElem? ht
        have hall : ([26, 3, 35, 35].all fun u => !Tryd.prog.wantsStandIn u) = true := by kernel_rfl
        exact (show Tryd.prog.wantsStandIn t = false by simpa using List.all_eq_true.1 hall t hm)⟩)
    (by kernel_rfl)
end Go.Proofs.YtkifeiienlkmcaaDoor
