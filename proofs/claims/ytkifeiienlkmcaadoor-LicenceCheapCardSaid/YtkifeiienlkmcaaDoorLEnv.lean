/-
  The resolved code is the program's: printed by env.py.
-/
import Derived.Test.YtkifeiienlkmcaaDoorAmF
import Derived.Test.YtkifeiienlkmcaaDoorCode
import Derived.Test.YtkifeiienlkmcaaDoorChecked
import Derived.KernelRfl
set_option linter.all false
namespace Go.Proofs.Tryd
open Go Go.Proofs.AM
set_option maxRecDepth 100000
theorem ok9 : okF Tryd.prog A9 Tryd.f9 = true := by kernel_rfl
theorem ok14 : okF Tryd.prog A14 Tryd.f14 = true := by kernel_rfl
theorem ok16 : okF Tryd.prog A16 Tryd.f16 = true := by kernel_rfl
theorem ok18 : okF Tryd.prog A18 Tryd.f18 = true := by kernel_rfl
theorem ok20 : okF Tryd.prog A20 Tryd.f20 = true := by kernel_rfl
theorem ok21 : okF Tryd.prog A21 Tryd.f21 = true := by kernel_rfl
theorem ok23 : okF Tryd.prog A23 Tryd.f23 = true := by kernel_rfl
theorem ok24 : okF Tryd.prog A24 Tryd.f24 = true := by kernel_rfl
theorem ok26 : okF Tryd.prog A26 Tryd.f26 = true := by kernel_rfl
theorem ok29 : okF Tryd.prog A29 Tryd.f29 = true := by kernel_rfl
theorem ok30 : okF Tryd.prog A30 Tryd.f30 = true := by kernel_rfl
theorem ok31 : okF Tryd.prog A31 Tryd.f31 = true := by kernel_rfl
theorem ok33 : okF Tryd.prog A33 Tryd.f33 = true := by kernel_rfl
theorem ok35 : okF Tryd.prog A35 Tryd.f35 = true := by kernel_rfl
theorem ok36 : okF Tryd.prog A36 Tryd.f36 = true := by kernel_rfl
theorem ok37 : okF Tryd.prog A37 Tryd.f37 = true := by kernel_rfl
theorem ok39 : okF Tryd.prog A39 Tryd.f39 = true := by kernel_rfl
theorem ok40 : okF Tryd.prog A40 Tryd.f40 = true := by kernel_rfl
theorem ok42 : okF Tryd.prog A42 Tryd.f42 = true := by kernel_rfl
theorem ok43 : okF Tryd.prog A43 Tryd.f43 = true := by kernel_rfl
theorem ok44 : okF Tryd.prog A44 Tryd.f44 = true := by kernel_rfl
theorem ok45 : okF Tryd.prog A45 Tryd.f45 = true := by kernel_rfl
theorem ok46 : okF Tryd.prog A46 Tryd.f46 = true := by kernel_rfl
theorem ok49 : okF Tryd.prog A49 Tryd.f49 = true := by kernel_rfl
theorem ok50 : okF Tryd.prog A50 Tryd.f50 = true := by kernel_rfl
theorem ok51 : okF Tryd.prog A51 Tryd.f51 = true := by kernel_rfl
theorem ok52 : okF Tryd.prog A52 Tryd.f52 = true := by kernel_rfl
theorem ok53 : okF Tryd.prog A53 Tryd.f53 = true := by kernel_rfl
theorem ok54 : okF Tryd.prog A54 Tryd.f54 = true := by kernel_rfl
theorem ok55 : okF Tryd.prog A55 Tryd.f55 = true := by kernel_rfl
theorem ok57 : okF Tryd.prog A57 Tryd.f57 = true := by kernel_rfl
theorem ok58 : okF Tryd.prog A58 Tryd.f58 = true := by kernel_rfl
theorem ok61 : okF Tryd.prog A61 Tryd.f61 = true := by kernel_rfl
theorem ok62 : okF Tryd.prog A62 Tryd.f62 = true := by kernel_rfl
theorem ok63 : okF Tryd.prog A63 Tryd.f63 = true := by kernel_rfl
theorem ok64 : okF Tryd.prog A64 Tryd.f64 = true := by kernel_rfl
theorem ok65 : okF Tryd.prog A65 Tryd.f65 = true := by kernel_rfl
theorem ok68 : okF Tryd.prog A68 Tryd.f68 = true := by kernel_rfl
theorem ok69 : okF Tryd.prog A69 Tryd.f69 = true := by kernel_rfl
theorem ok70 : okF Tryd.prog A70 Tryd.f70 = true := by kernel_rfl
theorem ok71 : okF Tryd.prog A71 Tryd.f71 = true := by kernel_rfl
theorem ok72 : okF Tryd.prog A72 Tryd.f72 = true := by kernel_rfl
theorem ok73 : okF Tryd.prog A73 Tryd.f73 = true := by kernel_rfl
theorem ok76 : okF Tryd.prog A76 Tryd.f76 = true := by kernel_rfl
theorem ok77 : okF Tryd.prog A77 Tryd.f77 = true := by kernel_rfl
theorem ok78 : okF Tryd.prog A78 Tryd.f78 = true := by kernel_rfl
theorem ok79 : okF Tryd.prog A79 Tryd.f79 = true := by kernel_rfl
theorem ok80 : okF Tryd.prog A80 Tryd.f80 = true := by kernel_rfl
theorem ok82 : okF Tryd.prog A82 Tryd.f82 = true := by kernel_rfl
theorem ok84 : okF Tryd.prog A84 Tryd.f84 = true := by kernel_rfl
theorem ok85 : okF Tryd.prog A85 Tryd.f85 = true := by kernel_rfl
theorem ok88 : okF Tryd.prog A88 Tryd.f88 = true := by kernel_rfl
theorem ok91 : okF Tryd.prog A91 Tryd.f91 = true := by kernel_rfl
theorem ok92 : okF Tryd.prog A92 Tryd.f92 = true := by kernel_rfl
theorem ok93 : okF Tryd.prog A93 Tryd.f93 = true := by kernel_rfl
theorem ok94 : okF Tryd.prog A94 Tryd.f94 = true := by kernel_rfl
theorem ok95 : okF Tryd.prog A95 Tryd.f95 = true := by kernel_rfl
theorem ok96 : okF Tryd.prog A96 Tryd.f96 = true := by kernel_rfl
theorem ok98 : okF Tryd.prog A98 Tryd.f98 = true := by kernel_rfl
theorem ok99 : okF Tryd.prog A99 Tryd.f99 = true := by kernel_rfl
theorem ok100 : okF Tryd.prog A100 Tryd.f100 = true := by kernel_rfl
theorem ok101 : okF Tryd.prog A101 Tryd.f101 = true := by kernel_rfl
theorem ok102 : okF Tryd.prog A102 Tryd.f102 = true := by kernel_rfl
theorem ok103 : okF Tryd.prog A103 Tryd.f103 = true := by kernel_rfl
theorem ok104 : okF Tryd.prog A104 Tryd.f104 = true := by kernel_rfl
theorem ok105 : okF Tryd.prog A105 Tryd.f105 = true := by kernel_rfl
theorem ok106 : okF Tryd.prog A106 Tryd.f106 = true := by kernel_rfl
theorem ok107 : okF Tryd.prog A107 Tryd.f107 = true := by kernel_rfl
theorem ok108 : okF Tryd.prog A108 Tryd.f108 = true := by kernel_rfl
theorem ok109 : okF Tryd.prog A109 Tryd.f109 = true := by kernel_rfl
theorem ok110 : okF Tryd.prog A110 Tryd.f110 = true := by kernel_rfl
theorem ok111 : okF Tryd.prog A111 Tryd.f111 = true := by kernel_rfl
theorem ok128 : okF Tryd.prog A128 Tryd.f128 = true := by kernel_rfl
theorem ok129 : okF Tryd.prog A129 Tryd.f129 = true := by kernel_rfl
theorem ok130 : okF Tryd.prog A130 Tryd.f130 = true := by kernel_rfl
theorem ok131 : okF Tryd.prog A131 Tryd.f131 = true := by kernel_rfl
theorem mix : Tryd.prog.follows .mixedOrders = true := by kernel_rfl
theorem fns_ok (f : Nat) (af : AF) (h : fns f = some af) : ∃ fn, Tryd.prog.funcs[f]? = some fn ∧ okF Tryd.prog af fn = true := by
  unfold fns at h
  split at h
  · cases h; exact ⟨Tryd.f9, Tryd.func9, ok9⟩
  · cases h; exact ⟨Tryd.f14, Tryd.func14, ok14⟩
  · cases h; exact ⟨Tryd.f16, Tryd.func16, ok16⟩
  · cases h; exact ⟨Tryd.f18, Tryd.func18, ok18⟩
  · cases h; exact ⟨Tryd.f20, Tryd.func20, ok20⟩
  · cases h; exact ⟨Tryd.f21, Tryd.func21, ok21⟩
  · cases h; exact ⟨Tryd.f23, Tryd.func23, ok23⟩
  · cases h; exact ⟨Tryd.f24, Tryd.func24, ok24⟩
  · cases h; exact ⟨Tryd.f26, Tryd.func26, ok26⟩
  · cases h; exact ⟨Tryd.f29, Tryd.func29, ok29⟩
  · cases h; exact ⟨Tryd.f30, Tryd.func30, ok30⟩
  · cases h; exact ⟨Tryd.f31, Tryd.func31, ok31⟩
  · cases h; exact ⟨Tryd.f33, Tryd.func33, ok33⟩
  · cases h; exact ⟨Tryd.f35, Tryd.func35, ok35⟩
  · cases h; exact ⟨Tryd.f36, Tryd.func36, ok36⟩
  · cases h; exact ⟨Tryd.f37, Tryd.func37, ok37⟩
  · cases h; exact ⟨Tryd.f39, Tryd.func39, ok39⟩
  · cases h; exact ⟨Tryd.f40, Tryd.func40, ok40⟩
  · cases h; exact ⟨Tryd.f42, Tryd.func42, ok42⟩
  · cases h; exact ⟨Tryd.f43, Tryd.func43, ok43⟩
  · cases h; exact ⟨Tryd.f44, Tryd.func44, ok44⟩
  · cases h; exact ⟨Tryd.f45, Tryd.func45, ok45⟩
  · cases h; exact ⟨Tryd.f46, Tryd.func46, ok46⟩
  · cases h; exact ⟨Tryd.f49, Tryd.func49, ok49⟩
  · cases h; exact ⟨Tryd.f50, Tryd.func50, ok50⟩
  · cases h; exact ⟨Tryd.f51, Tryd.func51, ok51⟩
  · cases h; exact ⟨Tryd.f52, Tryd.func52, ok52⟩
  · cases h; exact ⟨Tryd.f53, Tryd.func53, ok53⟩
  · cases h; exact ⟨Tryd.f54, Tryd.func54, ok54⟩
  · cases h; exact ⟨Tryd.f55, Tryd.func55, ok55⟩
  · cases h; exact ⟨Tryd.f57, Tryd.func57, ok57⟩
  · cases h; exact ⟨Tryd.f58, Tryd.func58, ok58⟩
  · cases h; exact ⟨Tryd.f61, Tryd.func61, ok61⟩
  · cases h; exact ⟨Tryd.f62, Tryd.func62, ok62⟩
  · cases h; exact ⟨Tryd.f63, Tryd.func63, ok63⟩
  · cases h; exact ⟨Tryd.f64, Tryd.func64, ok64⟩
  · cases h; exact ⟨Tryd.f65, Tryd.func65, ok65⟩
  · cases h; exact ⟨Tryd.f68, Tryd.func68, ok68⟩
  · cases h; exact ⟨Tryd.f69, Tryd.func69, ok69⟩
  · cases h; exact ⟨Tryd.f70, Tryd.func70, ok70⟩
  · cases h; exact ⟨Tryd.f71, Tryd.func71, ok71⟩
  · cases h; exact ⟨Tryd.f72, Tryd.func72, ok72⟩
  · cases h; exact ⟨Tryd.f73, Tryd.func73, ok73⟩
  · cases h; exact ⟨Tryd.f76, Tryd.func76, ok76⟩
  · cases h; exact ⟨Tryd.f77, Tryd.func77, ok77⟩
  · cases h; exact ⟨Tryd.f78, Tryd.func78, ok78⟩
  · cases h; exact ⟨Tryd.f79, Tryd.func79, ok79⟩
  · cases h; exact ⟨Tryd.f80, Tryd.func80, ok80⟩
  · cases h; exact ⟨Tryd.f82, Tryd.func82, ok82⟩
  · cases h; exact ⟨Tryd.f84, Tryd.func84, ok84⟩
  · cases h; exact ⟨Tryd.f85, Tryd.func85, ok85⟩
  · cases h; exact ⟨Tryd.f88, Tryd.func88, ok88⟩
  · cases h; exact ⟨Tryd.f91, Tryd.func91, ok91⟩
  · cases h; exact ⟨Tryd.f92, Tryd.func92, ok92⟩
  · cases h; exact ⟨Tryd.f93, Tryd.func93, ok93⟩
  · cases h; exact ⟨Tryd.f94, Tryd.func94, ok94⟩
  · cases h; exact ⟨Tryd.f95, Tryd.func95, ok95⟩
  · cases h; exact ⟨Tryd.f96, Tryd.func96, ok96⟩
  · cases h; exact ⟨Tryd.f98, Tryd.func98, ok98⟩
  · cases h; exact ⟨Tryd.f99, Tryd.func99, ok99⟩
  · cases h; exact ⟨Tryd.f100, Tryd.func100, ok100⟩
  · cases h; exact ⟨Tryd.f101, Tryd.func101, ok101⟩
  · cases h; exact ⟨Tryd.f102, Tryd.func102, ok102⟩
  · cases h; exact ⟨Tryd.f103, Tryd.func103, ok103⟩
  · cases h; exact ⟨Tryd.f104, Tryd.func104, ok104⟩
  · cases h; exact ⟨Tryd.f105, Tryd.func105, ok105⟩
  · cases h; exact ⟨Tryd.f106, Tryd.func106, ok106⟩
  · cases h; exact ⟨Tryd.f107, Tryd.func107, ok107⟩
  · cases h; exact ⟨Tryd.f108, Tryd.func108, ok108⟩
  · cases h; exact ⟨Tryd.f109, Tryd.func109, ok109⟩
  · cases h; exact ⟨Tryd.f110, Tryd.func110, ok110⟩
  · cases h; exact ⟨Tryd.f111, Tryd.func111, ok111⟩
  · cases h; exact ⟨Tryd.f128, Tryd.func128, ok128⟩
  · cases h; exact ⟨Tryd.f129, Tryd.func129, ok129⟩
  · cases h; exact ⟨Tryd.f130, Tryd.func130, ok130⟩
  · cases h; exact ⟨Tryd.f131, Tryd.func131, ok131⟩
  · cases h
end Go.Proofs.Tryd
