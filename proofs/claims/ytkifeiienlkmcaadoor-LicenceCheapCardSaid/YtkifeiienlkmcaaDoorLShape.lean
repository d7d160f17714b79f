/-
  What is handed in, as towns, spans, licences and numbers.
-/
import Derived.Test.YtkifeiienlkmcaaDoorLRow0
import Derived.Test.YtkifeiienlkmcaaDoorLawA
set_option linter.all false
namespace Go.Proofs.YtkifeiienlkmcaaDoor
open Go Go.ChangeShapes Go.WideShapes Go.ChangeAt Go.RowKit Go.Proofs.AM

set_option maxRecDepth 100000
theorem row_flat {α : Type} (f : α → List AV) : ∀ l : List α, Tryd.row f l = (l.map f).flatten
  | [] => rfl
  | x :: l => by simp [Tryd.row, row_flat f l]
theorem pick_all {α : Type} {f : α → List AV} : ∀ {es : List (List AV)}, (∀ x ∈ es, ∃ a, x = f a) → ∃ l : List α, es = l.map f
  | [], _ => ⟨[], rfl⟩
  | x :: es, h => by
    obtain ⟨a, ha⟩ := h x (by simp)
    obtain ⟨l, hl⟩ := pick_all (es := es) (fun y hy => h y (List.mem_cons_of_mem _ hy))
    exact ⟨a :: l, by rw [ha, hl]; rfl⟩
theorem sh_int {d : Nat} {cs : List AV} (h : Sh Tryd.prog (d + 1) 3 cs) : ∃ n, cs = [.int .i64 n] ∧ (Lit.int .i64 n).wf = true := Sh_int Tryd.underlying3 h
theorem sh_row {α : Type} {f : α → List AV} {d ty e : Nat} {cs : List AV} (hu : Tryd.prog.underlying ty = some (.slice e)) (hel : ∀ x, Sh Tryd.prog d e x → ∃ a, x = f a) (h : Sh Tryd.prog (d + 1) ty cs) : ∃ (hd : Tryd.Hd) (l : List α), cs = [Tryd.lstA hd f l] ∧ l.length ≤ 9223372036854775807 := by
  obtain ⟨nl, ex, es, rfl, hm, hx⟩ := Sh_slice hu h
  obtain ⟨l, rfl⟩ := pick_all (fun x hxm => hel x (hx x hxm))
  refine ⟨⟨nl, ex⟩, l, ?_, by simpa [maxLen] using hm⟩
  simp [Tryd.lstA, row_flat]
theorem sh_kd {d : Nat} {cs : List AV} (h : Sh Tryd.prog (d + 2) 53 cs) : ∃ k, cs = Tryd.Kd.av k := by
  have h := Sh_struct Tryd.underlying53 h
  obtain ⟨a, b, rfl, h1, a2, b2, rfl, h2, a3, b3, rfl, h3, rfl⟩ := h
  obtain ⟨x, rfl, _⟩ := sh_int h1
  obtain ⟨y, rfl, _⟩ := sh_int h2
  obtain ⟨z, rfl, _⟩ := sh_int h3
  exact ⟨⟨x, y, z⟩, rfl⟩
theorem sh_sp {d : Nat} {cs : List AV} (h : Sh Tryd.prog (d + 2) 29 cs) : ∃ k, cs = Tryd.Sp.av k := by
  have h := Sh_struct Tryd.underlying29 h
  obtain ⟨a, b, rfl, h1, a2, b2, rfl, h2, rfl⟩ := h
  obtain ⟨x, rfl, _⟩ := sh_int h1
  obtain ⟨y, rfl, _⟩ := sh_int h2
  exact ⟨⟨x, y⟩, rfl⟩
theorem sh_pp {d : Nat} {cs : List AV} (h : Sh Tryd.prog (d + 2) 55 cs) : ∃ k, cs = Tryd.Pp.av k := by
  have h := Sh_struct Tryd.underlying55 h
  obtain ⟨a, b, rfl, h1, a2, b2, rfl, h2, rfl⟩ := h
  obtain ⟨x, rfl, _⟩ := sh_int h1
  obtain ⟨y, rfl, _⟩ := sh_int h2
  exact ⟨⟨x, y⟩, rfl⟩
theorem sh_town {cs : List AV} (h : Sh Tryd.prog 4 26 cs) : ∃ t : Tryd.Town, cs = t.cs ∧ t.Fits := by
  have h := Sh_struct Tryd.underlying26 h
  obtain ⟨a, b, rfl, h1, a2, b2, rfl, h2, a3, b3, rfl, h3, a4, b4, rfl, h4, a5, b5, rfl, h5, a6, b6, rfl, h6, rfl⟩ := h
  obtain ⟨kh, kinds, rfl, k1⟩ := sh_row (f := Tryd.Kd.av) Tryd.underlying22 (fun x hx => sh_kd hx) h1
  obtain ⟨p, rfl, _⟩ := sh_int h2
  obtain ⟨bh, barred, rfl, k2⟩ := sh_row (f := Tryd.Sp.av) Tryd.underlying23 (fun x hx => sh_sp hx) h3
  obtain ⟨fo, rfl, _⟩ := sh_int h4
  obtain ⟨cl, rfl, _⟩ := sh_int h5
  obtain ⟨hh, held, rfl, k3⟩ := sh_row (f := Tryd.Pp.av) Tryd.underlying24 (fun x hx => sh_pp hx) h6
  exact ⟨⟨kh, kinds, p, bh, barred, fo, cl, hh, held⟩, rfl, ⟨k1, k2, k3⟩⟩
theorem sh_ints {cs : List AV} (h : Sh Tryd.prog 4 35 cs) : ∃ hd l, cs = [Tryd.lstA hd Tryd.In.av l] ∧ l.length ≤ 9223372036854775807 :=
  sh_row (f := Tryd.In.av) Tryd.underlying35 (fun x hx => let ⟨n, e, _⟩ := sh_int hx; ⟨n, e⟩) h
theorem sh_papers {cs : List AV} (h : Sh Tryd.prog 4 24 cs) : ∃ hd l, cs = [Tryd.lstA hd Tryd.Pp.av l] ∧ l.length ≤ 9223372036854775807 :=
  sh_row (f := Tryd.Pp.av) Tryd.underlying24 (fun x hx => sh_pp hx) h
theorem sh_four {cs : List AV} (h : Sh Tryd.prog 4 67 cs) : ∃ a b c d, cs = [.int .i64 a, .int .i64 b, .int .i64 c, .int .i64 d] := by
  have h := Sh_array Tryd.underlying67 h
  obtain ⟨es, rfl, hl, hx⟩ := h
  match es, hl with
  | [a, b, c, d], _ =>
    obtain ⟨x, rfl, _⟩ := sh_int (hx a (by simp))
    obtain ⟨y, rfl, _⟩ := sh_int (hx b (by simp))
    obtain ⟨z, rfl, _⟩ := sh_int (hx c (by simp))
    obtain ⟨w, rfl, _⟩ := sh_int (hx d (by simp))
    exact ⟨x, y, z, w, rfl⟩
theorem sh_two {cs : List AV} (h : Sh Tryd.prog 4 79 cs) : ∃ a b, cs = [.int .i64 a, .int .i64 b] := by
  have h := Sh_array Tryd.underlying79 h
  obtain ⟨es, rfl, hl, hx⟩ := h
  match es, hl with
  | [a, b], _ =>
    obtain ⟨x, rfl, _⟩ := sh_int (hx a (by simp))
    obtain ⟨y, rfl, _⟩ := sh_int (hx b (by simp))
    exact ⟨x, y, rfl⟩
theorem sh_three {cs : List AV} (h : Sh Tryd.prog 4 27 cs) : ∃ a b c, cs = [.int .i64 a, .int .i64 b, .int .i64 c] := by
  have h := Sh_array Tryd.underlying27 h
  obtain ⟨es, rfl, hl, hx⟩ := h
  match es, hl with
  | [a, b, c], _ =>
    obtain ⟨x, rfl, _⟩ := sh_int (hx a (by simp))
    obtain ⟨y, rfl, _⟩ := sh_int (hx b (by simp))
    obtain ⟨z, rfl, _⟩ := sh_int (hx c (by simp))
    exact ⟨x, y, z, rfl⟩
theorem sh_spans {cs : List AV} (h : Sh Tryd.prog 4 30 cs) : ∃ a b c d, cs = [.int .i64 a, .int .i64 b, .int .i64 c, .int .i64 d] := by
  have h := Sh_array Tryd.underlying30 h
  obtain ⟨es, rfl, hl, hx⟩ := h
  match es, hl with
  | [a, b], _ =>
    obtain ⟨x, rfl⟩ := sh_sp (hx a (by simp))
    obtain ⟨y, rfl⟩ := sh_sp (hx b (by simp))
    exact ⟨x.low, x.high, y.low, y.high, rfl⟩
theorem VL_nil (c : Cf) (w : World) : VL c w [] [] := ⟨rfl, by simp⟩
theorem VL_cons {c : Cf} {w : World} {a : AV} {v : Value} {l : List AV} {vs : List Value} (h : VR c w a v) (hs : VL c w l vs) : VL c w (a :: l) (v :: vs) := by
  refine ⟨by simp [hs.1], fun k hk => ?_⟩
  cases k with
  | zero => simpa using h
  | succ k => simpa using hs.2 k (by simpa using hk)
/-- A number that is handed in. -/
theorem one_int {W : World} {H : Type} {enc : TypeId × Value → H} {b0 : Nat} {v : Value} {x : DataW H} {ps : List MemPlace} (hval : Value.okWide Tryd.prog W .any b0 3 v) (h : DataW.Trod enc Tryd.prog W 0 (fun _ => true) true 3 v x ps) : ∃ n, VR (Cf.all W) W (.int .i64 n) v ∧ (Lit.int .i64 n).wf = true := by
  obtain ⟨n, rfl, rfl, rfl, wn⟩ := open_int Tryd.underlying3 hval h
  exact ⟨n, .int _ _, wn⟩
/-- A slice that is handed in. -/
theorem one_slice {W : World} {H : Type} {enc : TypeId × Value → H} {b0 t e : Nat} {v : Value} {x : DataW H} {ps : List MemPlace} (hu : Tryd.prog.underlying t = some (.slice e)) (hp : plainT Tryd.prog 4 t = true) (hval : Value.okWide Tryd.prog W .any b0 t v) (h : DataW.Trod enc Tryd.prog W 0 (fun _ => true) true t v x ps) : ∃ a, toA 4 x = [a] ∧ VR (Cf.all W) W a v := by
  obtain ⟨a0, len, cap, rfl⟩ := okWide_slice hu hval
  exact arg_one rfl hp h
end Go.Proofs.YtkifeiienlkmcaaDoor
