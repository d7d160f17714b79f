/-
  The plain functions of the chapter, and what the smallest ones of the program answer.
-/
import Derived.Test.YtkifeiienlkmcaaDoorLSt
import Derived.IntWalk
set_option linter.all false
namespace Go.Proofs.Tryd
open Go Go.Proofs.AM

def tab0 : List Ent := [⟨23, [], .bool true⟩]
/-- What the two package variables hold. -/
def Gl : Nat → Option (List AV)
  | 0 => some [.fn 128 [] [], .fn 129 [] [], .fn 130 [] [], .fn 131 [] []]
  | 1 => some [.int .i64 (-1), .int .i64 (-1)]
  | _ => none
def E0 : Env := envT fns Gl tab0
theorem tabE0 {f : Nat} (hf : f ≠ 23) (fs cs args : List AV) : E0.tab (.fn f fs cs) args = none := by
  show tabOf tab0 (.fn f fs cs) args = none
  unfold tabOf
  split
  · rename_i h
    cases h
    simp [tabL, tab0, Ne.symm hf]
  · rfl
/-- A call is its code. -/
theorem callE0 {f : Nat} (hf : f ≠ 23) {af : AF} (h : fns f = some af) {fs cs args : List AV} (hn : (fs ++ args ++ cs).length = af.np) (st : St) : callE E0 false (.fn f fs cs) args st =
    (match codeE E0 af.body { ts := zipA 0 (fs ++ args ++ cs), bs := [] } { st with low := st.heap.length } with
    | some (.exit _, _, _) => none
    | some (_, fr, st') => match resL E0 fr st' af.res with
      | some vs => some (finish false st (tupA vs) st')
      | none => none
    | none => none) := by
  rw [callE_eq, tabE0 hf]
  show bodyA E0 false (.fn f fs cs) args st (codeE E0) = _
  unfold bodyA
  have h' : E0.fns f = some af := h
  simp only [h']
  rw [if_pos hn]
  rfl
/-- Is a number from a low one to a high one? -/
def amid (n lo hi : Int) : Bool := decide (lo ≤ n) && decide (n ≤ hi)
@[simp] theorem inside_ev (n lo hi : Int) (st : St) : callE E0 false (.fn 55 [] []) [.int .i64 n, .int .i64 lo, .int .i64 hi] st = some (.bool (amid n lo hi), st) := by
  rw [callE0 (by decide) (af := A55) rfl rfl]
  unfold amid
  by_cases h : lo ≤ n <;> simp [A55, A55_r0, A55_r1, finish, h]
@[simp] theorem amid_ev (n lo hi : Int) (st : St) : callE E0 false (.fn 46 [] []) [.int .i64 n, .int .i64 lo, .int .i64 hi] st = some (.bool (amid n lo hi), st) := by
  rw [callE0 (by decide) (af := A46) rfl rfl]
  unfold amid
  by_cases h : lo ≤ n <;> simp [A46, A46_r0, A46_r1, finish, h]
/-- Is a span right, from a low number to a high one? -/
def span (a b lo hi : Int) : Bool := decide (lo ≤ a) && decide (a ≤ b) && decide (b ≤ hi)
@[simp] theorem spanned_ev (a b lo hi : Int) (st : St) : callE E0 false (.fn 61 [] []) [.agg [.int .i64 a, .int .i64 b], .int .i64 lo, .int .i64 hi] st = some (.bool (span a b lo hi), st) := by
  rw [callE0 (by decide) (af := A61) rfl rfl]
  unfold span
  by_cases h : lo ≤ a
  · by_cases h2 : a ≤ b <;> simp [A61, A61_r0, A61_r1, finish, h, h2]
  · simp [A61, A61_r0, A61_r1, finish, h]
@[simp] theorem legal_ev (a b lo hi : Int) (st : St) : callE E0 false (.fn 65 [] []) [.agg [.int .i64 a, .int .i64 b], .int .i64 lo, .int .i64 hi] st = some (.bool (span a b lo hi), st) := by
  rw [callE0 (by decide) (af := A65) rfl rfl]
  unfold span
  by_cases h : lo ≤ a
  · by_cases h2 : a ≤ b <;> simp [A65, A65_r0, A65_r1, finish, h, h2]
  · simp [A65, A65_r0, A65_r1, finish, h]
@[simp] theorem isDay_ev (n : Int) (st : St) : callE E0 false (.fn 54 [] []) [.int .i64 n] st = some (.bool (amid n 0 999), st) := by
  rw [callE0 (by decide) (af := A54) rfl rfl]
  simp [A54, A54_r0, A54_r1, finish]
@[simp] theorem isDayR_ev (n : Int) (st : St) : callE E0 false (.fn 57 [] []) [.int .i64 n] st = some (.bool (amid n 0 999), st) := by
  rw [callE0 (by decide) (af := A57) rfl rfl]
  simp [A57, A57_r0, A57_r1, finish]
@[simp] theorem isMinute_ev (n : Int) (st : St) : callE E0 false (.fn 58 [] []) [.int .i64 n] st = some (.bool (amid n 0 1439), st) := by
  rw [callE0 (by decide) (af := A58) rfl rfl]
  simp [A58, A58_r0, A58_r1, finish]
end Go.Proofs.Tryd

namespace Go.Proofs.Tryd
open Go Go.Proofs.AM

structure Kd where
  days : Int
  fee : Int
  notice : Int
structure Sp where
  low : Int
  high : Int
structure Pp where
  kind : Int
  first : Int
structure Hd where
  nl : Option Bool
  ex : Bool
def Kd.av (k : Kd) : List AV := [.int .i64 k.days, .int .i64 k.fee, .int .i64 k.notice]
def Sp.av (s : Sp) : List AV := [.int .i64 s.low, .int .i64 s.high]
def Pp.av (p : Pp) : List AV := [.int .i64 p.kind, .int .i64 p.first]
def In.av (n : Int) : List AV := [.int .i64 n]
/-- Cells of a row. -/
def row {α : Type} (f : α → List AV) : List α → List AV
  | [] => []
  | x :: l => f x ++ row f l
/-- A slice that is handed in. -/
def lstA {α : Type} (h : Hd) (f : α → List AV) (l : List α) : AV := .lst h.nl h.ex l.length (row f l)
structure Town where
  kh : Hd
  kinds : List Kd
  pause : Int
  bh : Hd
  barred : List Sp
  forb : Int
  close : Int
  hh : Hd
  held : List Pp
def Town.cs (t : Town) : List AV := [lstA t.kh Kd.av t.kinds, .int .i64 t.pause, lstA t.bh Sp.av t.barred, .int .i64 t.forb, .int .i64 t.close, lstA t.hh Pp.av t.held]

section
variable {α : Type} {f : α → List AV} {h : Hd} {l : List α}
@[simp] theorem lstA_len : lenA (lstA h f l) = some (.int .i64 l.length) := rfl
@[simp] theorem lstA_cells : (lstA h f l).cells = some [lstA h f l] := rfl
@[simp] theorem lstA_iaddr (es : Nat) (j : Int) : iaddrA es (lstA h f l) j = if 0 ≤ j ∧ j < l.length then some (.v (.pl ((row f l).drop (j.toNat * es)))) else none := rfl
theorem row_scal (hf : ∀ x, ∀ c ∈ f x, c.scal = true) : ∀ l : List α, ∀ c ∈ row f l, c.scal = true
  | [], c, hc => by simp [row] at hc
  | x :: l, c, hc => by
    simp only [row, List.mem_append] at hc
    rcases hc with hc | hc
    · exact hf x c hc
    · exact row_scal hf l c hc
theorem row_len {k : Nat} (hf : ∀ x, (f x).length = k) : ∀ l : List α, (row f l).length = l.length * k
  | [] => by simp [row]
  | x :: l => by simp [row, row_len hf l, hf x, Nat.add_mul, Nat.add_comm]
theorem row_append : ∀ (a b : List α), row f (a ++ b) = row f a ++ row f b
  | [], b => rfl
  | x :: a, b => by simp [row, row_append a b]
theorem row_drop {k : Nat} (hf : ∀ x, (f x).length = k) (a b : List α) : (row f (a ++ b)).drop (a.length * k) = row f b := by
  rw [row_append, ← row_len hf a, List.drop_left]
theorem row_take {k : Nat} (hf : ∀ x, (f x).length = k) (a b : List α) : (row f (a ++ b)).take (a.length * k) = row f a := by
  rw [row_append, ← row_len hf a, List.take_left]
theorem row_get {k : Nat} (hf : ∀ x, (f x).length = k) : ∀ {l : List α} {j : Nat} {x : α}, l[j]? = some x → (row f l).drop (j * k) = f x ++ row f (l.drop (j + 1))
  | [], j, x, h => by simp at h
  | y :: l, 0, x, h => by
    simp only [List.getElem?_cons_zero, Option.some.injEq] at h
    subst h
    simp [row]
  | y :: l, j + 1, x, h => by
    simp only [List.getElem?_cons_succ] at h
    have := row_get hf h
    rw [Nat.add_mul, Nat.one_mul, Nat.add_comm, ← List.drop_drop]
    simp only [row]
    rw [← hf y, List.drop_left, hf y, this, List.drop_succ_cons]
theorem slc_hi {k : Nat} (hf : ∀ x, (f x).length = k) (a b : List α) : slcA k (lstA h f (a ++ b)) none (some (a.length : Int)) none = some (lstA ⟨h.nl, h.ex && ((a.length : Int) == ((a ++ b).length : Int))⟩ f a) := by
  have ht := row_take hf a b
  simp [slcA, lstA, ht]
  omega
theorem lstA_plain (hf : ∀ x, ∀ c ∈ f x, c.scal = true) (d : Nat) : plainA (d + 1) (lstA h f l) := fun c hc => plainA.scal (row_scal hf l c hc) d
end
theorem Kd.sc (x : Kd) : ∀ c ∈ Kd.av x, c.scal = true := by simp [Kd.av]
theorem Sp.sc (x : Sp) : ∀ c ∈ Sp.av x, c.scal = true := by simp [Sp.av]
theorem Pp.sc (x : Pp) : ∀ c ∈ Pp.av x, c.scal = true := by simp [Pp.av]
theorem In.sc (x : Int) : ∀ c ∈ In.av x, c.scal = true := by simp [In.av]
section
variable {hp : List AObj} {s d : Nat} {refs : Bool} {h : Hd}
@[simp] theorem settle_K (l : List Kd) : AM.settle hp s refs (d + 1) (lstA h Kd.av l) = some (lstA h Kd.av l, []) := settle_plain (lstA_plain Kd.sc d)
@[simp] theorem settle_S (l : List Sp) : AM.settle hp s refs (d + 1) (lstA h Sp.av l) = some (lstA h Sp.av l, []) := settle_plain (lstA_plain Sp.sc d)
@[simp] theorem settle_P (l : List Pp) : AM.settle hp s refs (d + 1) (lstA h Pp.av l) = some (lstA h Pp.av l, []) := settle_plain (lstA_plain Pp.sc d)
@[simp] theorem settle_I (l : List Int) : AM.settle hp s refs (d + 1) (lstA h In.av l) = some (lstA h In.av l, []) := settle_plain (lstA_plain In.sc d)
end
/-- Small numbers do not wrap. -/
theorem wrap_small {n : Int} (h1 : -9223372036854775808 ≤ n) (h2 : n ≤ 9223372036854775807) : IntKind.wrap .i64 n = n := by
  exact IntWalk.i64_in n ⟨h1, h2⟩
/-! ### Plain functions on towns -/
def paperB (t : Town) (p : Pp) : Bool := amid p.kind 0 (t.kinds.length - 1) && amid p.first 0 999
def kdB (k : Kd) : Bool := amid k.days 1 30 && amid k.fee 0 1000 && amid k.notice 0 30
def barB : Int → List Sp → Bool
  | _, [] => true
  | e, s :: l => span s.low s.high (e + 1) 999 && barB s.high l
def daysOf (t : Town) (p : Pp) : Int := match t.kinds[p.kind.toNat]? with
  | some k => k.days
  | none => 0
/-- The last day that a licence covers. -/
def endB (t : Town) (p : Pp) : Int := p.first + daysOf t p - 1
/-- Do two licences go together? -/
def goesB (t : Town) (p q : Pp) : Bool := if q.first < p.first then decide (t.pause ≤ p.first - endB t q - 1) else decide (t.pause ≤ q.first - endB t p - 1)
def togB (t : Town) : List Pp → List Pp → Bool
  | _, [] => true
  | pre, p :: post => pre.all (fun q => goesB t p q) && togB t (pre ++ [p]) post
def headB (t : Town) : Bool := amid t.kinds.length 1 4 && amid t.pause 0 20 && decide (t.barred.length ≤ 4) && amid t.forb 0 65535 && amid t.close 0 1439 && decide (t.held.length ≤ 4)
def soundB (t : Town) : Bool := headB t && t.kinds.all kdB && barB (-1) t.barred && t.held.all (paperB t)
/-- Is there such a town? -/
def checkB (t : Town) : Bool := soundB t && togB t [] t.held
/-- Lists that are handed in are no longer than any list. -/
structure Town.Fits (t : Town) : Prop where
  k : t.kinds.length ≤ 9223372036854775807
  b : t.barred.length ≤ 9223372036854775807
  h : t.held.length ≤ 9223372036854775807
theorem Kd.len (x : Kd) : (Kd.av x).length = 3 := rfl
theorem Sp.len (x : Sp) : (Sp.av x).length = 2 := rfl
theorem Pp.len (x : Pp) : (Pp.av x).length = 2 := rfl
theorem In.len (x : Int) : (In.av x).length = 1 := rfl
end Go.Proofs.Tryd

namespace Go.Proofs.Tryd
open Go Go.Proofs.AM

theorem isPaper_ev (t : Town) (hf : t.Fits) (p : Pp) (st : St) : callE E0 false (.fn 62 [] []) [.agg t.cs, .agg p.av] st = some (.bool (paperB t p), st) := by
  rw [callE0 (by decide) (af := A62) rfl rfl]
  have hw : IntKind.wrap .i64 ((t.kinds.length : Int) - 1) = t.kinds.length - 1 := wrap_small (by omega) (by have := hf.k; omega)
  unfold paperB
  cases h : amid p.kind 0 (t.kinds.length - 1) <;> simp [A62, A62_r0, A62_r1, finish, Town.cs, Pp.av, hw, h]
theorem opened_ev (t : Town) (st : St) : callE E0 false (.fn 63 [] []) [.agg t.cs] st = some (.agg (t.cs ++ [.map st.heap.length]), { heap := st.heap ++ [.map []], low := min st.low st.heap.length }) := by
  rw [callE0 (by decide) (af := A63) rfl rfl]
  simp [A63, A63_r0, A63_r1, finish, Town.cs, alloc]
theorem amid_iff {n lo hi : Int} : amid n lo hi = true ↔ lo ≤ n ∧ n ≤ hi := by simp [amid]
theorem kd_of {t : Town} {p : Pp} (hp : paperB t p = true) (hk : t.kinds.all kdB = true) : ∃ k, t.kinds[p.kind.toNat]? = some k ∧ kdB k = true ∧ daysOf t p = k.days ∧ 0 ≤ p.kind ∧ p.kind < t.kinds.length ∧ 0 ≤ p.first ∧ p.first ≤ 999 := by
  simp only [paperB, Bool.and_eq_true, amid_iff] at hp
  have hlt : p.kind.toNat < t.kinds.length := by omega
  refine ⟨t.kinds[p.kind.toNat], List.getElem?_eq_getElem hlt, List.all_eq_true.1 hk _ (List.getElem_mem _), ?_, by omega, by omega, by omega, by omega⟩
  simp [daysOf, List.getElem?_eq_getElem hlt]
theorem end_ev (t : Town) (m : Nat) (p : Pp) (hp : paperB t p = true) (hk : t.kinds.all kdB = true) (st : St) : callE E0 false (.fn 94 [] []) [.agg (t.cs ++ [.map m]), .agg p.av] st = some (.int .i64 (endB t p), st) := by
  rw [callE0 (by decide) (af := A94) rfl rfl]
  obtain ⟨k, e1, hkd, e2, h0, h1, h2, h3⟩ := kd_of hp hk
  simp only [kdB, Bool.and_eq_true, amid_iff] at hkd
  have hw1 : IntKind.wrap .i64 (p.first + k.days) = p.first + k.days := wrap_small (by omega) (by omega)
  have hw2 : IntKind.wrap .i64 (p.first + k.days - 1) = p.first + k.days - 1 := wrap_small (by omega) (by omega)
  have hd := row_get Kd.len e1
  simp [A94, A94_r0, A94_r1, regionA_st s94_r1, finish, Town.cs, Pp.av, h0, h1, hd, Kd.av, hw1, hw2, endB, e2]
end Go.Proofs.Tryd

namespace Go.Proofs.Tryd
open Go Go.Proofs.AM

theorem end_range {t : Town} {p : Pp} (hp : paperB t p = true) (hk : t.kinds.all kdB = true) : p.first ≤ endB t p ∧ endB t p ≤ p.first + 29 ∧ 0 ≤ p.first ∧ p.first ≤ 999 := by
  obtain ⟨k, e1, hkd, e2, h0, h1, h2, h3⟩ := kd_of hp hk
  simp only [kdB, Bool.and_eq_true, amid_iff] at hkd
  simp only [endB, e2]
  omega
theorem goes_ev (t : Town) (m : Nat) (p q : Pp) (hp : paperB t p = true) (hq : paperB t q = true) (hk : t.kinds.all kdB = true) (st : St) : callE E0 false (.fn 88 [] []) [.agg (t.cs ++ [.map m]), .agg p.av, .agg q.av] st = some (.bool (goesB t p q), st) := by
  rw [callE0 (by decide) (af := A88) rfl rfl]
  have hep := end_ev t m p hp hk
  have heq := end_ev t m q hq hk
  obtain ⟨a1, a2, a3, a4⟩ := end_range hp hk
  obtain ⟨b1, b2, b3, b4⟩ := end_range hq hk
  have w1 : IntKind.wrap .i64 (p.first - endB t q) = p.first - endB t q := wrap_small (by omega) (by omega)
  have w2 : IntKind.wrap .i64 (p.first - endB t q - 1) = p.first - endB t q - 1 := wrap_small (by omega) (by omega)
  have w3 : IntKind.wrap .i64 (q.first - endB t p) = q.first - endB t p := wrap_small (by omega) (by omega)
  have w4 : IntKind.wrap .i64 (q.first - endB t p - 1) = q.first - endB t p - 1 := wrap_small (by omega) (by omega)
  simp only [Town.cs, Pp.av, List.cons_append, List.nil_append] at hep heq
  by_cases h : q.first < p.first <;> simp [A88, A88_r0, A88_r1, A88_r2, A88_r3, regionA_st s88_r3, finish, Town.cs, Pp.av, goesB, h, hep, heq, w1, w2, w3, w4]
end Go.Proofs.Tryd

namespace Go.Proofs.Tryd
open Go Go.Proofs.AM

section
variable {t : Town} {m : Nat} {h h' : Hd} {l pre : List Pp} {p : Pp} {n : Int}
theorem tog_in (hk : t.kinds.all kdB = true) (hl : l.length ≤ 9223372036854775807) (hp : paperB t p = true) (st : St) : ∀ (b a : List Pp) (k : Int), k = a.length → pre = a ++ b → pre.length ≤ l.length → (∀ q ∈ b, paperB t q = true) →
    loopC E0 [1, 2, 6, 9, 10, 11, 18, 19, 20] [2, 6] A64_l0
      { ts := [(1, .v (lstA h Pp.av l)), (2, .loc 2 0), (6, .loc 6 0), (9, .v (lstA h Pp.av l)), (10, .v (.int .i64 l.length)), (11, .v (.int .i64 n)), (18, .v (lstA h' Pp.av pre)), (19, .v (.int .i64 pre.length)), (20, .v (.int .i64 k))], bs := [(2, t.cs ++ [.map m]), (6, p.av)] } st
    = if b.all (fun q => goesB t p q) = true then some (.exit 2, { ts := [(1, .v (lstA h Pp.av l)), (2, .loc 2 0), (6, .loc 6 0), (9, .v (lstA h Pp.av l)), (10, .v (.int .i64 l.length)), (11, .v (.int .i64 n)), (18, .v (lstA h' Pp.av pre)), (19, .v (.int .i64 pre.length)), (20, .v (.int .i64 pre.length)), (21, .v (.bool false))], bs := [(2, t.cs ++ [.map m]), (6, p.av)] }, st)
      else some (.ret, { ts := [(4, .v (.bool false))], bs := [] }, st)
  | [], a, k, hk0, e, _, _ => by
    simp only [List.append_nil] at e
    subst e hk0
    rw [loopC_eq]
    simp [A64_l0, A64_r5, A64_r6, A64_r7, A64_r8, A64_r9]
  | q :: b, a, k, hk0, e, hle, hall => by
    subst hk0
    have hq := hall q (by simp)
    have hg := goes_ev t m p q hp hq hk
    simp only [Town.cs, Pp.av, List.cons_append, List.nil_append] at hg
    have hlt : a.length < pre.length := by rw [e]; simp
    have hd : (row Pp.av pre).drop (a.length * 2) = Pp.av q ++ row Pp.av b := by rw [e, row_drop Pp.len]; rfl
    have hw : IntKind.wrap .i64 ((a.length : Int) + 1) = (a.length : Int) + 1 := wrap_small (by omega) (by omega)
    have ih := tog_in hk hl hp st b (a ++ [q]) _ rfl (by simp [e]) hle (fun x hx => hall x (by simp [hx]))
    by_cases hgo : goesB t p q = true
    · rw [loopC_norm (fr' := { ts := [(1, .v (lstA h Pp.av l)), (2, .loc 2 0), (6, .loc 6 0), (9, .v (lstA h Pp.av l)), (10, .v (.int .i64 l.length)), (11, .v (.int .i64 n)), (18, .v (lstA h' Pp.av pre)), (19, .v (.int .i64 pre.length)), (20, .v (.int .i64 ((a ++ [q]).length : Int)))], bs := [(2, t.cs ++ [.map m]), (6, p.av)] }) (st' := st) (by
          simp [A64_l0, A64_r5, A64_r6, A64_r7, A64_r8, A64_r9, hlt, hd, hw, Pp.av, Town.cs, hg, hgo]), ih]
      simp [hgo]
    · rw [loopC_eq]
      simp [A64_l0, A64_r5, A64_r6, A64_r7, A64_r8, A64_r9, hlt, hd, hw, Pp.av, Town.cs, hg, hgo]
theorem tog_out (hk : t.kinds.all kdB = true) (hl : l.length ≤ 9223372036854775807) (st : St) : ∀ (b a : List Pp), l = a ++ b → (∀ q ∈ l, paperB t q = true) →
    loopC E0 [1, 2, 9, 10, 11] [2] A64_l1
      { ts := [(1, .v (lstA h Pp.av l)), (2, .loc 2 0), (9, .v (lstA h Pp.av l)), (10, .v (.int .i64 l.length)), (11, .v (.int .i64 a.length))], bs := [(2, t.cs ++ [.map m])] } st
    = if togB t a b = true then some (.exit 0, { ts := [(1, .v (lstA h Pp.av l)), (2, .loc 2 0), (9, .v (lstA h Pp.av l)), (10, .v (.int .i64 l.length)), (11, .v (.int .i64 l.length)), (12, .v (.bool false))], bs := [(2, t.cs ++ [.map m])] }, st)
      else some (.ret, { ts := [(4, .v (.bool false))], bs := [] }, st)
  | [], a, e, _ => by
    simp only [List.append_nil] at e
    subst e
    rw [loopC_eq]
    simp [A64_l1, A64_r2, A64_r3, A64_r4, A64_r10, togB]
  | q :: b, a, e, hall => by
    have hq := hall q (by simp [e])
    have hlt : a.length < l.length := by rw [e]; simp
    have hd : (row Pp.av l).drop (a.length * 2) = Pp.av q ++ row Pp.av b := by rw [e, row_drop Pp.len]; rfl
    have hw : IntKind.wrap .i64 ((a.length : Int) + 1) = (a.length : Int) + 1 := wrap_small (by omega) (by omega)
    obtain ⟨h', hs⟩ : ∃ h', slcA 2 (lstA h Pp.av l) none (some (a.length : Int)) none = some (lstA h' Pp.av a) := ⟨_, by rw [e]; exact slc_hi Pp.len a (q :: b)⟩
    have hin := tog_in (h := h) (h' := h') (l := l) (m := m) (pre := a) (n := a.length) hk hl hq st a [] 0 rfl rfl (by omega) (fun x hx => hall x (by simp [e, hx]))
    have ih := tog_out hk hl st b (a ++ [q]) (by simp [e]) hall
    simp only [Town.cs, Pp.av, List.cons_append, List.nil_append] at hin
    by_cases hgo : a.all (fun x => goesB t q x) = true
    · rw [if_pos hgo] at hin
      rw [loopC_norm (fr' := { ts := [(1, .v (lstA h Pp.av l)), (2, .loc 2 0), (9, .v (lstA h Pp.av l)), (10, .v (.int .i64 l.length)), (11, .v (.int .i64 ((a ++ [q]).length : Int)))], bs := [(2, t.cs ++ [.map m])] }) (st' := st) (by
          simp [A64_l1, A64_r2, A64_r3, A64_r4, A64_r10, hlt, hd, hw, Pp.av, Town.cs, hs, hin]), ih]
      simp only [togB, hgo, Bool.true_and]
    · rw [if_neg hgo] at hin
      rw [loopC_eq]
      simp [A64_l1, A64_r2, A64_r3, A64_r4, A64_r10, hlt, hd, hw, Pp.av, Town.cs, hs, hin, togB, hgo]
end
end Go.Proofs.Tryd

namespace Go.Proofs.Tryd
open Go Go.Proofs.AM

theorem together_ev (t : Town) (m : Nat) (h : Hd) (l : List Pp) (hk : t.kinds.all kdB = true) (hl : l.length ≤ 9223372036854775807) (hall : ∀ q ∈ l, paperB t q = true) (st : St) :
    callE E0 false (.fn 64 [] []) [.agg (t.cs ++ [.map m]), lstA h Pp.av l] st = some (.bool (togB t [] l), st) := by
  rw [callE0 (by decide) (af := A64) rfl rfl]
  have ho := tog_out (m := m) (h := h) hk hl { st with low := st.heap.length } l [] rfl hall
  simp only [Town.cs, List.cons_append, List.nil_append, List.length_nil] at ho
  cases hb : togB t [] l with
  | true =>
    rw [if_pos hb] at ho
    simp [A64, A64_r0, A64_r1, A64_r11, finish, Town.cs]
    rw [show ((0 : Nat) : Int) = 0 from rfl] at ho
    simp [ho]
  | false =>
    rw [if_neg (by simp [hb])] at ho
    simp [A64, A64_r0, A64_r1, A64_r11, finish, Town.cs]
    rw [show ((0 : Nat) : Int) = 0 from rfl] at ho
    simp [ho]
section
variable {t : Town}
theorem check_l0 (hf : t.Fits) (st : St) : ∀ (b a : List Kd) (k : Int) (ok : Bool), k = a.length → t.kinds = a ++ b →
    loopC E0 [1, 3, 43, 44, 45] [1] A16_l0 { ts := [(1, .loc 1 0), (3, .v (.bool ok)), (43, .v (lstA t.kh Kd.av t.kinds)), (44, .v (.int .i64 t.kinds.length)), (45, .v (.int .i64 k))], bs := [(1, t.cs)] } st
    = some (.exit 0, { ts := [(1, .loc 1 0), (3, .v (.bool (ok && b.all kdB))), (43, .v (lstA t.kh Kd.av t.kinds)), (44, .v (.int .i64 t.kinds.length)), (45, .v (.int .i64 t.kinds.length)), (46, .v (.bool false))], bs := [(1, t.cs)] }, st)
  | [], a, k, ok, hk, e => by
    simp only [List.append_nil] at e
    subst hk
    rw [loopC_eq]
    simp [A16_l0, A16_r3, e]
  | x :: b, a, k, ok, hk, e => by
    subst hk
    have hlt : a.length < t.kinds.length := by rw [e]; simp
    have hd : (row Kd.av t.kinds).drop (a.length * 3) = Kd.av x ++ row Kd.av b := by rw [e, row_drop Kd.len]; rfl
    have hw : IntKind.wrap .i64 ((a.length : Int) + 1) = (a.length : Int) + 1 := wrap_small (by omega) (by have := hf.k; omega)
    have ih := check_l0 hf st b (a ++ [x]) _ (ok && kdB x) rfl (by simp [e])
    rw [loopC_norm (fr' := { ts := [(1, .loc 1 0), (3, .v (.bool (ok && kdB x))), (43, .v (lstA t.kh Kd.av t.kinds)), (44, .v (.int .i64 t.kinds.length)), (45, .v (.int .i64 ((a ++ [x]).length : Int)))], bs := [(1, t.cs)] }) (st' := st) (by
      cases ok with
      | false => simp [A16_l0, A16_r3, A16_r4, A16_r5, A16_r6, hlt, hd, hw, Kd.av, Town.cs]
      | true =>
        unfold kdB
        cases h1 : amid x.days 1 30 with
        | false => simp [A16_l0, A16_r3, A16_r4, A16_r5, A16_r6, hlt, hd, hw, Kd.av, Town.cs, h1]
        | true => cases h2 : amid x.fee 0 1000 <;> simp [A16_l0, A16_r3, A16_r4, A16_r5, A16_r6, hlt, hd, hw, Kd.av, Town.cs, h1, h2]), ih]
    simp [Bool.and_assoc]
theorem check_l1 (hf : t.Fits) (st : St) : ∀ (b a : List Sp) (k : Int) (ok : Bool) (e0 : Int), k = a.length → t.barred = a ++ b → (ok = true → -1 ≤ e0 ∧ e0 ≤ 999) →
    ∃ e1, loopC E0 [1, 3, 6, 67, 68, 69] [1] A16_l1 { ts := [(1, .loc 1 0), (3, .v (.bool ok)), (6, .v (.int .i64 e0)), (67, .v (lstA t.bh Sp.av t.barred)), (68, .v (.int .i64 t.barred.length)), (69, .v (.int .i64 k))], bs := [(1, t.cs)] } st
    = some (.exit 2, { ts := [(1, .loc 1 0), (3, .v (.bool (ok && barB e0 b))), (6, .v (.int .i64 e1)), (67, .v (lstA t.bh Sp.av t.barred)), (68, .v (.int .i64 t.barred.length)), (69, .v (.int .i64 t.barred.length)), (70, .v (.bool false))], bs := [(1, t.cs)] }, st)
  | [], a, k, ok, e0, hk, e, _ => by
    simp only [List.append_nil] at e
    subst hk
    refine ⟨e0, ?_⟩
    rw [loopC_eq]
    simp [A16_l1, A16_r9, e, barB]
  | x :: b, a, k, ok, e0, hk, e, hr => by
    subst hk
    have hlt : a.length < t.barred.length := by rw [e]; simp
    have hd : (row Sp.av t.barred).drop (a.length * 2) = Sp.av x ++ row Sp.av b := by rw [e, row_drop Sp.len]; rfl
    have hw : IntKind.wrap .i64 ((a.length : Int) + 1) = (a.length : Int) + 1 := wrap_small (by omega) (by have := hf.b; omega)
    have hw2 : ok = true → IntKind.wrap .i64 (e0 + 1) = e0 + 1 := fun ho => wrap_small (by have := hr ho; omega) (by have := hr ho; omega)
    obtain ⟨e1, ih⟩ := check_l1 hf st b (a ++ [x]) _ (ok && span x.low x.high (e0 + 1) 999) x.high rfl (by simp [e]) (fun ho => by
      simp only [Bool.and_eq_true, span, decide_eq_true_eq] at ho
      have := hr ho.1
      omega)
    refine ⟨e1, ?_⟩
    rw [loopC_norm (fr' := { ts := [(1, .loc 1 0), (3, .v (.bool (ok && span x.low x.high (e0 + 1) 999))), (6, .v (.int .i64 x.high)), (67, .v (lstA t.bh Sp.av t.barred)), (68, .v (.int .i64 t.barred.length)), (69, .v (.int .i64 ((a ++ [x]).length : Int)))], bs := [(1, t.cs)] }) (st' := st) (by
      cases ok with
      | false => simp [A16_l1, A16_r9, A16_r10, A16_r11, A16_r12, A16_r13, hlt, hd, hw, Sp.av, Town.cs]
      | true => simp [A16_l1, A16_r9, A16_r10, A16_r11, A16_r12, A16_r13, hlt, hd, hw, hw2 rfl, Sp.av, Town.cs]), ih]
    simp [Bool.and_assoc, barB]
theorem check_l2 (hf : t.Fits) (st : St) : ∀ (b a : List Pp) (k : Int) (ok : Bool), k = a.length → t.held = a ++ b →
    loopC E0 [1, 3, 84, 85, 86] [1] A16_l2 { ts := [(1, .loc 1 0), (3, .v (.bool ok)), (84, .v (lstA t.hh Pp.av t.held)), (85, .v (.int .i64 t.held.length)), (86, .v (.int .i64 k))], bs := [(1, t.cs)] } st
    = some (.exit 4, { ts := [(1, .loc 1 0), (3, .v (.bool (ok && b.all (paperB t)))), (84, .v (lstA t.hh Pp.av t.held)), (85, .v (.int .i64 t.held.length)), (86, .v (.int .i64 t.held.length)), (87, .v (.bool false))], bs := [(1, t.cs)] }, st)
  | [], a, k, ok, hk, e => by
    simp only [List.append_nil] at e
    subst hk
    rw [loopC_eq]
    simp [A16_l2, A16_r15, e]
  | x :: b, a, k, ok, hk, e => by
    subst hk
    have hlt : a.length < t.held.length := by rw [e]; simp
    have hd : (row Pp.av t.held).drop (a.length * 2) = Pp.av x ++ row Pp.av b := by rw [e, row_drop Pp.len]; rfl
    have hw : IntKind.wrap .i64 ((a.length : Int) + 1) = (a.length : Int) + 1 := wrap_small (by omega) (by have := hf.h; omega)
    have hp := isPaper_ev t hf x
    simp only [Town.cs, Pp.av] at hp
    have ih := check_l2 hf st b (a ++ [x]) _ (ok && paperB t x) rfl (by simp [e])
    rw [loopC_norm (fr' := { ts := [(1, .loc 1 0), (3, .v (.bool (ok && paperB t x))), (84, .v (lstA t.hh Pp.av t.held)), (85, .v (.int .i64 t.held.length)), (86, .v (.int .i64 ((a ++ [x]).length : Int)))], bs := [(1, t.cs)] }) (st' := st) (by
      cases ok with
      | false => simp [A16_l2, A16_r15, A16_r16, A16_r17, A16_r18, hlt, hd, hw, Pp.av, Town.cs]
      | true => simp [A16_l2, A16_r15, A16_r16, A16_r17, A16_r18, hlt, hd, hw, Pp.av, Town.cs, hp]), ih]
    simp [Bool.and_assoc]
end
end Go.Proofs.Tryd

namespace Go.Proofs.Tryd
open Go Go.Proofs.AM

section
variable {t : Town}
theorem check_r1 (st : St) : codeE E0 (.region A16_r1 none [1, 3] [1]) { ts := [(1, .loc 1 0)], bs := [(1, t.cs)] } st = some (.norm, { ts := [(1, .loc 1 0), (3, .v (.bool (headB t)))], bs := [(1, t.cs)] }, st) := by
  unfold headB
  cases h1 : amid t.kinds.length 1 4 with
  | false => simp [A16_r1, Town.cs, h1]
  | true =>
  cases h2 : amid t.pause 0 20 with
  | false => simp [A16_r1, Town.cs, h1, h2]
  | true =>
  cases h3 : decide (t.barred.length ≤ 4) with
  | false =>
    have h3' : ¬ (t.barred.length : Int) ≤ 4 := by simp at h3; omega
    simp [A16_r1, Town.cs, h1, h2, h3']
  | true =>
  have h3' : (t.barred.length : Int) ≤ 4 := by simp at h3; omega
  have h6 : decide ((t.held.length : Int) ≤ 4) = decide (t.held.length ≤ 4) := by apply decide_eq_decide.2; omega
  cases h4 : amid t.forb 0 65535 with
  | false => simp [A16_r1, Town.cs, h1, h2, h3', h4]
  | true => cases h5 : amid t.close 0 1439 <;> simp [A16_r1, Town.cs, h1, h2, h3', h4, h5, h6]
theorem check_ev (hf : t.Fits) (st : St) : callE E0 false (.fn 16 [] []) [.agg t.cs] st = some (.int .i64 (if checkB t = true then 0 else 50), st) := by
  rw [callE0 (by decide) (af := A16) rfl rfl]
  have r1 := check_r1 (t := t) { st with low := st.heap.length }
  have l0 := check_l0 hf { st with low := st.heap.length } t.kinds [] 0 (headB t) rfl rfl
  obtain ⟨e1, l1⟩ := check_l1 hf { st with low := st.heap.length } t.barred [] 0 (headB t && t.kinds.all kdB) (-1) rfl rfl (by omega)
  have l2 := check_l2 hf { st with low := st.heap.length } t.held [] 0 (headB t && t.kinds.all kdB && barB (-1) t.barred) rfl rfl
  have hso : soundB t = (headB t && t.kinds.all kdB && barB (-1) t.barred && t.held.all (paperB t)) := rfl
  rw [← hso] at l2
  unfold checkB
  simp only [Town.cs] at r1 l0 l1 l2
  obtain ⟨f, q1, q2, q3⟩ := region_inv r1
  simp only at q2 q3
  cases hs : soundB t with
  | false =>
    rw [hs] at l2
    simp [A16, A16_r0, A16_r2, A16_r7, A16_r8, A16_r14, A16_r19, A16_r20, A16_r21, regionA_st s16_r19, finish, Town.cs, q1, ↓q2, ↓q3, l0, l1, l2]
  | true =>
    rw [hs] at l2
    simp only [soundB, Bool.and_eq_true] at hs
    have hall : ∀ q ∈ t.held, paperB t q = true := fun q hq => List.all_eq_true.1 hs.2 q hq
    have ho := opened_ev t
    have ht := fun m st => together_ev t m t.hh t.held hs.1.1.2 hf.h hall st
    simp only [Town.cs, List.cons_append, List.nil_append] at ho ht
    cases htb : togB t [] t.held <;> simp [A16, A16_r0, A16_r2, A16_r7, A16_r8, A16_r14, A16_r19, A16_r20, A16_r21, regionA_st s16_r19, finish, Town.cs, q1, ↓q2, ↓q3, l0, l1, l2, ho, ht, htb]
end
end Go.Proofs.Tryd

namespace Go.Proofs.Tryd
open Go Go.Proofs.AM

/-- No town. -/
def zero7 : List AV := [.lst (some true) true 0 [], .int .i64 0, .lst (some true) true 0 [], .int .i64 0, .int .i64 0, .lst (some true) true 0 [], .nilm]
section
variable {t : Town}
theorem asked_bad (hf : t.Fits) (hc : checkB t = false) (b : Bool) (st : St) : callE E0 false (.fn 53 [] []) [.agg t.cs, .bool b] st = some (.tup [.agg zero7, .int .i64 50], st) := by
  rw [callE0 (by decide) (af := A53) rfl rfl]
  have hch := check_ev hf
  simp only [Town.cs, hc] at hch
  simp [A53, A53_r0, A53_r1, A53_r2, A53_r3, A53_r4, A53_r5, A53_r6, finish, Town.cs, hch, zero7]
theorem asked_no (hf : t.Fits) (hc : checkB t = true) (st : St) : callE E0 false (.fn 53 [] []) [.agg t.cs, .bool false] st = some (.tup [.agg zero7, .int .i64 51], st) := by
  rw [callE0 (by decide) (af := A53) rfl rfl]
  have hch := check_ev hf
  simp only [Town.cs, hc] at hch
  simp [A53, A53_r0, A53_r1, A53_r2, A53_r3, A53_r4, A53_r5, A53_r6, finish, Town.cs, hch, zero7]
theorem asked_ok (hf : t.Fits) (hc : checkB t = true) (st : St) : callE E0 false (.fn 53 [] []) [.agg t.cs, .bool true] st = some (.tup [.agg (t.cs ++ [.map st.heap.length]), .int .i64 0], { heap := st.heap ++ [.map []], low := min st.low st.heap.length }) := by
  rw [callE0 (by decide) (af := A53) rfl rfl]
  have hch := check_ev hf
  have ho := opened_ev t
  simp only [Town.cs, hc, List.cons_append, List.nil_append] at hch ho
  simp [A53, A53_r0, A53_r1, A53_r2, A53_r3, A53_r4, A53_r5, A53_r6, finish, Town.cs, hch, ho]
end
end Go.Proofs.Tryd

namespace Go.Proofs.Tryd
open Go Go.Proofs.AM

def overN (t : Town) (b lo hi : Int) : Int := (if b + lo ≤ t.close then 1 else 0) + (if b + hi ≤ t.close then 1 else 0)
section
variable {t : Town} {b lo hi : Int}
theorem over_loop {m : Nat} (h1 : amid b 0 1439 = true) (h2 : span lo hi 0 1439 = true) (st : St) : loopC E0 [1, 8, 10, 31, 32, 33] [8] A21_l0
      { ts := [(1, .v (.int .i64 b)), (8, .loc 8 0), (10, .v (.int .i64 0)), (31, .v (.lst (some false) true 2 [.int .i64 lo, .int .i64 hi])), (32, .v (.int .i64 2)), (33, .v (.int .i64 0))], bs := [(8, t.cs ++ [.map m])] } st
    = some (.exit 0, { ts := [(1, .v (.int .i64 b)), (8, .loc 8 0), (10, .v (.int .i64 (overN t b lo hi))), (31, .v (.lst (some false) true 2 [.int .i64 lo, .int .i64 hi])), (32, .v (.int .i64 2)), (33, .v (.int .i64 2)), (34, .v (.bool false))], bs := [(8, t.cs ++ [.map m])] }, st) := by
  simp only [amid, span, Bool.and_eq_true, decide_eq_true_eq] at h1 h2
  have w1 : IntKind.wrap .i64 (b + lo) = b + lo := wrap_small (by omega) (by omega)
  have w2 : IntKind.wrap .i64 (b + hi) = b + hi := wrap_small (by omega) (by omega)
  have w3 : IntKind.wrap .i64 1 = 1 := by decide
  have w4 : IntKind.wrap .i64 2 = 2 := by decide
  rw [loopC_norm (fr' := { ts := [(1, .v (.int .i64 b)), (8, .loc 8 0), (10, .v (.int .i64 (if b + lo ≤ t.close then 1 else 0))), (31, .v (.lst (some false) true 2 [.int .i64 lo, .int .i64 hi])), (32, .v (.int .i64 2)), (33, .v (.int .i64 1))], bs := [(8, t.cs ++ [.map m])] }) (st' := st) (by
      by_cases c : b + lo ≤ t.close <;> simp [A21_l0, A21_r6, A21_r7, A21_r8, A21_r9, A21_r10, Town.cs, w1, w3, c]),
    loopC_norm (fr' := { ts := [(1, .v (.int .i64 b)), (8, .loc 8 0), (10, .v (.int .i64 (overN t b lo hi))), (31, .v (.lst (some false) true 2 [.int .i64 lo, .int .i64 hi])), (32, .v (.int .i64 2)), (33, .v (.int .i64 2))], bs := [(8, t.cs ++ [.map m])] }) (st' := st) (by
      unfold overN
      by_cases c1 : b + lo ≤ t.close <;> by_cases c : b + hi ≤ t.close <;> simp [A21_l0, A21_r6, A21_r7, A21_r8, A21_r9, A21_r10, Town.cs, w2, w3, w4, c, c1]),
    loopC_eq]
  simp [A21_l0, A21_r6, A21_r7, A21_r8, A21_r9, A21_r10]
theorem over_bad (hf : t.Fits) (hc : checkB t = false) (st : St) : callE E0 false (.fn 21 [] []) [.agg t.cs, .int .i64 b, .agg [.int .i64 lo, .int .i64 hi]] st = some (.tup [.int .i64 0, .int .i64 50], st) := by
  rw [callE0 (by decide) (af := A21) rfl rfl]
  have ha := asked_bad hf hc
  simp only [Town.cs, zero7] at ha
  cases h1 : amid b 0 1439 <;> cases h2 : span lo hi 0 1439 <;> simp [A21, A21_r0, A21_r1, A21_r2, A21_r3, regionA_st s21_r1, finish, Town.cs, ha, h1, h2]
theorem over_no (hf : t.Fits) (hc : checkB t = true) (h : (amid b 0 1439 && span lo hi 0 1439) = false) (st : St) : callE E0 false (.fn 21 [] []) [.agg t.cs, .int .i64 b, .agg [.int .i64 lo, .int .i64 hi]] st = some (.tup [.int .i64 0, .int .i64 51], st) := by
  rw [callE0 (by decide) (af := A21) rfl rfl]
  have ha := asked_no hf hc
  simp only [Town.cs, zero7] at ha
  cases h1 : amid b 0 1439 <;> cases h2 : span lo hi 0 1439 <;> simp [h1, h2] at h <;> simp [A21, A21_r0, A21_r1, A21_r2, A21_r3, regionA_st s21_r1, finish, Town.cs, ha, h1, h2]
theorem over_ok (hf : t.Fits) (hc : checkB t = true) (h1 : amid b 0 1439 = true) (h2 : span lo hi 0 1439 = true) (st : St) : callE E0 false (.fn 21 [] []) [.agg t.cs, .int .i64 b, .agg [.int .i64 lo, .int .i64 hi]] st = some (.tup [.int .i64 (overN t b lo hi), .int .i64 0], st) := by
  rw [callE0 (by decide) (af := A21) rfl rfl]
  have ha := asked_ok hf hc
  have hl := fun m => over_loop (t := t) (m := m) h1 h2
  simp only [Town.cs, List.cons_append, List.nil_append] at ha hl
  simp [A21, A21_r0, A21_r1, A21_r2, A21_r3, A21_r4, A21_r5, A21_r11, regionA_st s21_r1, finish, Town.cs, ha, h1, h2, hl]
end
end Go.Proofs.Tryd

namespace Go.Proofs.Tryd
open Go Go.Proofs.AM

def turnI (x n : Int) : Int := if x.tmod n < 0 then x.tmod n + n else x.tmod n
theorem turnI_range {x n : Int} (hn : 1 ≤ n) : 0 ≤ turnI x n ∧ turnI x n < n := by
  have h1 := Int.tmod_lt_of_pos x (show 0 < n by omega)
  have h2 : -n < x.tmod n := Int.lt_tmod_of_pos x (show 0 < n by omega)
  unfold turnI
  split <;> omega
theorem turn_ev {x n : Int} (hn : 1 ≤ n) (hm : n ≤ 9223372036854775807) (st : St) : callE E0 false (.fn 35 [] []) [.int .i64 x, .int .i64 n] st = some (.int .i64 (turnI x n), st) := by
  rw [callE0 (by decide) (af := A35) rfl rfl]
  have h1 := Int.tmod_lt_of_pos x (show 0 < n by omega)
  have h2 : -n < x.tmod n := Int.lt_tmod_of_pos x (show 0 < n by omega)
  have hw : IntKind.wrap .i64 (x.tmod n + n) = x.tmod n + n ∨ 0 ≤ x.tmod n := by
    rcases Int.lt_or_le (x.tmod n) 0 with h | h
    · exact .inl (wrap_small (by omega) (by omega))
    · exact .inr h
  have hn' : ¬ n < 1 := by omega
  have hn0 : n ≠ 0 := by omega
  unfold turnI
  by_cases h : x.tmod n < 0
  · have hw' : IntKind.wrap .i64 (x.tmod n + n) = x.tmod n + n := by omega
    simp [A35, A35_r0, A35_r1, A35_r2, A35_r3, A35_r4, A35_r5, A35_r6, finish, h, hn', hn0, hw']
  · simp [A35, A35_r0, A35_r1, A35_r2, A35_r3, A35_r4, A35_r5, A35_r6, finish, h, hn', hn0]
@[simp] theorem S_ev (a b : Int) (st : St) : callE E0 false (.fn 40 [] []) [.int .i64 a, .int .i64 b] st = some (.agg [.int .i64 a, .int .i64 b], st) := by
  rw [callE0 (by decide) (af := A40) rfl rfl]
  simp [A40, A40_r0, A40_r1, finish]
theorem empty_ev (a b : Int) (st : St) : callE E0 false (.fn 83 [] []) [.agg [.int .i64 a, .int .i64 b]] st = some (.bool (decide (b < a)), st) := by
  rw [callE0 (by decide) (af := A83) rfl rfl]
  simp [A83, A83_r0, A83_r1, finish]
theorem choose_ev {a b n : Int} (h : a ≤ b) (ha : 0 ≤ a) (hb : b ≤ 1000000) (st : St) : callE E0 false (.fn 41 [] []) [.agg [.int .i64 a, .int .i64 b], .int .i64 n] st = some (.int .i64 (a + turnI n (b - a + 1)), st) := by
  rw [callE0 (by decide) (af := A41) rfl rfl]
  have ht := fun st => turn_ev (x := n) (n := b - a + 1) (by omega) (by omega) st
  have hr := turnI_range (x := n) (n := b - a + 1) (by omega)
  have w1 : IntKind.wrap .i64 (b - a) = b - a := wrap_small (by omega) (by omega)
  have w2 : IntKind.wrap .i64 (b - a + 1) = b - a + 1 := wrap_small (by omega) (by omega)
  have w3 : IntKind.wrap .i64 (a + turnI n (b - a + 1)) = a + turnI n (b - a + 1) := wrap_small (by omega) (by omega)
  have h' : ¬ b < a := by omega
  simp [A41, A41_r0, A41_r1, A41_r2, A41_r3, regionA_st s41_r3, finish, empty_ev, ht, w1, w2, w3, h']
section
variable {t : Town}
theorem papers_loop (hf : t.Fits) {h : Hd} {l : List Pp} (hl : l.length ≤ 9223372036854775807) (st : St) (hlo : st.low ≤ st.heap.length) : ∀ (b a : List Pp) (k : Int), k = a.length → l = a ++ b →
    loopC E0 [1, 2, 5] [2] A82_l0 { ts := [(1, .v (lstA h Pp.av l)), (2, .loc 2 0), (5, .v (.int .i64 k))], bs := [(2, t.cs)] } st
    = if b.all (paperB t) = true then some (.exit 0, { ts := [(1, .v (lstA h Pp.av l)), (2, .loc 2 0), (5, .v (.int .i64 l.length)), (9, .v (.bool false))], bs := [(2, t.cs)] }, st)
      else some (.ret, { ts := [(4, .v (.bool false))], bs := [] }, st)
  | [], a, k, hk, e => by
    simp only [List.append_nil] at e
    subst e hk
    rw [loopC_eq]
    simp [A82_l0, A82_r2]
  | x :: b, a, k, hk, e => by
    subst hk
    have hlt : a.length < l.length := by rw [e]; simp
    have hd : (row Pp.av l).drop (a.length * 2) = Pp.av x ++ row Pp.av b := by rw [e, row_drop Pp.len]; rfl
    have hw : IntKind.wrap .i64 ((a.length : Int) + 1) = (a.length : Int) + 1 := wrap_small (by omega) (by omega)
    have hw1 : IntKind.wrap .i64 ((t.kinds.length : Int) - 1) = t.kinds.length - 1 := wrap_small (by omega) (by have := hf.k; omega)
    have hm : min st.low st.heap.length = st.low := Nat.min_eq_left hlo
    have ih := papers_loop hf (h := h) hl st hlo b (a ++ [x]) _ rfl (by simp [e])
    cases hp : paperB t x with
    | true =>
      simp only [paperB, Bool.and_eq_true] at hp
      rw [loopC_norm (fr' := { ts := [(1, .v (lstA h Pp.av l)), (2, .loc 2 0), (5, .v (.int .i64 ((a ++ [x]).length : Int)))], bs := [(2, t.cs)] }) (st' := st) (by
        simp [A82_l0, A82_r2, A82_r3, A82_r4, A82_r5, regionA_st s82_r4, hm, hlt, hd, hw, hw1, Pp.av, Town.cs, hp.1, hp.2]), ih]
      simp [paperB, hp.1, hp.2]
    | false =>
      rw [loopC_eq]
      unfold paperB at hp
      cases h1 : amid x.kind 0 (t.kinds.length - 1) with
      | false => simp [A82_l0, A82_r2, A82_r3, A82_r4, A82_r5, regionA_st s82_r4, hm, hlt, hd, hw, hw1, Pp.av, Town.cs, h1, paperB]
      | true =>
        rw [h1] at hp
        simp only [Bool.true_and] at hp
        simp [A82_l0, A82_r2, A82_r3, A82_r4, A82_r5, regionA_st s82_r4, hm, hlt, hd, hw, hw1, Pp.av, Town.cs, h1, hp, paperB]
theorem papers_ev (hf : t.Fits) {h : Hd} {l : List Pp} (hl : l.length ≤ 9223372036854775807) (st : St) : callE E0 false (.fn 82 [] []) [.agg t.cs, lstA h Pp.av l] st = some (.bool (l.all (paperB t)), st) := by
  rw [callE0 (by decide) (af := A82) rfl rfl]
  have ho := papers_loop hf (h := h) hl { st with low := st.heap.length } (Nat.le_refl _) l [] 0 rfl rfl
  simp only [Town.cs] at ho
  cases hb : l.all (paperB t) with
  | true =>
    rw [if_pos hb] at ho
    simp [A82, A82_r0, A82_r1, A82_r6, finish, Town.cs, ho]
  | false =>
    rw [if_neg (by simp [hb])] at ho
    simp [A82, A82_r0, A82_r1, A82_r6, finish, Town.cs, ho]
end
end Go.Proofs.Tryd

namespace Go.Proofs.Tryd
open Go Go.Proofs.AM

section
variable {t : Town}
theorem barB_all : ∀ {l : List Sp} {e : Int}, -1 ≤ e → barB e l = true → ∀ s ∈ l, span s.low s.high 0 999 = true
  | [], _, _, _, s, hs => by simp at hs
  | x :: l, e, he, h, s, hs => by
    simp only [barB, Bool.and_eq_true] at h
    have hx := h.1
    simp only [span, Bool.and_eq_true, decide_eq_true_eq] at hx
    rcases List.mem_cons.1 hs with rfl | hs
    · simp only [span, Bool.and_eq_true, decide_eq_true_eq]
      omega
    · exact barB_all (by omega) h.2 s hs
theorem sound_l0 (hf : t.Fits) (hk : t.kinds.all kdB = true) (st : St) : ∀ (b a : List Kd) (k : Int), k = a.length → t.kinds = a ++ b →
    loopC E0 [1, 3, 4] [1] A36_l0 { ts := [(1, .loc 1 0), (3, .v (.bool true)), (4, .v (.int .i64 k))], bs := [(1, t.cs)] } st
    = some (.exit 0, { ts := [(1, .loc 1 0), (3, .v (.bool true)), (4, .v (.int .i64 t.kinds.length)), (50, .v (.bool false))], bs := [(1, t.cs)] }, st)
  | [], a, k, hk, e => by
    simp only [List.append_nil] at e
    subst hk
    rw [loopC_eq]
    simp [A36_l0, A36_r3, Town.cs, e]
  | x :: b, a, k, hk0, e => by
    subst hk0
    have hlt : a.length < t.kinds.length := by rw [e]; simp
    have hd : (row Kd.av t.kinds).drop (a.length * 3) = Kd.av x ++ row Kd.av b := by rw [e, row_drop Kd.len]; rfl
    have hw : IntKind.wrap .i64 ((a.length : Int) + 1) = (a.length : Int) + 1 := wrap_small (by omega) (by have := hf.k; omega)
    have hx := List.all_eq_true.1 hk x (by rw [e]; simp)
    simp only [kdB, Bool.and_eq_true] at hx
    rw [loopC_norm (fr' := { ts := [(1, .loc 1 0), (3, .v (.bool true)), (4, .v (.int .i64 ((a ++ [x]).length : Int)))], bs := [(1, t.cs)] }) (st' := st) (by
      simp [A36_l0, A36_r3, A36_r4, A36_r5, A36_r6, hlt, hd, hw, Kd.av, Town.cs, hx.1.1, hx.1.2, hx.2]), sound_l0 hf hk st b (a ++ [x]) _ rfl (by simp [e])]
theorem sound_l1 (hf : t.Fits) (hb : ∀ s ∈ t.barred, span s.low s.high 0 999 = true) (st : St) : ∀ (b a : List Sp) (k : Int), k = a.length → t.barred = a ++ b →
    loopC E0 [1, 3, 6] [1] A36_l1 { ts := [(1, .loc 1 0), (3, .v (.bool true)), (6, .v (.int .i64 k))], bs := [(1, t.cs)] } st
    = some (.exit 2, { ts := [(1, .loc 1 0), (3, .v (.bool true)), (6, .v (.int .i64 t.barred.length)), (78, .v (.bool false))], bs := [(1, t.cs)] }, st)
  | [], a, k, hk, e => by
    simp only [List.append_nil] at e
    subst hk
    rw [loopC_eq]
    simp [A36_l1, A36_r8, Town.cs, e]
  | x :: b, a, k, hk0, e => by
    subst hk0
    have hlt : a.length < t.barred.length := by rw [e]; simp
    have hd : (row Sp.av t.barred).drop (a.length * 2) = Sp.av x ++ row Sp.av b := by rw [e, row_drop Sp.len]; rfl
    have hw : IntKind.wrap .i64 ((a.length : Int) + 1) = (a.length : Int) + 1 := wrap_small (by omega) (by have := hf.b; omega)
    have hx := hb x (by rw [e]; simp)
    rw [loopC_norm (fr' := { ts := [(1, .loc 1 0), (3, .v (.bool true)), (6, .v (.int .i64 ((a ++ [x]).length : Int)))], bs := [(1, t.cs)] }) (st' := st) (by
      simp [A36_l1, A36_r8, A36_r9, A36_r10, hlt, hd, hw, Sp.av, Town.cs, hx]), sound_l1 hf hb st b (a ++ [x]) _ rfl (by simp [e])]
/-- What a town that passes is like. -/
structure Good (t : Town) : Prop where
  n : amid t.kinds.length 1 4 = true
  pause : amid t.pause 0 20 = true
  nb : t.barred.length ≤ 4
  forb : amid t.forb 0 65535 = true
  close : amid t.close 0 1439 = true
  nh : t.held.length ≤ 4
  kinds : t.kinds.all kdB = true
  barred : barB (-1) t.barred = true
  held : t.held.all (paperB t) = true
  tog : togB t [] t.held = true
theorem good_of (h : checkB t = true) : Good t := by
  simp only [checkB, soundB, headB, Bool.and_eq_true, decide_eq_true_eq] at h
  exact ⟨h.1.1.1.1.1.1.1.1.1, h.1.1.1.1.1.1.1.1.2, h.1.1.1.1.1.1.1.2, h.1.1.1.1.1.1.2, h.1.1.1.1.1.2, h.1.1.1.1.2, h.1.1.1.2, h.1.1.2, h.1.2, h.2⟩
theorem sound_ev (hf : t.Fits) (st : St) : callE E0 false (.fn 36 [] []) [.agg t.cs] st = some (.bool (checkB t), st) := by
  rw [callE0 (by decide) (af := A36) rfl rfl]
  have hch := check_ev hf
  simp only [Town.cs] at hch
  cases hc : checkB t with
  | false =>
    simp only [hc] at hch
    simp [A36, A36_r0, A36_r1, A36_r2, A36_r7, A36_r11, finish, Town.cs, hch, loopC_eq, A36_l0, A36_r3, A36_l1, A36_r8]
  | true =>
    simp only [hc] at hch
    obtain ⟨g1, g2, g3, g4, g5, g6, g7, g8, g9, g10⟩ := good_of hc
    have l0 := sound_l0 hf g7 { st with low := st.heap.length } t.kinds [] 0 rfl rfl
    have l1 := sound_l1 hf (barB_all (by omega) g8) { st with low := st.heap.length } t.barred [] 0 rfl rfl
    have hp := papers_ev hf (h := t.hh) hf.h
    have h3 : (t.barred.length : Int) ≤ 4 := by omega
    have h6 : (t.held.length : Int) ≤ 4 := by omega
    simp only [Town.cs, g9] at l0 l1 hp
    simp [A36, A36_r0, A36_r1, A36_r2, A36_r7, A36_r11, finish, Town.cs, hch, g1, g2, g4, g5, h3, h6, l0, l1, hp]
end
end Go.Proofs.Tryd

namespace Go.Proofs.Tryd
open Go Go.Proofs.AM

@[simp] theorem stamped_ev (st : St) : callE E0 false (.fn 23 [] []) [] st = some (.bool true, st) := by
  rw [callE_eq]
  rfl
section
variable {t : Town}
theorem overLaw_ev (hf : t.Fits) (n0 n1 n2 n3 : Int) (st : St) : callE E0 false (.fn 8 [] []) [.agg t.cs, .agg [.int .i64 n0, .int .i64 n1, .int .i64 n2, .int .i64 n3]] st = some (.bool true, st) := by
  rw [callE0 (by decide) (af := A8) rfl rfl]
  have t0 := fun st => turn_ev (x := n0) (n := 1440) (by omega) (by omega) st
  have t1 := fun st => turn_ev (x := n1) (n := 1440) (by omega) (by omega) st
  have t2 := fun st => turn_ev (x := n2) (n := 90) (by omega) (by omega) st
  have r0 := turnI_range (x := n0) (n := 1440) (by omega)
  have r1 := turnI_range (x := n1) (n := 1440) (by omega)
  have r2 := turnI_range (x := n2) (n := 90) (by omega)
  generalize turnI n0 1440 = b at t0 r0
  generalize turnI n1 1440 = lo at t1 r1
  generalize turnI n2 90 = d at t2 r2
  have w1 : IntKind.wrap .i64 (lo + d) = lo + d := wrap_small (by omega) (by omega)
  obtain ⟨hi, hhi, h1, h2⟩ : ∃ hi, (if lo + d < 1439 then lo + d else 1439) = hi ∧ lo ≤ hi ∧ hi ≤ 1439 := ⟨_, rfl, by split <;> omega, by split <;> omega⟩
  have hs := sound_ev hf
  have hso := fun st => sound_ev hf st
  simp only [Town.cs] at hso
  cases hc : checkB t with
  | false =>
    have ho := fun st => over_bad hf hc (b := b) (lo := lo) (hi := hi) st
    simp only [Town.cs, hc] at ho hso
    simp [A8, A8_r0, A8_r1, A8_r2, A8_r3, A8_r4, A8_r5, regionA_st s8_r1, finish, Town.cs, t0, t1, t2, w1, hhi, ho, hso]
  | true =>
    have hb : amid b 0 1439 = true := amid_iff.2 (by omega)
    have hsp : span lo hi 0 1439 = true := by simp [span]; omega
    have ho := fun st => over_ok hf hc hb hsp st
    have hch := fun st => choose_ev (a := lo) (b := hi) (n := n3) h1 (by omega) (by omega) st
    have r3 := turnI_range (x := n3) (n := hi - lo + 1) (by omega)
    generalize turnI n3 (hi - lo + 1) = y at hch r3
    have hsp2 : span (lo + y) (lo + y) 0 1439 = true := by simp [span]; omega
    have ho2 := fun st => over_ok hf hc hb hsp2 st
    have w2 : IntKind.wrap .i64 (b + (lo + y)) = b + (lo + y) := wrap_small (by omega) (by omega)
    have w3 : IntKind.wrap .i64 (b + hi) = b + hi := wrap_small (by omega) (by omega)
    simp only [Town.cs, hc] at ho ho2 hso
    by_cases c2 : b + hi ≤ t.close
    · have c1 : b + lo ≤ t.close := by omega
      have c3 : b + (lo + y) ≤ t.close := by omega
      have e1 : overN t b lo hi = 2 := by simp [overN, c1, c2]
      have e2 : overN t b (lo + y) (lo + y) = 2 := by simp [overN, c3]
      simp [A8, A8_r0, A8_r1, A8_r2, A8_r3, A8_r4, A8_r5, A8_r6, A8_r7, A8_r8, A8_r9, regionA_st s8_r1, regionA_st s8_r8, finish, Town.cs, t0, t1, t2, w1, hhi, ho, ho2, hso, hch, w2, w3, e1, e2, c2, c3]
    · by_cases c3 : b + (lo + y) ≤ t.close
      · have c1 : b + lo ≤ t.close := by omega
        have e1 : overN t b lo hi = 1 := by simp [overN, c1, c2]
        have e2 : overN t b (lo + y) (lo + y) = 2 := by simp [overN, c3]
        simp [A8, A8_r0, A8_r1, A8_r2, A8_r3, A8_r4, A8_r5, A8_r6, A8_r7, A8_r8, A8_r9, regionA_st s8_r1, regionA_st s8_r8, finish, Town.cs, t0, t1, t2, w1, hhi, ho, ho2, hso, hch, w2, w3, e1, e2, c2, c3]
      · have e2 : overN t b (lo + y) (lo + y) = 0 := by simp [overN, c3]
        by_cases c1 : b + lo ≤ t.close
        · have e1 : overN t b lo hi = 1 := by simp [overN, c1, c2]
          simp [A8, A8_r0, A8_r1, A8_r2, A8_r3, A8_r4, A8_r5, A8_r6, A8_r7, A8_r8, A8_r9, regionA_st s8_r1, regionA_st s8_r8, finish, Town.cs, t0, t1, t2, w1, hhi, ho, ho2, hso, hch, w2, w3, e1, e2, c2, c3]
        · have e1 : overN t b lo hi = 0 := by simp [overN, c1, c2]
          simp [A8, A8_r0, A8_r1, A8_r2, A8_r3, A8_r4, A8_r5, A8_r6, A8_r7, A8_r8, A8_r9, regionA_st s8_r1, regionA_st s8_r8, finish, Town.cs, t0, t1, t2, w1, hhi, ho, ho2, hso, hch, w2, w3, e1, e2, c2, c3]
end
end Go.Proofs.Tryd

namespace Go.Proofs.Tryd
open Go Go.Proofs.AM

attribute [local simp] opsT trOf accOf boxesOf AOp.uses AO.uses objOf heffOf boxOf allPairs befores pairsFrom pairOk ordB hits AX.slot slotsL slotsP AX.slotO Nat.testBit
section
variable {t : Town}
theorem covers1_ev {m a b : Nat} {day : Int} {p : Pp} (hp : paperB t p = true) (hk : t.kinds.all kdB = true) (st : St) (ha : st.heap[a]? = some (.cells 0 none [.int .i64 day])) (hb : st.heap[b]? = some (.cells 0 none (t.cs ++ [.map m]))) :
    callE E0 false (.fn 93 [] [.ref a 0 0, .ref b 0 0]) [.agg p.av] st = some (.bool (amid day p.first (endB t p)), st) := by
  rw [callE0 (by decide) (af := A93) rfl rfl]
  have he := end_ev t m p hp hk
  have h1 : a < st.heap.length := (List.getElem?_eq_some_iff.1 ha).1
  have h2 : b < st.heap.length := (List.getElem?_eq_some_iff.1 hb).1
  have h1' : ¬ st.heap.length ≤ a := by omega
  have h2' : ¬ st.heap.length ≤ b := by omega
  simp only [Town.cs, Pp.av, List.cons_append, List.nil_append] at he hb
  simp [A93, A93_r0, A93_r1, regionA, finish, Town.cs, Pp.av, ha, hb, he, h1', h2']
end

section
variable {g : Nat} {cl : List AV} {h : Hd} {l : List Pp} {pr : Pp → Bool} {st : St}
theorem idx92_loop (hl : l.length ≤ 9223372036854775807) (hcl : ∀ hp d, mapS (AM.settle hp 0 true (d + 1)) cl = some (cl, [])) (hg : ∀ x ∈ l, callE E0 false (.fn g [] cl) [.agg x.av] st = some (.bool (pr x), st)) : ∀ (b a : List Pp) (k : Int), k = a.length → l = a ++ b →
    (b.any pr = true → ∃ n : Int, 0 ≤ n ∧ loopC E0 [0, 1, 7, 8] [] A92_l0 { ts := [(0, .v (lstA h Pp.av l)), (1, .v (.fn g [] cl)), (7, .v (.int .i64 l.length)), (8, .v (.int .i64 k))], bs := [] } st = some (.ret, { ts := [(4, .v (.int .i64 n))], bs := [] }, st)) ∧
    (b.any pr = false → loopC E0 [0, 1, 7, 8] [] A92_l0 { ts := [(0, .v (lstA h Pp.av l)), (1, .v (.fn g [] cl)), (7, .v (.int .i64 l.length)), (8, .v (.int .i64 k))], bs := [] } st = some (.exit 0, { ts := [(0, .v (lstA h Pp.av l)), (1, .v (.fn g [] cl)), (7, .v (.int .i64 l.length)), (8, .v (.int .i64 l.length)), (9, .v (.bool false))], bs := [] }, st))
  | [], a, k, hk, e => by
    simp only [List.append_nil] at e
    subst e hk
    refine ⟨fun h => by simp at h, fun _ => ?_⟩
    rw [loopC_eq]
    simp [A92_l0, A92_r2]
  | x :: b, a, k, hk, e => by
    subst hk
    have hlt : a.length < l.length := by rw [e]; simp
    have hd : (row Pp.av l).drop (a.length * 2) = Pp.av x ++ row Pp.av b := by rw [e, row_drop Pp.len]; rfl
    have hw : IntKind.wrap .i64 ((a.length : Int) + 1) = (a.length : Int) + 1 := wrap_small (by omega) (by omega)
    have hgx := hg x (by rw [e]; simp)
    simp only [Pp.av] at hgx
    cases hp : pr x with
    | true =>
      rw [hp] at hgx
      refine ⟨fun _ => ⟨a.length, by omega, ?_⟩, fun h => by simp [hp] at h⟩
      rw [loopC_eq]
      simp [A92_l0, A92_r2, A92_r3, A92_r4, A92_r5, A92_r6, hlt, hd, hw, Pp.av, hcl, hgx]
    | false =>
      rw [hp] at hgx
      rw [loopC_norm (fr' := { ts := [(0, .v (lstA h Pp.av l)), (1, .v (.fn g [] cl)), (7, .v (.int .i64 l.length)), (8, .v (.int .i64 ((a ++ [x]).length : Int)))], bs := [] }) (st' := st) (by
        simp [A92_l0, A92_r2, A92_r3, A92_r4, A92_r5, A92_r6, hlt, hd, hw, Pp.av, hcl, hgx])]
      have ih := idx92_loop hl hcl hg b (a ++ [x]) _ rfl (by simp [e])
      exact ⟨fun h => ih.1 (by simpa [hp] using h), fun h => ih.2 (by simpa [hp] using h)⟩
theorem contains69_ev (hl : l.length ≤ 9223372036854775807) (hcl : ∀ hp d, mapS (AM.settle hp 0 true (d + 1)) cl = some (cl, [])) (hg : ∀ x ∈ l, ∀ lo, callE E0 false (.fn g [] cl) [.agg x.av] { st with low := lo } = some (.bool (pr x), { st with low := lo })) :
    callE E0 false (.fn 69 [] []) [lstA h Pp.av l, .fn g [] cl] st = some (.bool (l.any pr), st) := by
  have hidx : ∃ n : Int, decide (0 ≤ n) = l.any pr ∧ ∀ lo, callE E0 false (.fn 92 [] []) [lstA h Pp.av l, .fn g [] cl] { st with low := lo } = some (.int .i64 n, { st with low := lo }) := by
    have hlp := idx92_loop (h := h) (st := { st with low := st.heap.length }) hl hcl (fun x hx => hg x hx _) l [] 0 rfl rfl
    cases ha : l.any pr with
    | true =>
      obtain ⟨n, hn, hlp⟩ := hlp.1 ha
      refine ⟨n, by simpa using hn, fun lo => ?_⟩
      rw [callE0 (by decide) (af := A92) rfl rfl]
      simp [A92, A92_r0, A92_r1, A92_r7, finish, hlp]
    | false =>
      have hlp := hlp.2 ha
      refine ⟨-1, by simp, fun lo => ?_⟩
      rw [callE0 (by decide) (af := A92) rfl rfl]
      simp [A92, A92_r0, A92_r1, A92_r7, finish, hlp]
  obtain ⟨n, hn, hidx⟩ := hidx
  rw [callE0 (by decide) (af := A69) rfl rfl]
  simp [A69, A69_r0, A69_r1, finish, hcl, hidx, hn]
end

section
variable {g : Nat} {cl : List AV} {h : Hd} {l : List Sp} {pr : Sp → Bool} {st : St}
theorem idx100_loop (hl : l.length ≤ 9223372036854775807) (hcl : ∀ hp d, mapS (AM.settle hp 0 true (d + 1)) cl = some (cl, [])) (hg : ∀ x ∈ l, callE E0 false (.fn g [] cl) [.agg x.av] st = some (.bool (pr x), st)) : ∀ (b a : List Sp) (k : Int), k = a.length → l = a ++ b →
    (b.any pr = true → ∃ n : Int, 0 ≤ n ∧ loopC E0 [0, 1, 7, 8] [] A100_l0 { ts := [(0, .v (lstA h Sp.av l)), (1, .v (.fn g [] cl)), (7, .v (.int .i64 l.length)), (8, .v (.int .i64 k))], bs := [] } st = some (.ret, { ts := [(4, .v (.int .i64 n))], bs := [] }, st)) ∧
    (b.any pr = false → loopC E0 [0, 1, 7, 8] [] A100_l0 { ts := [(0, .v (lstA h Sp.av l)), (1, .v (.fn g [] cl)), (7, .v (.int .i64 l.length)), (8, .v (.int .i64 k))], bs := [] } st = some (.exit 0, { ts := [(0, .v (lstA h Sp.av l)), (1, .v (.fn g [] cl)), (7, .v (.int .i64 l.length)), (8, .v (.int .i64 l.length)), (9, .v (.bool false))], bs := [] }, st))
  | [], a, k, hk, e => by
    simp only [List.append_nil] at e
    subst e hk
    refine ⟨fun h => by simp at h, fun _ => ?_⟩
    rw [loopC_eq]
    simp [A100_l0, A100_r2]
  | x :: b, a, k, hk, e => by
    subst hk
    have hlt : a.length < l.length := by rw [e]; simp
    have hd : (row Sp.av l).drop (a.length * 2) = Sp.av x ++ row Sp.av b := by rw [e, row_drop Sp.len]; rfl
    have hw : IntKind.wrap .i64 ((a.length : Int) + 1) = (a.length : Int) + 1 := wrap_small (by omega) (by omega)
    have hgx := hg x (by rw [e]; simp)
    simp only [Sp.av] at hgx
    cases hp : pr x with
    | true =>
      rw [hp] at hgx
      refine ⟨fun _ => ⟨a.length, by omega, ?_⟩, fun h => by simp [hp] at h⟩
      rw [loopC_eq]
      simp [A100_l0, A100_r2, A100_r3, A100_r4, A100_r5, A100_r6, hlt, hd, hw, Sp.av, hcl, hgx]
    | false =>
      rw [hp] at hgx
      rw [loopC_norm (fr' := { ts := [(0, .v (lstA h Sp.av l)), (1, .v (.fn g [] cl)), (7, .v (.int .i64 l.length)), (8, .v (.int .i64 ((a ++ [x]).length : Int)))], bs := [] }) (st' := st) (by
        simp [A100_l0, A100_r2, A100_r3, A100_r4, A100_r5, A100_r6, hlt, hd, hw, Sp.av, hcl, hgx])]
      have ih := idx100_loop hl hcl hg b (a ++ [x]) _ rfl (by simp [e])
      exact ⟨fun h => ih.1 (by simpa [hp] using h), fun h => ih.2 (by simpa [hp] using h)⟩
theorem contains95_ev (hl : l.length ≤ 9223372036854775807) (hcl : ∀ hp d, mapS (AM.settle hp 0 true (d + 1)) cl = some (cl, [])) (hg : ∀ x ∈ l, ∀ lo, callE E0 false (.fn g [] cl) [.agg x.av] { st with low := lo } = some (.bool (pr x), { st with low := lo })) :
    callE E0 false (.fn 95 [] []) [lstA h Sp.av l, .fn g [] cl] st = some (.bool (l.any pr), st) := by
  have hidx : ∃ n : Int, decide (0 ≤ n) = l.any pr ∧ ∀ lo, callE E0 false (.fn 100 [] []) [lstA h Sp.av l, .fn g [] cl] { st with low := lo } = some (.int .i64 n, { st with low := lo }) := by
    have hlp := idx100_loop (h := h) (st := { st with low := st.heap.length }) hl hcl (fun x hx => hg x hx _) l [] 0 rfl rfl
    cases ha : l.any pr with
    | true =>
      obtain ⟨n, hn, hlp⟩ := hlp.1 ha
      refine ⟨n, by simpa using hn, fun lo => ?_⟩
      rw [callE0 (by decide) (af := A100) rfl rfl]
      simp [A100, A100_r0, A100_r1, A100_r7, finish, hlp]
    | false =>
      have hlp := hlp.2 ha
      refine ⟨-1, by simp, fun lo => ?_⟩
      rw [callE0 (by decide) (af := A100) rfl rfl]
      simp [A100, A100_r0, A100_r1, A100_r7, finish, hlp]
  obtain ⟨n, hn, hidx⟩ := hidx
  rw [callE0 (by decide) (af := A95) rfl rfl]
  simp [A95, A95_r0, A95_r1, finish, hcl, hidx, hn]
end

section
variable {g : Nat} {cl : List AV} {h : Hd} {l : List Int} {pr : Int → Bool} {st : St}
theorem idx111_loop (hl : l.length ≤ 9223372036854775807) (hcl : ∀ hp d, mapS (AM.settle hp 0 true (d + 1)) cl = some (cl, [])) (hg : ∀ x ∈ l, callE E0 false (.fn g [] cl) [.int .i64 x] st = some (.bool (pr x), st)) : ∀ (b a : List Int) (k : Int), k = a.length → l = a ++ b →
    (b.any pr = true → ∃ n : Int, 0 ≤ n ∧ loopC E0 [0, 1, 7, 8] [] A111_l0 { ts := [(0, .v (lstA h In.av l)), (1, .v (.fn g [] cl)), (7, .v (.int .i64 l.length)), (8, .v (.int .i64 k))], bs := [] } st = some (.ret, { ts := [(4, .v (.int .i64 n))], bs := [] }, st)) ∧
    (b.any pr = false → loopC E0 [0, 1, 7, 8] [] A111_l0 { ts := [(0, .v (lstA h In.av l)), (1, .v (.fn g [] cl)), (7, .v (.int .i64 l.length)), (8, .v (.int .i64 k))], bs := [] } st = some (.exit 0, { ts := [(0, .v (lstA h In.av l)), (1, .v (.fn g [] cl)), (7, .v (.int .i64 l.length)), (8, .v (.int .i64 l.length)), (9, .v (.bool false))], bs := [] }, st))
  | [], a, k, hk, e => by
    simp only [List.append_nil] at e
    subst e hk
    refine ⟨fun h => by simp at h, fun _ => ?_⟩
    rw [loopC_eq]
    simp [A111_l0, A111_r2]
  | x :: b, a, k, hk, e => by
    subst hk
    have hlt : a.length < l.length := by rw [e]; simp
    have hd : (row In.av l).drop (a.length * 1) = In.av x ++ row In.av b := by rw [e, row_drop In.len]; rfl
    have hw : IntKind.wrap .i64 ((a.length : Int) + 1) = (a.length : Int) + 1 := wrap_small (by omega) (by omega)
    have hgx := hg x (by rw [e]; simp)
    try simp only [In.av] at hgx
    try simp only [Nat.mul_one] at hd
    cases hp : pr x with
    | true =>
      rw [hp] at hgx
      refine ⟨fun _ => ⟨a.length, by omega, ?_⟩, fun h => by simp [hp] at h⟩
      rw [loopC_eq]
      simp [A111_l0, A111_r2, A111_r3, A111_r4, A111_r5, A111_r6, hlt, hd, hw, In.av, hcl, hgx]
    | false =>
      rw [hp] at hgx
      rw [loopC_norm (fr' := { ts := [(0, .v (lstA h In.av l)), (1, .v (.fn g [] cl)), (7, .v (.int .i64 l.length)), (8, .v (.int .i64 ((a ++ [x]).length : Int)))], bs := [] }) (st' := st) (by
        simp [A111_l0, A111_r2, A111_r3, A111_r4, A111_r5, A111_r6, hlt, hd, hw, In.av, hcl, hgx])]
      have ih := idx111_loop hl hcl hg b (a ++ [x]) _ rfl (by simp [e])
      exact ⟨fun h => ih.1 (by simpa [hp] using h), fun h => ih.2 (by simpa [hp] using h)⟩
theorem contains108_ev (hl : l.length ≤ 9223372036854775807) (hcl : ∀ hp d, mapS (AM.settle hp 0 true (d + 1)) cl = some (cl, [])) (hg : ∀ x ∈ l, ∀ lo, callE E0 false (.fn g [] cl) [.int .i64 x] { st with low := lo } = some (.bool (pr x), { st with low := lo })) :
    callE E0 false (.fn 108 [] []) [lstA h In.av l, .fn g [] cl] st = some (.bool (l.any pr), st) := by
  have hidx : ∃ n : Int, decide (0 ≤ n) = l.any pr ∧ ∀ lo, callE E0 false (.fn 111 [] []) [lstA h In.av l, .fn g [] cl] { st with low := lo } = some (.int .i64 n, { st with low := lo }) := by
    have hlp := idx111_loop (h := h) (st := { st with low := st.heap.length }) hl hcl (fun x hx => hg x hx _) l [] 0 rfl rfl
    cases ha : l.any pr with
    | true =>
      obtain ⟨n, hn, hlp⟩ := hlp.1 ha
      refine ⟨n, by simpa using hn, fun lo => ?_⟩
      rw [callE0 (by decide) (af := A111) rfl rfl]
      simp [A111, A111_r0, A111_r1, A111_r7, finish, hlp]
    | false =>
      have hlp := hlp.2 ha
      refine ⟨-1, by simp, fun lo => ?_⟩
      rw [callE0 (by decide) (af := A111) rfl rfl]
      simp [A111, A111_r0, A111_r1, A111_r7, finish, hlp]
  obtain ⟨n, hn, hidx⟩ := hidx
  rw [callE0 (by decide) (af := A108) rfl rfl]
  simp [A108, A108_r0, A108_r1, finish, hcl, hidx, hn]
end
end Go.Proofs.Tryd

namespace Go.Proofs.Tryd
open Go Go.Proofs.AM

def covB (t : Town) (l : List Pp) (day : Int) : Bool := l.any fun p => amid day p.first (endB t p)
def barredB (t : Town) (day : Int) : Bool := t.barred.any fun s => amid day s.low s.high
section
variable {t : Town}
theorem covers_ev {m : Nat} {h : Hd} {l : List Pp} (day : Int) (hl : l.length ≤ 9223372036854775807) (hall : ∀ p ∈ l, paperB t p = true) (hk : t.kinds.all kdB = true) (st : St) :
    callE E0 false (.fn 72 [] []) [.agg (t.cs ++ [.map m]), lstA h Pp.av l, .int .i64 day] st = some (.bool (covB t l day), st) := by
  rw [callE0 (by decide) (af := A72) rfl rfl]
  have hc := contains69_ev (h := h) (g := 93) (cl := [.ref (st.heap.length + 1) 0 0, .ref st.heap.length 0 0]) (pr := fun p => amid day p.first (endB t p)) (st := { heap := st.heap ++ [.cells 0 none (t.cs ++ [.map m]), .cells 0 none [.int .i64 day]], low := st.heap.length }) hl (fun hp d => by simp)
    (fun x hx lo => covers1_ev (m := m) (hall x hx) hk _ (by simp [List.getElem?_append_right]) (by simp))
  simp only [Town.cs, List.cons_append, List.nil_append] at hc
  simp [A72, A72_r0, A72_r1, finish, Town.cs, alloc, hc, covB]
theorem isBarred1_ev {a : Nat} {day : Int} {s : Sp} (st : St) (ha : st.heap[a]? = some (.cells 0 none [.int .i64 day])) :
    callE E0 false (.fn 96 [] [.ref a 0 0]) [.agg s.av] st = some (.bool (amid day s.low s.high), st) := by
  rw [callE0 (by decide) (af := A96) rfl rfl]
  simp [A96, A96_r0, A96_r1, finish, Sp.av, ha]
theorem isBarred_ev {m : Nat} (hf : t.Fits) (day : Int) (st : St) : callE E0 false (.fn 73 [] []) [.agg (t.cs ++ [.map m]), .int .i64 day] st = some (.bool (barredB t day), st) := by
  rw [callE0 (by decide) (af := A73) rfl rfl]
  have hc := contains95_ev (h := t.bh) (l := t.barred) (g := 96) (cl := [.ref st.heap.length 0 0]) (pr := fun s => amid day s.low s.high) (st := { heap := st.heap ++ [.cells 0 none [.int .i64 day]], low := st.heap.length }) hf.b (fun hp d => by simp)
    (fun x hx lo => isBarred1_ev _ (by simp))
  simp [A73, A73_r0, A73_r1, finish, Town.cs, alloc, hc, barredB]
end
end Go.Proofs.Tryd

namespace Go.Proofs.Tryd
open Go Go.Proofs.AM

def shrI (x i : Int) : Int := x.fdiv (2 ^ (min i.toNat 64))
def and1 (y : Int) : Int := IntKind.wrap .i64 (BitVec.ofInt 64 y &&& BitVec.ofInt 64 1).toNat
/-- Is a bit of a number set? -/
def bitB (x i : Int) : Bool := and1 (shrI x i) == 1
theorem shr_ev {x i : Int} (h : 0 ≤ i) : binA .shr (.int .i64 x) (.int .i64 i) = some (.int .i64 (shrI x i)) := by
  have h' : ¬ i < 0 := by omega
  simp only [binA, shift]
  rw [if_neg h']
  rfl
theorem and_ev (y : Int) : binA .and (.int .i64 y) (.int .i64 1) = some (.int .i64 (and1 y)) := rfl
theorem bit_ev {x i : Int} (h : 0 ≤ i) (st : St) : callE E0 false (.fn 38 [] []) [.int .i64 x, .int .i64 i] st = some (.bool (bitB x i), st) := by
  rw [callE0 (by decide) (af := A38) rfl rfl]
  simp [A38, A38_r0, A38_r1, finish, ↓and_ev, ↓shr_ev h, bitB]
def whyB (t : Town) (day film minute : Int) : Int := if covB t t.held day = false then 1 else if barredB t day = true then 2 else if bitB t.forb film = true then 3 else if t.close < minute then 4 else 0
section
variable {t : Town} {m : Nat} {day film minute : Int}
theorem uncovered_ev (hf : t.Fits) (g : Good t) (st : St) : callE E0 false (.fn 128 [] []) [.agg (t.cs ++ [.map m]), .agg [.int .i64 day, .int .i64 film, .int .i64 minute]] st = some (.bool (!covB t t.held day), st) := by
  rw [callE0 (by decide) (af := A128) rfl rfl]
  have hc := covers_ev (m := m) (h := t.hh) day hf.h (fun p hp => List.all_eq_true.1 g.held p hp) g.kinds
  simp only [Town.cs, List.cons_append, List.nil_append] at hc
  simp [A128, A128_r0, A128_r1, finish, Town.cs, hc]
theorem barred_ev (hf : t.Fits) (st : St) : callE E0 false (.fn 129 [] []) [.agg (t.cs ++ [.map m]), .agg [.int .i64 day, .int .i64 film, .int .i64 minute]] st = some (.bool (barredB t day), st) := by
  rw [callE0 (by decide) (af := A129) rfl rfl]
  have hc := isBarred_ev (m := m) hf day
  simp only [Town.cs, List.cons_append, List.nil_append] at hc
  simp [A129, A129_r0, A129_r1, finish, Town.cs, hc]
theorem forbidden_ev (h : 0 ≤ film) (st : St) : callE E0 false (.fn 130 [] []) [.agg (t.cs ++ [.map m]), .agg [.int .i64 day, .int .i64 film, .int .i64 minute]] st = some (.bool (bitB t.forb film), st) := by
  rw [callE0 (by decide) (af := A130) rfl rfl]
  simp [A130, A130_r0, A130_r1, finish, Town.cs, ↓and_ev, ↓shr_ev h, bitB]
theorem late_ev (st : St) : callE E0 false (.fn 131 [] []) [.agg (t.cs ++ [.map m]), .agg [.int .i64 day, .int .i64 film, .int .i64 minute]] st = some (.bool (decide (t.close < minute)), st) := by
  rw [callE0 (by decide) (af := A131) rfl rfl]
  simp [A131, A131_r0, A131_r1, finish, Town.cs]
theorem why_loop (hf : t.Fits) (g : Good t) (h : 0 ≤ film) (st : St) :
    loopC E0 [1, 2, 3, 10, 32, 33] [10] A14_l0 { ts := [(1, .v (.int .i64 day)), (2, .v (.int .i64 film)), (3, .v (.int .i64 minute)), (10, .loc 10 0), (32, .v (.agg [.fn 128 [] [], .fn 129 [] [], .fn 130 [] [], .fn 131 [] []])), (33, .v (.int .i64 0))], bs := [(10, t.cs ++ [.map m])] } st
    = if whyB t day film minute = 0 then some (.exit 0, { ts := [(1, .v (.int .i64 day)), (2, .v (.int .i64 film)), (3, .v (.int .i64 minute)), (10, .loc 10 0), (32, .v (.agg [.fn 128 [] [], .fn 129 [] [], .fn 130 [] [], .fn 131 [] []])), (33, .v (.int .i64 4)), (34, .v (.bool false))], bs := [(10, t.cs ++ [.map m])] }, st)
      else some (.ret, { ts := [(8, .v (.int .i64 (whyB t day film minute))), (9, .v (.int .i64 0))], bs := [] }, st) := by
  have c1 := fun st => uncovered_ev (m := m) (day := day) (film := film) (minute := minute) hf g st
  have c2 := fun st => barred_ev (m := m) (day := day) (film := film) (minute := minute) hf st
  have c3 := fun st => forbidden_ev (t := t) (m := m) (day := day) (film := film) (minute := minute) h st
  have c4 := fun st => late_ev (t := t) (m := m) (day := day) (film := film) (minute := minute) st
  have w1 : IntKind.wrap .i64 1 = 1 := by decide
  have w2 : IntKind.wrap .i64 2 = 2 := by decide
  have w3 : IntKind.wrap .i64 3 = 3 := by decide
  have w4 : IntKind.wrap .i64 4 = 4 := by decide
  simp only [Town.cs, List.cons_append, List.nil_append] at c1 c2 c3 c4
  have nx : ∀ k : Int, (k = 1 ∧ covB t t.held day = true ∨ k = 2 ∧ barredB t day = false ∨ k = 3 ∧ bitB t.forb film = false ∨ k = 4 ∧ ¬ t.close < minute) →
      loopC E0 [1, 2, 3, 10, 32, 33] [10] A14_l0 { ts := [(1, .v (.int .i64 day)), (2, .v (.int .i64 film)), (3, .v (.int .i64 minute)), (10, .loc 10 0), (32, .v (.agg [.fn 128 [] [], .fn 129 [] [], .fn 130 [] [], .fn 131 [] []])), (33, .v (.int .i64 (k - 1)))], bs := [(10, t.cs ++ [.map m])] } st
      = loopC E0 [1, 2, 3, 10, 32, 33] [10] A14_l0 { ts := [(1, .v (.int .i64 day)), (2, .v (.int .i64 film)), (3, .v (.int .i64 minute)), (10, .loc 10 0), (32, .v (.agg [.fn 128 [] [], .fn 129 [] [], .fn 130 [] [], .fn 131 [] []])), (33, .v (.int .i64 k))], bs := [(10, t.cs ++ [.map m])] } st := by
    intro k hk
    apply loopC_norm
    rcases hk with ⟨rfl, hk⟩ | ⟨rfl, hk⟩ | ⟨rfl, hk⟩ | ⟨rfl, hk⟩ <;> simp [A14_l0, A14_r5, A14_r6, A14_r7, A14_r8, A14_r9, Town.cs, c1, c2, c3, c4, hk, w1, w2, w3, w4]
  unfold whyB
  cases h1 : covB t t.held day with
  | false =>
    rw [loopC_eq]
    simp [A14_l0, A14_r5, A14_r6, A14_r7, A14_r8, A14_r9, Town.cs, c1, h1, w1]
  | true =>
    have n1 := nx 1 (.inl ⟨rfl, h1⟩)
    simp only [Int.sub_self] at n1
    rw [n1]
    cases h2 : barredB t day with
    | true =>
      rw [loopC_eq]
      simp [A14_l0, A14_r5, A14_r6, A14_r7, A14_r8, A14_r9, Town.cs, c2, h2, w2]
    | false =>
      have n2 := nx 2 (.inr (.inl ⟨rfl, h2⟩))
      rw [show (2 : Int) - 1 = 1 from rfl] at n2
      rw [n2]
      cases h3 : bitB t.forb film with
      | true =>
        rw [loopC_eq]
        simp [A14_l0, A14_r5, A14_r6, A14_r7, A14_r8, A14_r9, Town.cs, c3, h3, w3]
      | false =>
        have n3 := nx 3 (.inr (.inr (.inl ⟨rfl, h3⟩)))
        rw [show (3 : Int) - 1 = 2 from rfl] at n3
        rw [n3]
        by_cases h4 : t.close < minute
        · rw [loopC_eq]
          simp [A14_l0, A14_r5, A14_r6, A14_r7, A14_r8, A14_r9, Town.cs, c4, h4, w4]
        · have n4 := nx 4 (.inr (.inr (.inr ⟨rfl, h4⟩)))
          rw [show (4 : Int) - 1 = 3 from rfl] at n4
          rw [n4, loopC_eq]
          simp [A14_l0, A14_r5, h4]
end
end Go.Proofs.Tryd

namespace Go.Proofs.Tryd
open Go Go.Proofs.AM

@[simp] theorem glob0 : E0.glob 0 = some [.fn 128 [] [], .fn 129 [] [], .fn 130 [] [], .fn 131 [] []] := rfl
@[simp] theorem glob1 : E0.glob 1 = some [.int .i64 (-1), .int .i64 (-1)] := rfl
section
variable {t : Town} {day film minute : Int}
theorem why_bad (hf : t.Fits) (hc : checkB t = false) (st : St) : callE E0 false (.fn 14 [] []) [.agg t.cs, .int .i64 day, .int .i64 film, .int .i64 minute] st = some (.tup [.int .i64 0, .int .i64 50], st) := by
  rw [callE0 (by decide) (af := A14) rfl rfl]
  have ha := asked_bad hf hc
  simp only [Town.cs, zero7] at ha
  cases h1 : amid day 0 999 <;> cases h2 : amid film 0 15 <;> cases h3 : amid minute 0 1439 <;> simp [A14, A14_r0, A14_r1, A14_r2, A14_r3, regionA_st s14_r1, finish, Town.cs, ha, h1, h2, h3]
theorem why_no (hf : t.Fits) (hc : checkB t = true) (h : (amid day 0 999 && amid film 0 15 && amid minute 0 1439) = false) (st : St) : callE E0 false (.fn 14 [] []) [.agg t.cs, .int .i64 day, .int .i64 film, .int .i64 minute] st = some (.tup [.int .i64 0, .int .i64 51], st) := by
  rw [callE0 (by decide) (af := A14) rfl rfl]
  have ha := asked_no hf hc
  simp only [Town.cs, zero7] at ha
  cases h1 : amid day 0 999 <;> cases h2 : amid film 0 15 <;> cases h3 : amid minute 0 1439 <;> simp [h1, h2, h3] at h <;> simp [A14, A14_r0, A14_r1, A14_r2, A14_r3, regionA_st s14_r1, finish, Town.cs, ha, h1, h2, h3]
theorem why_ok (hf : t.Fits) (hc : checkB t = true) (h1 : amid day 0 999 = true) (h2 : amid film 0 15 = true) (h3 : amid minute 0 1439 = true) (st : St) : callE E0 false (.fn 14 [] []) [.agg t.cs, .int .i64 day, .int .i64 film, .int .i64 minute] st = some (.tup [.int .i64 (whyB t day film minute), .int .i64 0], st) := by
  rw [callE0 (by decide) (af := A14) rfl rfl]
  have ha := asked_ok hf hc
  have hl := fun m => why_loop (m := m) (day := day) (film := film) (minute := minute) hf (good_of hc) (amid_iff.1 h2).1
  simp only [Town.cs, List.cons_append, List.nil_append] at ha hl
  by_cases hw : whyB t day film minute = 0
  · simp only [if_pos hw] at hl
    simp [A14, A14_r0, A14_r1, A14_r2, A14_r3, A14_r4, A14_r10, regionA_st s14_r1, finish, Town.cs, ha, h1, h2, h3, hl, hw]
  · simp only [if_neg hw] at hl
    simp [A14, A14_r0, A14_r1, A14_r2, A14_r3, A14_r4, A14_r10, regionA_st s14_r1, finish, Town.cs, ha, h1, h2, h3, hl]
end
end Go.Proofs.Tryd

namespace Go.Proofs.Tryd
open Go Go.Proofs.AM

section
variable {α : Type} (B l : List α) (k : Nat) (x : α)
theorem get_app : (B ++ l)[B.length + k]? = l[k]? := by simp [List.getElem?_append_right]
theorem get_app0 : (B ++ l)[B.length]? = l[0]? := by simp [List.getElem?_append_right]
theorem set_app : (B ++ l).set (B.length + k) x = B ++ l.set k x := by simp [List.set_append_right]
theorem set_app0 : (B ++ l).set B.length x = B ++ l.set 0 x := by simp [List.set_append_right]
end
/-- The heap while the days are told. -/
def hp9 (N : Nat) (t : Town) (lo hi : Int) (out : AV) : List AObj :=
  [.cells 0 none t.cs, .cells 0 none [.int .i64 lo, .int .i64 hi], .map [], .cells 0 none (t.cs ++ [.map (N + 2)]), .cells 0 none [out],
   .cells 0 none (t.cs ++ [.map (N + 2)]), .cells 0 none [.int .i64 lo, .int .i64 hi], .cells 0 none [lstA t.hh Pp.av t.held],
   .loop false [26] A18_f0a A18_f0b [(8, .v (.ref (N + 4) 0 0)), (25, .v (.fn 91 [] [.ref (N + 5) 0 0, .ref (N + 6) 0 0, .ref (N + 7) 0 0]))]]
theorem yldE0 (L : Nat) (args : List AV) (st : St) : callE E0 false (.yld L) args st = bodyA E0 false (.yld L) args st (codeE E0) := by
  rw [callE_eq]
  rfl
section
variable {t : Town} {lo hi : Int}
theorem yield_first (B : List AObj) (d : Int) : callE E0 false (.yld (B.length + 8)) [.int .i64 d] { heap := B ++ hp9 B.length t lo hi (.lst (some true) true 0 []), low := B.length + 9 }
    = some (.bool true, { heap := B ++ (hp9 B.length t lo hi (.sl 1 (B.length + 9) 0 0 1 none) ++ [.cells 0 (some (3, 1)) [.int .i64 d]]), low := B.length + 4 }) := by
  rw [yldE0]
  have h1 : min (B.length + 9) (B.length + 4) = B.length + 4 := by omega
  simp [bodyA, putPs, hp9, A18_f0a, A18_f0b, A18_r6, A18_r7, get_app, set_app, appA, sliceCells, alloc, mods, room, h1]
theorem yield_more (B : List AObj) (d : Int) (n : Nat) (outs : List Int) (hn : outs.length = n + 1) (hb : outs.length ≤ 1000) : callE E0 false (.yld (B.length + 8)) [.int .i64 d] { heap := B ++ (hp9 B.length t lo hi (.sl 1 (B.length + 9) n 0 (n + 1) none) ++ [.cells n (some (3, 1)) (row In.av outs)]), low := B.length + 4 }
    = some (.bool true, { heap := B ++ (hp9 B.length t lo hi (.sl 1 (B.length + 9) (n + 1) 0 (n + 1 + 1) none) ++ [.cells (n + 1) (some (3, 1)) (row In.av (outs ++ [d]))]), low := B.length + 4 }) := by
  rw [yldE0]
  have hl : (row In.av outs).length = n + 1 := by rw [row_len In.len, hn]; omega
  have ha : row In.av (outs ++ [d]) = row In.av outs ++ [.int .i64 d] := by rw [row_append]; rfl
  have h1 : (n + 1 + 1) * 8 ≤ room := by unfold room; omega
  have h2 : n + 1 + 1 ≤ room := by unfold room; omega
  have h3 : min (B.length + 4) (B.length + 9) = B.length + 4 := by omega
  simp [bodyA, putPs, hp9, A18_f0a, A18_f0b, A18_r6, A18_r7, get_app, set_app, appA, sliceCells, alloc, mods, h1, h2, hl, ha, h3]
end
end Go.Proofs.Tryd

namespace Go.Proofs.Tryd
open Go Go.Proofs.AM

def dayB (t : Town) (d : Int) : Bool := covB t t.held d && !barredB t d
def daysL (t : Town) : Nat → Int → List Int
  | 0, _ => []
  | r + 1, d => if dayB t d = true then d :: daysL t r (d + 1) else daysL t r (d + 1)
def outV (N : Nat) : List Int → AV
  | [] => .lst (some true) true 0 []
  | _ :: os => .sl 1 (N + 9) os.length 0 (os.length + 1) none
def dat : List Int → List AObj
  | [] => []
  | o :: os => [.cells os.length (some (3, 1)) (row In.av (o :: os))]
def lowD (N : Nat) : List Int → Nat
  | [] => N + 9
  | _ :: _ => N + 4
def stD (B : List AObj) (t : Town) (lo hi : Int) (outs : List Int) : St := { heap := B ++ (hp9 B.length t lo hi (outV B.length outs) ++ dat outs), low := lowD B.length outs }
section
variable {t : Town} {lo hi : Int}
theorem yield_ev (B : List AObj) (d : Int) (outs : List Int) (hb : outs.length ≤ 1000) : callE E0 false (.yld (B.length + 8)) [.int .i64 d] (stD B t lo hi outs) = some (.bool true, stD B t lo hi (outs ++ [d])) := by
  cases outs with
  | nil =>
    have := yield_first (t := t) (lo := lo) (hi := hi) B d
    simpa [stD, outV, dat, lowD, row, In.av] using this
  | cons o os =>
    have := yield_more (t := t) (lo := lo) (hi := hi) B d os.length (o :: os) rfl hb
    simpa [stD, outV, dat, lowD] using this
theorem isBarredM_ev {m : Nat} (hf : t.Fits) (day : Int) (st : St) : callE E0 false (.fn 73 [.agg (t.cs ++ [.map m])] []) [.int .i64 day] st = some (.bool (barredB t day), st) := by
  have h := isBarred_ev (m := m) hf day st
  rw [callE0 (by decide) (af := A73) rfl rfl] at h ⊢
  exact h
theorem days_step {m a b c L : Nat} {k cnt : Int} {S S' : St} (hf : t.Fits) (g : Good t) (hk : 0 ≤ k) (hk2 : k < cnt) (hc : cnt = hi - lo + 1) (hlo : 0 ≤ lo) (hhi : hi ≤ 999)
    (h5 : S.heap[a]? = some (.cells 0 none (t.cs ++ [.map m]))) (h6 : S.heap[b]? = some (.cells 0 none [.int .i64 lo, .int .i64 hi])) (h7 : S.heap[c]? = some (.cells 0 none [lstA t.hh Pp.av t.held]))
    (hy : callE E0 false (.yld L) [.int .i64 (lo + k)] S = some (.bool true, S')) :
    loopC E0 [0, 1, 2, 3, 5, 15, 16] [] A91_l0 { ts := [(0, .v (.yld L)), (1, .v (.ref a 0 0)), (2, .v (.ref b 0 0)), (3, .v (.ref c 0 0)), (5, .v (.fn 73 [.agg (t.cs ++ [.map m])] [])), (15, .v (.int .i64 cnt)), (16, .v (.int .i64 k))], bs := [] } S
    = loopC E0 [0, 1, 2, 3, 5, 15, 16] [] A91_l0 { ts := [(0, .v (.yld L)), (1, .v (.ref a 0 0)), (2, .v (.ref b 0 0)), (3, .v (.ref c 0 0)), (5, .v (.fn 73 [.agg (t.cs ++ [.map m])] [])), (15, .v (.int .i64 cnt)), (16, .v (.int .i64 (k + 1)))], bs := [] } (if dayB t (lo + k) = true then S' else S) := by
  have hcv := covers_ev (m := m) (h := t.hh) (lo + k) hf.h (fun p hp => List.all_eq_true.1 g.held p hp) g.kinds
  have hba := isBarredM_ev (m := m) hf (lo + k)
  have w1 : IntKind.wrap .i64 (lo + k) = lo + k := wrap_small (by omega) (by omega)
  have w2 : IntKind.wrap .i64 (k + 1) = k + 1 := wrap_small (by omega) (by omega)
  unfold dayB
  simp only [Town.cs, List.cons_append, List.nil_append] at hcv hba h5
  apply loopC_norm
  cases h1 : covB t t.held (lo + k) with
  | false => simp [A91_l0, A91_r2, A91_r3, A91_r4, A91_r5, A91_r6, Town.cs, hk2, h5, h6, h7, w1, w2, hcv, h1]
  | true => cases h2 : barredB t (lo + k) <;> simp [A91_l0, A91_r2, A91_r3, A91_r4, A91_r5, A91_r6, Town.cs, hk2, h5, h6, h7, w1, w2, hcv, hba, h1, h2, hy]
theorem stD_get (B : List AObj) (outs : List Int) : (stD B t lo hi outs).heap[B.length + 5]? = some (.cells 0 none (t.cs ++ [.map (B.length + 2)])) ∧ (stD B t lo hi outs).heap[B.length + 6]? = some (.cells 0 none [.int .i64 lo, .int .i64 hi]) ∧ (stD B t lo hi outs).heap[B.length + 7]? = some (.cells 0 none [lstA t.hh Pp.av t.held]) := by
  simp [stD, get_app, hp9]
theorem days_loop (hf : t.Fits) (g : Good t) (hlo : 0 ≤ lo) (hhi : hi ≤ 999) (B : List AObj) : ∀ (r : Nat) (k : Int) (outs : List Int), k + r = hi - lo + 1 → 0 ≤ k → (outs.length : Int) ≤ k →
    loopC E0 [0, 1, 2, 3, 5, 15, 16] [] A91_l0 { ts := [(0, .v (.yld (B.length + 8))), (1, .v (.ref (B.length + 5) 0 0)), (2, .v (.ref (B.length + 6) 0 0)), (3, .v (.ref (B.length + 7) 0 0)), (5, .v (.fn 73 [.agg (t.cs ++ [.map (B.length + 2)])] [])), (15, .v (.int .i64 (hi - lo + 1))), (16, .v (.int .i64 k))], bs := [] } (stD B t lo hi outs)
    = some (.exit 0, { ts := [(0, .v (.yld (B.length + 8))), (1, .v (.ref (B.length + 5) 0 0)), (2, .v (.ref (B.length + 6) 0 0)), (3, .v (.ref (B.length + 7) 0 0)), (5, .v (.fn 73 [.agg (t.cs ++ [.map (B.length + 2)])] [])), (15, .v (.int .i64 (hi - lo + 1))), (16, .v (.int .i64 (hi - lo + 1))), (17, .v (.bool false))], bs := [] }, stD B t lo hi (outs ++ daysL t r (lo + k)))
  | 0, k, outs, hr, hk, ho => by
    have e : k = hi - lo + 1 := by omega
    subst e
    rw [loopC_eq]
    simp [A91_l0, A91_r2, daysL]
  | r + 1, k, outs, hr, hk, ho => by
    obtain ⟨h5, h6, h7⟩ := stD_get (t := t) (lo := lo) (hi := hi) B outs
    have hy := yield_ev (t := t) (lo := lo) (hi := hi) B (lo + k) outs (by omega)
    rw [days_step (cnt := hi - lo + 1) hf g hk (by omega) rfl hlo hhi h5 h6 h7 hy]
    simp only [daysL]
    by_cases hd : dayB t (lo + k) = true
    · rw [if_pos hd, if_pos hd, days_loop hf g hlo hhi B r (k + 1) (outs ++ [lo + k]) (by omega) (by omega) (by simp; omega)]
      simp [Int.add_assoc]
    · rw [if_neg hd, if_neg hd, days_loop hf g hlo hhi B r (k + 1) outs (by omega) (by omega) (by omega)]
      simp [Int.add_assoc]
end
end Go.Proofs.Tryd

namespace Go.Proofs.Tryd
open Go Go.Proofs.AM

attribute [local simp] opsT trOf accOf boxesOf AOp.uses AO.uses objOf heffOf boxOf allPairs befores pairsFrom pairOk ordB hits AX.slot slotsL slotsP AX.slotO Nat.testBit
section
variable {t : Town} {lo hi : Int}
theorem days68_ev {m : Nat} (st : St) : callE E0 false (.fn 68 [] []) [.agg (t.cs ++ [.map m]), .agg [.int .i64 lo, .int .i64 hi], lstA t.hh Pp.av t.held] st
    = some (.fn 91 [] [.ref st.heap.length 0 0, .ref (st.heap.length + 1) 0 0, .ref (st.heap.length + 2) 0 0], { heap := st.heap ++ [.cells 0 none (t.cs ++ [.map m]), .cells 0 none [.int .i64 lo, .int .i64 hi], .cells 0 none [lstA t.hh Pp.av t.held]], low := min st.low st.heap.length }) := by
  rw [callE0 (by decide) (af := A68) rfl rfl]
  simp [A68, A68_r0, A68_r1, finish, Town.cs, alloc]
theorem days1_ev (hf : t.Fits) (g : Good t) (h1 : span lo hi 0 999 = true) (B : List AObj) : callE E0 false (.fn 91 [.yld (B.length + 8)] [.ref (B.length + 5) 0 0, .ref (B.length + 6) 0 0, .ref (B.length + 7) 0 0]) [] { heap := B ++ hp9 B.length t lo hi (.lst (some true) true 0 []), low := B.length }
    = some (.tup [], { heap := B ++ (hp9 B.length t lo hi (outV B.length (daysL t (hi - lo + 1).toNat lo)) ++ dat (daysL t (hi - lo + 1).toNat lo)), low := B.length }) := by
  rw [callE0 (by decide) (af := A91) rfl rfl]
  simp only [span, Bool.and_eq_true, decide_eq_true_eq] at h1
  have hl := days_loop hf g h1.1.1 h1.2 B (hi - lo + 1).toNat 0 [] (by omega) (by omega) (by simp)
  have w1 : IntKind.wrap .i64 (hi - lo) = hi - lo := wrap_small (by omega) (by omega)
  have w2 : IntKind.wrap .i64 (hi - lo + 1) = hi - lo + 1 := wrap_small (by omega) (by omega)
  have e0 : ({ heap := B ++ hp9 B.length t lo hi (.lst (some true) true 0 []), low := (B ++ hp9 B.length t lo hi (.lst (some true) true 0 [])).length } : St) = stD B t lo hi [] := by simp [stD, outV, dat, lowD, hp9]
  obtain ⟨g5, g6, g7⟩ := stD_get (t := t) (lo := lo) (hi := hi) B []
  simp only [Int.add_zero, List.nil_append] at hl
  generalize daysL t (hi - lo + 1).toNat lo = outs at hl
  simp only [e0]
  have h9 : (B ++ hp9 B.length t lo hi (.lst (some true) true 0 [])).length = B.length + 9 := by simp [hp9]
  simp only [Town.cs, List.cons_append, List.nil_append] at hl g5
  cases outs with
  | nil =>
    simp [A91, A91_r0, A91_r1, g5, g6, w1, w2, hl, Town.cs]
    have ht : List.take (B.length + 9) (B ++ hp9 B.length t lo hi (.lst (some true) true 0 [])) = B ++ hp9 B.length t lo hi (.lst (some true) true 0 []) := List.take_of_length_le (Nat.le_of_eq h9)
    simp [finish, stD, outV, dat, lowD, h9, ht]
  | cons o os =>
    simp [A91, A91_r0, A91_r1, g5, g6, w1, w2, hl, Town.cs]
    simp [finish, stD, outV, dat, lowD, h9]
theorem slc3 (id ver n : Nat) : slcA 1 (.sl 1 id ver 0 (n + 1) none) none (some ((n : Int) + 1)) (some ((n : Int) + 1)) = some (.sl 1 id ver 0 (n + 1) (some (n + 1))) := by
  have h : ¬ ((n : Int) + 1 = 0) := by omega
  have h2 : ((n : Int) + 1).toNat = n + 1 := by omega
  have h3 : (0 : Int) ≤ n + 1 := by omega
  simp [slcA, h, h2, h3]
theorem slc0 : slcA 1 (.lst (some true) true 0 []) none (some 0) (some 0) = some (.lst (some true) true 0 []) := by simp [slcA]
theorem days_bad (hf : t.Fits) (hc : checkB t = false) (st : St) : callE E0 false (.fn 18 [] []) [.agg t.cs, .agg [.int .i64 lo, .int .i64 hi]] st = some (.tup [.lst (some true) true 0 [], .int .i64 50], st) := by
  rw [callE0 (by decide) (af := A18) rfl rfl]
  have ha := asked_bad hf hc
  simp only [Town.cs, zero7] at ha
  simp [A18, A18_r0, A18_r1, A18_r2, A18_r3, regionA, finish, Town.cs, ha, alloc]
theorem days_no (hf : t.Fits) (hc : checkB t = true) (h : span lo hi 0 999 = false) (st : St) : callE E0 false (.fn 18 [] []) [.agg t.cs, .agg [.int .i64 lo, .int .i64 hi]] st = some (.tup [.lst (some true) true 0 [], .int .i64 51], st) := by
  rw [callE0 (by decide) (af := A18) rfl rfl]
  have ha := asked_no hf hc
  simp only [Town.cs, zero7] at ha
  simp [A18, A18_r0, A18_r1, A18_r2, A18_r3, regionA, finish, Town.cs, ha, h, alloc]
def daysV (l : List Int) : AV := lstA ⟨some l.isEmpty, true⟩ In.av l
theorem days_ok (hf : t.Fits) (hc : checkB t = true) (h : span lo hi 0 999 = true) (st : St) : callE E0 false (.fn 18 [] []) [.agg t.cs, .agg [.int .i64 lo, .int .i64 hi]] st = some (.tup [daysV (daysL t (hi - lo + 1).toNat lo), .int .i64 0], st) := by
  rw [callE0 (by decide) (af := A18) rfl rfl]
  have ha := asked_ok hf hc
  have h68 := fun m st => days68_ev (t := t) (lo := lo) (hi := hi) (m := m) st
  have h1 := days1_ev hf (good_of hc) h st.heap
  generalize daysL t (hi - lo + 1).toNat lo = outs at h1
  simp only [Town.cs, List.cons_append, List.nil_append, hp9] at ha h68 h1
  cases outs with
  | nil =>
    simp [A18, A18_r0, A18_r1, A18_r2, A18_r3, A18_r4, A18_r5, A18_r8, regionA, finish, Town.cs, ha, h, h68, h1, alloc, mods, get_app, set_app, outV, dat, slc0, daysV]
    rfl
  | cons o os =>
    have e1 : (row In.av (o :: os)).length = os.length + 1 := by rw [row_len In.len]; simp
    have e2 : ∀ (hp : List AObj) (s d : Nat) (refs : Bool), mapS (AM.settle hp s refs d) (row In.av (o :: os)) = some (row In.av (o :: os), []) := fun hp s d refs => mapS_plain (fun c hc => plainA.scal (row_scal In.sc _ c hc) d)
    have e4 : ¬ (st.heap.length + 9 < st.heap.length) := by omega
    have e3 : (row In.av (o :: os)).take (os.length + 1) = row In.av (o :: os) := List.take_of_length_le (Nat.le_of_eq e1)
    simp [A18, A18_r0, A18_r1, A18_r2, A18_r3, A18_r4, A18_r5, A18_r8, regionA, finish, Town.cs, ha, h, h68, h1, alloc, mods, get_app, set_app, outV, dat, slc3, daysV, e1, e2, e3, e4]
    rfl
end
end Go.Proofs.Tryd

namespace Go.Proofs.Tryd
open Go Go.Proofs.AM

attribute [local simp] opsT trOf accOf boxesOf AOp.uses AO.uses objOf heffOf boxOf allPairs befores pairsFrom pairOk ordB hits AX.slot slotsL slotsP AX.slotO Nat.testBit
section
variable {t : Town}
theorem isPaperR_ev (hf : t.Fits) (p : Pp) (st : St) : callE E0 false (.fn 89 [] []) [.agg t.cs, .agg p.av] st = some (.bool (paperB t p), st) := by
  rw [callE0 (by decide) (af := A89) rfl rfl]
  have hw : IntKind.wrap .i64 ((t.kinds.length : Int) - 1) = t.kinds.length - 1 := wrap_small (by omega) (by have := hf.k; omega)
  unfold paperB
  cases h : amid p.kind 0 (t.kinds.length - 1) <;> simp [A89, A89_r0, A89_r1, finish, Town.cs, Pp.av, hw, h]
theorem holds_ev (a b d : Int) (st : St) : callE E0 false (.fn 87 [] []) [.agg [.int .i64 a, .int .i64 b], .int .i64 d] st = some (.bool (amid d a b), st) := by
  rw [callE0 (by decide) (af := A87) rfl rfl]
  simp [A87, A87_r0, A87_r1, finish]
theorem last_ev {p : Pp} (hp : paperB t p = true) (hk : t.kinds.all kdB = true) (st : St) : callE E0 false (.fn 86 [] []) [.agg t.cs, .agg p.av] st = some (.int .i64 (endB t p), st) := by
  rw [callE0 (by decide) (af := A86) rfl rfl]
  obtain ⟨k, e1, hkd, e2, h0, h1, h2, h3⟩ := kd_of hp hk
  simp only [kdB, Bool.and_eq_true, amid_iff] at hkd
  have hw1 : IntKind.wrap .i64 (p.first + k.days) = p.first + k.days := wrap_small (by omega) (by omega)
  have hw2 : IntKind.wrap .i64 (p.first + k.days - 1) = p.first + k.days - 1 := wrap_small (by omega) (by omega)
  have hd := row_get Kd.len e1
  simp [A86, A86_r0, A86_r1, regionA_st s86_r1, finish, Town.cs, Pp.av, h0, h1, hd, Kd.av, hw1, hw2, endB, e2]
theorem apart_ev {p q : Pp} (hp : paperB t p = true) (hq : paperB t q = true) (hk : t.kinds.all kdB = true) (hpa : 0 ≤ t.pause) (st : St) : callE E0 false (.fn 90 [] []) [.agg t.cs, .agg p.av, .agg q.av] st = some (.bool (goesB t p q), st) := by
  rw [callE0 (by decide) (af := A90) rfl rfl]
  have hep := last_ev hp hk
  have heq := last_ev hq hk
  obtain ⟨a1, a2, a3, a4⟩ := end_range hp hk
  obtain ⟨b1, b2, b3, b4⟩ := end_range hq hk
  have w1 : IntKind.wrap .i64 (p.first - endB t q) = p.first - endB t q := wrap_small (by omega) (by omega)
  have w2 : IntKind.wrap .i64 (p.first - endB t q - 1) = p.first - endB t q - 1 := wrap_small (by omega) (by omega)
  have w3 : IntKind.wrap .i64 (q.first - endB t p) = q.first - endB t p := wrap_small (by omega) (by omega)
  have w4 : IntKind.wrap .i64 (q.first - endB t p - 1) = q.first - endB t p - 1 := wrap_small (by omega) (by omega)
  simp only [Town.cs, Pp.av] at hep heq
  by_cases h1 : t.pause ≤ q.first - endB t p - 1
  · have e : goesB t p q = true := by
      unfold goesB
      rw [if_neg (by omega)]
      simpa using h1
    simp [A90, A90_r0, A90_r1, regionA_st s90_r1, finish, Town.cs, Pp.av, hep, heq, w1, w2, w3, w4, h1, e]
  · have e : goesB t p q = decide (t.pause ≤ p.first - endB t q - 1) := by
      unfold goesB
      by_cases h : q.first < p.first
      · rw [if_pos h]
      · rw [if_neg h]
        apply decide_eq_decide.2
        constructor <;> intro h2 <;> omega
    simp [A90, A90_r0, A90_r1, regionA_st s90_r1, finish, Town.cs, Pp.av, hep, heq, w1, w2, w3, w4, h1, e]
theorem arePapers_loop (hf : t.Fits) {h : Hd} {l : List Pp} (hl : l.length ≤ 9223372036854775807) (st : St) (hlo : st.low ≤ st.heap.length) : ∀ (b a : List Pp) (k : Int) (ok : Bool), k = a.length → l = a ++ b →
    loopC E0 [1, 2, 5, 6] [2] A66_l0 { ts := [(1, .v (lstA h Pp.av l)), (2, .loc 2 0), (5, .v (.bool ok)), (6, .v (.int .i64 k))], bs := [(2, t.cs)] } st
    = some (.exit 0, { ts := [(1, .v (lstA h Pp.av l)), (2, .loc 2 0), (5, .v (.bool (ok && b.all (paperB t)))), (6, .v (.int .i64 l.length)), (10, .v (.bool false))], bs := [(2, t.cs)] }, st)
  | [], a, k, ok, hk, e => by
    simp only [List.append_nil] at e
    subst e hk
    rw [loopC_eq]
    simp [A66_l0, A66_r3]
  | x :: b, a, k, ok, hk, e => by
    subst hk
    have hlt : a.length < l.length := by rw [e]; simp
    have hd : (row Pp.av l).drop (a.length * 2) = Pp.av x ++ row Pp.av b := by rw [e, row_drop Pp.len]; rfl
    have hw : IntKind.wrap .i64 ((a.length : Int) + 1) = (a.length : Int) + 1 := wrap_small (by omega) (by omega)
    have hm : min st.low st.heap.length = st.low := Nat.min_eq_left hlo
    have hp := isPaperR_ev hf x
    simp only [Town.cs, Pp.av] at hp
    have ih := arePapers_loop hf (h := h) hl st hlo b (a ++ [x]) _ (ok && paperB t x) rfl (by simp [e])
    rw [loopC_norm (fr' := { ts := [(1, .v (lstA h Pp.av l)), (2, .loc 2 0), (5, .v (.bool (ok && paperB t x))), (6, .v (.int .i64 ((a ++ [x]).length : Int)))], bs := [(2, t.cs)] }) (st' := st) (by
      cases ok <;> simp [A66_l0, A66_r3, A66_r4, A66_r5, regionA_st s66_r5, hm, hlt, hd, hw, Pp.av, Town.cs, hp]), ih]
    simp [Bool.and_assoc]
theorem arePapers_ev (hf : t.Fits) {h : Hd} {l : List Pp} (hl : l.length ≤ 9223372036854775807) (st : St) : callE E0 false (.fn 66 [] []) [.agg t.cs, lstA h Pp.av l] st = some (.bool (l.all (paperB t)), st) := by
  rw [callE0 (by decide) (af := A66) rfl rfl]
  have ho := arePapers_loop hf (h := h) hl { st with low := st.heap.length } (Nat.le_refl _) l [] 0 true rfl rfl
  simp only [Town.cs] at ho
  simp [A66, A66_r0, A66_r1, A66_r2, A66_r6, finish, Town.cs, ho]
theorem togR_in (hk : t.kinds.all kdB = true) (hpa : 0 ≤ t.pause) {h : Hd} {l : List Pp} {p : Pp} {n : Int} {pre post : List Pp} (hl : l.length ≤ 9223372036854775807) (hp : paperB t p = true) (hel : l = pre ++ p :: post) (hn : n = pre.length) (st : St) (hlo : st.low ≤ st.heap.length) : ∀ (b a : List Pp) (k : Int), k = a.length → pre = a ++ b → (∀ q ∈ b, paperB t q = true) →
    loopC E0 [1, 2, 5, 6] [2] A67_l0 { ts := [(1, .v (lstA h Pp.av l)), (2, .loc 2 0), (5, .v (.int .i64 n)), (6, .v (.int .i64 k))], bs := [(2, t.cs)] } st
    = if b.all (fun q => goesB t p q) = true then some (.exit 2, { ts := [(1, .v (lstA h Pp.av l)), (2, .loc 2 0), (5, .v (.int .i64 n)), (6, .v (.int .i64 n)), (15, .v (.bool false))], bs := [(2, t.cs)] }, st)
      else some (.ret, { ts := [(4, .v (.bool false))], bs := [] }, st)
  | [], a, k, hk0, e, _ => by
    simp only [List.append_nil] at e
    subst e hk0 hn
    rw [loopC_eq]
    simp [A67_l0, A67_r5]
  | q :: b, a, k, hk0, e, hall => by
    subst hk0 hn
    have hq := hall q (by simp)
    have hg := apart_ev hp hq hk hpa
    simp only [Town.cs, Pp.av] at hg
    have hlt : a.length < pre.length := by rw [e]; simp
    have hlt2 : pre.length < l.length := by rw [hel]; simp
    have hlt3 : a.length < l.length := by omega
    have hd : (row Pp.av l).drop (a.length * 2) = Pp.av q ++ row Pp.av (b ++ p :: post) := by
      have : l = a ++ (q :: (b ++ p :: post)) := by rw [hel, e]; simp
      rw [this, row_drop Pp.len]; rfl
    have hd2 : (row Pp.av l).drop (pre.length * 2) = Pp.av p ++ row Pp.av post := by rw [hel, row_drop Pp.len]; rfl
    have hw : IntKind.wrap .i64 ((a.length : Int) + 1) = (a.length : Int) + 1 := wrap_small (by omega) (by omega)
    have hm : min st.low st.heap.length = st.low := Nat.min_eq_left hlo
    have ih := togR_in hk hpa (h := h) hl hp hel rfl st hlo b (a ++ [q]) _ rfl (by simp [e]) (fun x hx => hall x (by simp [hx]))
    by_cases hgo : goesB t p q = true
    · rw [loopC_norm (fr' := { ts := [(1, .v (lstA h Pp.av l)), (2, .loc 2 0), (5, .v (.int .i64 pre.length)), (6, .v (.int .i64 ((a ++ [q]).length : Int)))], bs := [(2, t.cs)] }) (st' := st) (by
          simp [A67_l0, A67_r5, A67_r6, A67_r7, A67_r8, regionA_st s67_r7, hm, hlt, hlt2, hlt3, hd, hd2, hw, Pp.av, Town.cs, hg, hgo]), ih]
      simp [hgo]
    · rw [loopC_eq]
      simp [A67_l0, A67_r5, A67_r6, A67_r7, A67_r8, regionA_st s67_r7, hm, hlt, hlt2, hlt3, hd, hd2, hw, Pp.av, Town.cs, hg, hgo]
theorem togR_out (hk : t.kinds.all kdB = true) (hpa : 0 ≤ t.pause) {h : Hd} {l : List Pp} (hl : l.length ≤ 9223372036854775807) (st : St) (hlo : st.low ≤ st.heap.length) : ∀ (b a : List Pp) (k : Int), k = a.length → l = a ++ b → (∀ q ∈ l, paperB t q = true) →
    loopC E0 [1, 2, 5] [2] A67_l1 { ts := [(1, .v (lstA h Pp.av l)), (2, .loc 2 0), (5, .v (.int .i64 k))], bs := [(2, t.cs)] } st
    = if togB t a b = true then some (.exit 0, { ts := [(1, .v (lstA h Pp.av l)), (2, .loc 2 0), (5, .v (.int .i64 l.length)), (10, .v (.bool false))], bs := [(2, t.cs)] }, st)
      else some (.ret, { ts := [(4, .v (.bool false))], bs := [] }, st)
  | [], a, k, hk0, e, _ => by
    simp only [List.append_nil] at e
    subst e hk0
    rw [loopC_eq]
    simp [A67_l1, A67_r2, togB]
  | q :: b, a, k, hk0, e, hall => by
    subst hk0
    have hq := hall q (by simp [e])
    have hlt : a.length < l.length := by rw [e]; simp
    have hw : IntKind.wrap .i64 ((a.length : Int) + 1) = (a.length : Int) + 1 := wrap_small (by omega) (by omega)
    have hin := togR_in (h := h) hk hpa hl hq e (n := a.length) rfl st hlo a [] 0 rfl rfl (fun x hx => hall x (by simp [e, hx]))
    have ih := togR_out hk hpa (h := h) hl st hlo b (a ++ [q]) _ rfl (by simp [e]) hall
    simp only [Town.cs] at hin
    by_cases hgo : a.all (fun x => goesB t q x) = true
    · rw [if_pos hgo] at hin
      rw [loopC_norm (fr' := { ts := [(1, .v (lstA h Pp.av l)), (2, .loc 2 0), (5, .v (.int .i64 ((a ++ [q]).length : Int)))], bs := [(2, t.cs)] }) (st' := st) (by
          simp [A67_l1, A67_r2, A67_r3, A67_r4, hlt, hw, Town.cs, hin]), ih]
      simp only [togB, hgo, Bool.true_and]
    · rw [if_neg hgo] at hin
      rw [loopC_eq]
      simp [A67_l1, A67_r2, A67_r3, A67_r4, hlt, hw, Town.cs, hin, togB, hgo]
theorem togetherR_ev (hk : t.kinds.all kdB = true) (hpa : 0 ≤ t.pause) {h : Hd} {l : List Pp} (hl : l.length ≤ 9223372036854775807) (hall : ∀ q ∈ l, paperB t q = true) (st : St) : callE E0 false (.fn 67 [] []) [.agg t.cs, lstA h Pp.av l] st = some (.bool (togB t [] l), st) := by
  rw [callE0 (by decide) (af := A67) rfl rfl]
  have ho := togR_out hk hpa (h := h) hl { st with low := st.heap.length } (Nat.le_refl _) l [] 0 rfl rfl hall
  simp only [Town.cs] at ho
  cases hb : togB t [] l with
  | true =>
    rw [if_pos hb] at ho
    simp [A67, A67_r0, A67_r1, A67_r9, finish, Town.cs, ho]
  | false =>
    rw [if_neg (by simp [hb])] at ho
    simp [A67, A67_r0, A67_r1, A67_r9, finish, Town.cs, ho]
end
end Go.Proofs.Tryd

namespace Go.Proofs.Tryd
open Go Go.Proofs.AM

section
variable {t : Town}
theorem checkR_l0 (hf : t.Fits) (st : St) : ∀ (b a : List Kd) (k : Int) (ok : Bool), k = a.length → t.kinds = a ++ b →
    ∃ k', loopC E0 [1, 3, 4] [1] A17_l0 { ts := [(1, .loc 1 0), (3, .v (.bool ok)), (4, .v (.int .i64 k))], bs := [(1, t.cs)] } st
    = some (.exit 0, { ts := [(1, .loc 1 0), (3, .v (.bool (ok && b.all kdB))), (4, .v (.int .i64 k')), (46, .v (.bool false))], bs := [(1, t.cs)] }, st)
  | _, a, k, false, hk, e => ⟨k, by
    rw [loopC_eq]
    simp [A17_l0, A17_r3, Town.cs]⟩
  | [], a, k, true, hk, e => ⟨k, by
    simp only [List.append_nil] at e
    subst hk
    rw [loopC_eq]
    simp [A17_l0, A17_r3, Town.cs, e]⟩
  | x :: b, a, k, true, hk, e => by
    subst hk
    have hlt : a.length < t.kinds.length := by rw [e]; simp
    have hd : (row Kd.av t.kinds).drop (a.length * 3) = Kd.av x ++ row Kd.av b := by rw [e, row_drop Kd.len]; rfl
    have hw : IntKind.wrap .i64 ((a.length : Int) + 1) = (a.length : Int) + 1 := wrap_small (by omega) (by have := hf.k; omega)
    obtain ⟨k', ih⟩ := checkR_l0 hf st b (a ++ [x]) _ (kdB x) rfl (by simp [e])
    refine ⟨k', ?_⟩
    rw [loopC_norm (fr' := { ts := [(1, .loc 1 0), (3, .v (.bool (kdB x))), (4, .v (.int .i64 ((a ++ [x]).length : Int)))], bs := [(1, t.cs)] }) (st' := st) (by
      unfold kdB
      cases h1 : amid x.days 1 30 with
      | false => simp [A17_l0, A17_r3, A17_r4, A17_r5, A17_r6, hlt, hd, hw, Kd.av, Town.cs, h1]
      | true => cases h2 : amid x.fee 0 1000 <;> simp [A17_l0, A17_r3, A17_r4, A17_r5, A17_r6, hlt, hd, hw, Kd.av, Town.cs, h1, h2]), ih]
    simp
theorem checkR_l1 (hf : t.Fits) (st : St) : ∀ (b a : List Sp) (k : Int) (ok : Bool) (fr : Int), k = a.length → t.barred = a ++ b → (ok = true → 0 ≤ fr ∧ fr ≤ 1000) →
    ∃ k' fr', loopC E0 [1, 3, 6, 7] [1] A17_l1 { ts := [(1, .loc 1 0), (3, .v (.bool ok)), (6, .v (.int .i64 fr)), (7, .v (.int .i64 k))], bs := [(1, t.cs)] } st
    = some (.exit 2, { ts := [(1, .loc 1 0), (3, .v (.bool (ok && barB (fr - 1) b))), (6, .v (.int .i64 fr')), (7, .v (.int .i64 k')), (74, .v (.bool false))], bs := [(1, t.cs)] }, st)
  | _, a, k, false, fr, hk, e, hr => ⟨k, fr, by
    rw [loopC_eq]
    simp [A17_l1, A17_r9, Town.cs]⟩
  | [], a, k, true, fr, hk, e, hr => ⟨k, fr, by
    simp only [List.append_nil] at e
    subst hk
    rw [loopC_eq]
    simp [A17_l1, A17_r9, Town.cs, e, barB]⟩
  | x :: b, a, k, true, fr, hk, e, hr => by
    subst hk
    have hlt : a.length < t.barred.length := by rw [e]; simp
    have hd : (row Sp.av t.barred).drop (a.length * 2) = Sp.av x ++ row Sp.av b := by rw [e, row_drop Sp.len]; rfl
    have hw : IntKind.wrap .i64 ((a.length : Int) + 1) = (a.length : Int) + 1 := wrap_small (by omega) (by have := hf.b; omega)
    have hr := hr rfl
    obtain ⟨k', fr', ih⟩ := checkR_l1 hf st b (a ++ [x]) _ (span x.low x.high fr 999) (IntKind.wrap .i64 (x.high + 1)) rfl (by simp [e]) (fun ho => by
      simp only [Bool.and_eq_true, span, decide_eq_true_eq] at ho
      rw [wrap_small (by omega) (by omega)]
      omega)
    refine ⟨k', fr', ?_⟩
    rw [loopC_norm (fr' := { ts := [(1, .loc 1 0), (3, .v (.bool (span x.low x.high fr 999))), (6, .v (.int .i64 (IntKind.wrap .i64 (x.high + 1)))), (7, .v (.int .i64 ((a ++ [x]).length : Int)))], bs := [(1, t.cs)] }) (st' := st) (by
      simp [A17_l1, A17_r9, A17_r10, A17_r11, A17_r12, hlt, hd, hw, Sp.av, Town.cs]), ih]
    have e1 : fr - 1 + 1 = fr := by omega
    simp only [barB, Bool.true_and, e1]
    cases hs : span x.low x.high fr 999 with
    | false => simp
    | true =>
      simp only [Bool.and_eq_true, span, decide_eq_true_eq] at hs
      rw [wrap_small (by omega) (by omega)]
      simp
theorem checkR_r1 (st : St) : codeE E0 (.region A17_r1 none [1, 3] [1]) { ts := [(1, .loc 1 0)], bs := [(1, t.cs)] } st = some (.norm, { ts := [(1, .loc 1 0), (3, .v (.bool (headB t)))], bs := [(1, t.cs)] }, st) := by
  unfold headB
  cases h1 : amid t.kinds.length 1 4 with
  | false => simp [A17_r1, Town.cs, h1]
  | true =>
  cases h2 : amid t.pause 0 20 with
  | false => simp [A17_r1, Town.cs, h1, h2]
  | true =>
  cases h3 : decide (t.barred.length ≤ 4) with
  | false =>
    have h3' : ¬ (t.barred.length : Int) ≤ 4 := by simp at h3; omega
    simp [A17_r1, Town.cs, h1, h2, h3']
  | true =>
  have h3' : (t.barred.length : Int) ≤ 4 := by simp at h3; omega
  have h6 : decide ((t.held.length : Int) ≤ 4) = decide (t.held.length ≤ 4) := by apply decide_eq_decide.2; omega
  cases h4 : amid t.forb 0 65535 with
  | false => simp [A17_r1, Town.cs, h1, h2, h3', h4]
  | true => cases h5 : amid t.close 0 1439 <;> simp [A17_r1, Town.cs, h1, h2, h3', h4, h5, h6]
theorem checkR_ev (hf : t.Fits) (st : St) : callE E0 false (.fn 17 [] []) [.agg t.cs] st = some (.int .i64 (if checkB t = true then 0 else 50), st) := by
  rw [callE0 (by decide) (af := A17) rfl rfl]
  have r1 := checkR_r1 (t := t) { st with low := st.heap.length }
  obtain ⟨k1, l0⟩ := checkR_l0 hf { st with low := st.heap.length } t.kinds [] 0 (headB t) rfl rfl
  obtain ⟨k2, fr2, l1⟩ := checkR_l1 hf { st with low := st.heap.length } t.barred [] 0 (headB t && t.kinds.all kdB) 0 rfl rfl (by omega)
  have hp := arePapers_ev hf (h := t.hh) hf.h
  rw [show (0 : Int) - 1 = -1 from rfl] at l1
  simp only [Town.cs] at r1 l0 l1 hp
  obtain ⟨f, q1, q2, q3⟩ := region_inv r1
  simp only at q2 q3
  unfold checkB soundB
  cases hs : (headB t && t.kinds.all kdB && barB (-1) t.barred) with
  | false =>
    rw [hs] at l1
    simp [A17, A17_r0, A17_r2, A17_r7, A17_r8, A17_r13, A17_r14, A17_r15, finish, Town.cs, q1, ↓q2, ↓q3, l0, l1]
  | true =>
    rw [hs] at l1
    cases hal : t.held.all (paperB t) with
    | false => simp [A17, A17_r0, A17_r2, A17_r7, A17_r8, A17_r13, A17_r14, A17_r15, finish, Town.cs, q1, ↓q2, ↓q3, l0, l1, hp, hal]
    | true =>
      simp only [Bool.and_eq_true] at hs
      have hpa : 0 ≤ t.pause := by
        have := hs.1.1
        simp only [headB, Bool.and_eq_true] at this
        exact (amid_iff.1 this.1.1.1.1.2).1
      have ht := togetherR_ev (h := t.hh) hs.1.2 hpa hf.h (fun q hq => List.all_eq_true.1 hal q hq)
      simp only [Town.cs] at ht
      cases htb : togB t [] t.held <;> simp [A17, A17_r0, A17_r2, A17_r7, A17_r8, A17_r13, A17_r14, A17_r15, finish, Town.cs, q1, ↓q2, ↓q3, l0, l1, hp, hal, ht, htb]
theorem askedR_ev (hf : t.Fits) (b : Bool) (st : St) : callE E0 false (.fn 56 [] []) [.agg t.cs, .bool b] st = some (.int .i64 (if checkB t = true then (if b = true then 0 else 51) else 50), st) := by
  rw [callE0 (by decide) (af := A56) rfl rfl]
  have hch := checkR_ev hf
  simp only [Town.cs] at hch
  cases hc : checkB t <;> cases b <;> simp only [hc] at hch <;> simp [A56, A56_r0, A56_r1, A56_r2, A56_r3, A56_r4, A56_r5, A56_r6, finish, Town.cs, hch]
end
end Go.Proofs.Tryd

namespace Go.Proofs.Tryd
open Go Go.Proofs.AM

attribute [local simp] opsT trOf accOf boxesOf AOp.uses AO.uses objOf heffOf boxOf allPairs befores pairsFrom pairOk ordB hits AX.slot slotsL slotsP AX.slotO Nat.testBit
section
variable {t : Town}
theorem covered_loop (hk : t.kinds.all kdB = true) {h : Hd} {l : List Pp} {d : Int} (hl : l.length ≤ 9223372036854775807) (st : St) (hlo : st.low ≤ st.heap.length) : ∀ (b a : List Pp) (k : Int), k = a.length → l = a ++ b → (∀ q ∈ b, paperB t q = true) →
    loopC E0 [1, 2, 3, 7] [3] A59_l0 { ts := [(1, .v (lstA h Pp.av l)), (2, .v (.int .i64 d)), (3, .loc 3 0), (7, .v (.int .i64 k))], bs := [(3, t.cs)] } st
    = if covB t b d = true then some (.ret, { ts := [(6, .v (.bool true))], bs := [] }, st)
      else some (.exit 0, { ts := [(1, .v (lstA h Pp.av l)), (2, .v (.int .i64 d)), (3, .loc 3 0), (7, .v (.int .i64 l.length)), (11, .v (.bool false))], bs := [(3, t.cs)] }, st)
  | [], a, k, hk0, e, _ => by
    simp only [List.append_nil] at e
    subst e hk0
    rw [loopC_eq]
    simp [A59_l0, A59_r2, covB]
  | x :: b, a, k, hk0, e, hall => by
    subst hk0
    have hx := hall x (by simp)
    have hlt : a.length < l.length := by rw [e]; simp
    have hd : (row Pp.av l).drop (a.length * 2) = Pp.av x ++ row Pp.av b := by rw [e, row_drop Pp.len]; rfl
    have hw : IntKind.wrap .i64 ((a.length : Int) + 1) = (a.length : Int) + 1 := wrap_small (by omega) (by omega)
    have hm : min st.low st.heap.length = st.low := Nat.min_eq_left hlo
    have hla := last_ev hx hk
    simp only [Town.cs, Pp.av] at hla
    have ih := covered_loop hk (h := h) (d := d) hl st hlo b (a ++ [x]) _ rfl (by simp [e]) (fun q hq => hall q (by simp [hq]))
    cases hc : amid d x.first (endB t x) with
    | true =>
      rw [loopC_eq]
      simp [A59_l0, A59_r2, A59_r3, A59_r4, A59_r5, regionA, hm, hlt, hd, hw, Pp.av, Town.cs, hla, hc, covB]
    | false =>
      rw [loopC_norm (fr' := { ts := [(1, .v (lstA h Pp.av l)), (2, .v (.int .i64 d)), (3, .loc 3 0), (7, .v (.int .i64 ((a ++ [x]).length : Int)))], bs := [(3, t.cs)] }) (st' := st) (by
        simp [A59_l0, A59_r2, A59_r3, A59_r4, A59_r5, regionA, hm, hlt, hd, hw, Pp.av, Town.cs, hla, hc]), ih]
      simp [covB, hc]
theorem covered_ev (hk : t.kinds.all kdB = true) {h : Hd} {l : List Pp} (d : Int) (hl : l.length ≤ 9223372036854775807) (hall : ∀ q ∈ l, paperB t q = true) (st : St) : callE E0 false (.fn 59 [] []) [.agg t.cs, lstA h Pp.av l, .int .i64 d] st = some (.bool (covB t l d), st) := by
  rw [callE0 (by decide) (af := A59) rfl rfl]
  have ho := covered_loop hk (h := h) (d := d) hl { st with low := st.heap.length } (Nat.le_refl _) l [] 0 rfl rfl hall
  simp only [Town.cs] at ho
  cases hb : covB t l d with
  | true =>
    rw [if_pos hb] at ho
    simp [A59, A59_r0, A59_r1, A59_r6, finish, Town.cs, ho]
  | false =>
    rw [if_neg (by simp [hb])] at ho
    simp [A59, A59_r0, A59_r1, A59_r6, finish, Town.cs, ho]
theorem barredR_loop (hf : t.Fits) {d : Int} (st : St) : ∀ (b a : List Sp) (k : Int), k = a.length → t.barred = a ++ b →
    loopC E0 [1, 2, 5] [2] A60_l0 { ts := [(1, .v (.int .i64 d)), (2, .loc 2 0), (5, .v (.int .i64 k))], bs := [(2, t.cs)] } st
    = if b.any (fun s => amid d s.low s.high) = true then some (.ret, { ts := [(4, .v (.bool true))], bs := [] }, st)
      else some (.exit 0, { ts := [(1, .v (.int .i64 d)), (2, .loc 2 0), (5, .v (.int .i64 t.barred.length)), (10, .v (.bool false))], bs := [(2, t.cs)] }, st)
  | [], a, k, hk0, e => by
    simp only [List.append_nil] at e
    subst hk0
    rw [loopC_eq]
    simp [A60_l0, A60_r2, Town.cs, e]
  | x :: b, a, k, hk0, e => by
    subst hk0
    have hlt : a.length < t.barred.length := by rw [e]; simp
    have hd : (row Sp.av t.barred).drop (a.length * 2) = Sp.av x ++ row Sp.av b := by rw [e, row_drop Sp.len]; rfl
    have hw : IntKind.wrap .i64 ((a.length : Int) + 1) = (a.length : Int) + 1 := wrap_small (by omega) (by have := hf.b; omega)
    have hh := fun st => holds_ev x.low x.high d st
    have ih := barredR_loop hf (d := d) st b (a ++ [x]) _ rfl (by simp [e])
    cases hc : amid d x.low x.high with
    | true =>
      rw [loopC_eq]
      simp [A60_l0, A60_r2, A60_r3, A60_r4, A60_r5, hlt, hd, hw, Sp.av, Town.cs, hh, hc]
    | false =>
      rw [loopC_norm (fr' := { ts := [(1, .v (.int .i64 d)), (2, .loc 2 0), (5, .v (.int .i64 ((a ++ [x]).length : Int)))], bs := [(2, t.cs)] }) (st' := st) (by
        simp [A60_l0, A60_r2, A60_r3, A60_r4, A60_r5, hlt, hd, hw, Sp.av, Town.cs, hh, hc]), ih]
      simp [hc]
theorem barredR_ev (hf : t.Fits) (d : Int) (st : St) : callE E0 false (.fn 60 [] []) [.agg t.cs, .int .i64 d] st = some (.bool (barredB t d), st) := by
  rw [callE0 (by decide) (af := A60) rfl rfl]
  have ho := barredR_loop hf (d := d) { st with low := st.heap.length } t.barred [] 0 rfl rfl
  simp only [Town.cs] at ho
  cases hb : barredB t d with
  | true =>
    rw [if_pos (show (t.barred.any fun s => amid d s.low s.high) = true from hb)] at ho
    simp [A60, A60_r0, A60_r1, A60_r6, finish, Town.cs, ho]
  | false =>
    rw [if_neg (show ¬ (t.barred.any fun s => amid d s.low s.high) = true from fun hn => by rw [show barredB t d = true from hn] at hb; cases hb)] at ho
    simp [A60, A60_r0, A60_r1, A60_r6, finish, Town.cs, ho]
section
variable {day film minute : Int}
theorem whyR_bad (hf : t.Fits) (hc : checkB t = false) (st : St) : callE E0 false (.fn 15 [] []) [.agg t.cs, .int .i64 day, .int .i64 film, .int .i64 minute] st = some (.tup [.int .i64 0, .int .i64 50], st) := by
  rw [callE0 (by decide) (af := A15) rfl rfl]
  have ha := askedR_ev hf
  simp only [Town.cs, hc] at ha
  cases h1 : amid day 0 999 <;> cases h2 : amid film 0 15 <;> cases h3 : amid minute 0 1439 <;> simp [A15, A15_r0, A15_r1, A15_r2, A15_r3, regionA_st s15_r1, finish, Town.cs, ha, h1, h2, h3]
theorem whyR_no (hf : t.Fits) (hc : checkB t = true) (h : (amid day 0 999 && amid film 0 15 && amid minute 0 1439) = false) (st : St) : callE E0 false (.fn 15 [] []) [.agg t.cs, .int .i64 day, .int .i64 film, .int .i64 minute] st = some (.tup [.int .i64 0, .int .i64 51], st) := by
  rw [callE0 (by decide) (af := A15) rfl rfl]
  have ha := askedR_ev hf
  simp only [Town.cs, hc] at ha
  cases h1 : amid day 0 999 <;> cases h2 : amid film 0 15 <;> cases h3 : amid minute 0 1439 <;> simp [h1, h2, h3] at h <;> simp [A15, A15_r0, A15_r1, A15_r2, A15_r3, regionA_st s15_r1, finish, Town.cs, ha, h1, h2, h3]
theorem whyR_ok (hf : t.Fits) (hc : checkB t = true) (h1 : amid day 0 999 = true) (h2 : amid film 0 15 = true) (h3 : amid minute 0 1439 = true) (st : St) : callE E0 false (.fn 15 [] []) [.agg t.cs, .int .i64 day, .int .i64 film, .int .i64 minute] st = some (.tup [.int .i64 (whyB t day film minute), .int .i64 0], st) := by
  rw [callE0 (by decide) (af := A15) rfl rfl]
  have g := good_of hc
  have ha := askedR_ev hf
  have c1 := covered_ev (h := t.hh) g.kinds day hf.h (fun q hq => List.all_eq_true.1 g.held q hq)
  have c2 := barredR_ev hf day
  have c3 := fun st => bit_ev (x := t.forb) (amid_iff.1 h2).1 st
  simp only [Town.cs, hc] at ha c1 c2
  unfold whyB
  cases e1 : covB t t.held day with
  | false => simp [A15, A15_r0, A15_r1, A15_r2, A15_r3, A15_r4, A15_r5, regionA_st s15_r1, finish, Town.cs, ha, h1, h2, h3, c1, e1]
  | true =>
    cases e2 : barredB t day with
    | true => simp [A15, A15_r0, A15_r1, A15_r2, A15_r3, A15_r4, A15_r5, A15_r6, A15_r7, regionA_st s15_r1, finish, Town.cs, ha, h1, h2, h3, c1, c2, e1, e2]
    | false =>
      cases e3 : bitB t.forb film with
      | true => simp [A15, A15_r0, A15_r1, A15_r2, A15_r3, A15_r4, A15_r5, A15_r6, A15_r7, A15_r8, A15_r9, regionA_st s15_r1, finish, Town.cs, ha, h1, h2, h3, c1, c2, c3, e1, e2, e3]
      | false => by_cases e4 : t.close < minute <;> simp [A15, A15_r0, A15_r1, A15_r2, A15_r3, A15_r4, A15_r5, A15_r6, A15_r7, A15_r8, A15_r9, A15_r10, A15_r11, A15_r12, regionA_st s15_r1, finish, Town.cs, ha, h1, h2, h3, c1, c2, c3, e1, e2, e3, e4]
end
section
variable {b lo hi : Int}
theorem overR_bad (hf : t.Fits) (hc : checkB t = false) (st : St) : callE E0 false (.fn 22 [] []) [.agg t.cs, .int .i64 b, .agg [.int .i64 lo, .int .i64 hi]] st = some (.tup [.int .i64 0, .int .i64 50], st) := by
  rw [callE0 (by decide) (af := A22) rfl rfl]
  have ha := askedR_ev hf
  simp only [Town.cs, hc] at ha
  cases h1 : amid b 0 1439 <;> cases h2 : span lo hi 0 1439 <;> simp [A22, A22_r0, A22_r1, A22_r2, A22_r3, regionA_st s22_r1, finish, Town.cs, ha, h1, h2]
theorem overR_no (hf : t.Fits) (hc : checkB t = true) (h : (amid b 0 1439 && span lo hi 0 1439) = false) (st : St) : callE E0 false (.fn 22 [] []) [.agg t.cs, .int .i64 b, .agg [.int .i64 lo, .int .i64 hi]] st = some (.tup [.int .i64 0, .int .i64 51], st) := by
  rw [callE0 (by decide) (af := A22) rfl rfl]
  have ha := askedR_ev hf
  simp only [Town.cs, hc] at ha
  cases h1 : amid b 0 1439 <;> cases h2 : span lo hi 0 1439 <;> simp [h1, h2] at h <;> simp [A22, A22_r0, A22_r1, A22_r2, A22_r3, regionA_st s22_r1, finish, Town.cs, ha, h1, h2]
theorem overR_ok (hf : t.Fits) (hc : checkB t = true) (h1 : amid b 0 1439 = true) (h2 : span lo hi 0 1439 = true) (st : St) : callE E0 false (.fn 22 [] []) [.agg t.cs, .int .i64 b, .agg [.int .i64 lo, .int .i64 hi]] st = some (.tup [.int .i64 (overN t b lo hi), .int .i64 0], st) := by
  rw [callE0 (by decide) (af := A22) rfl rfl]
  have ha := askedR_ev hf
  simp only [Town.cs, hc] at ha
  have h1' := h1
  have h2' := h2
  simp only [amid, span, Bool.and_eq_true, decide_eq_true_eq] at h1' h2'
  have w1 : IntKind.wrap .i64 (b + lo) = b + lo := wrap_small (by omega) (by omega)
  have w2 : IntKind.wrap .i64 (b + hi) = b + hi := wrap_small (by omega) (by omega)
  unfold overN
  by_cases e2 : b + hi ≤ t.close
  · have e1 : b + lo ≤ t.close := by omega
    simp [A22, A22_r0, A22_r1, A22_r2, A22_r3, A22_r4, A22_r5, A22_r6, A22_r7, A22_r8, regionA_st s22_r1, finish, Town.cs, ha, h1, h2, w1, w2, e1, e2]
  · by_cases e1 : b + lo ≤ t.close <;> simp [A22, A22_r0, A22_r1, A22_r2, A22_r3, A22_r4, A22_r5, A22_r6, A22_r7, A22_r8, regionA_st s22_r1, finish, Town.cs, ha, h1, h2, w1, w2, e1, e2]
end
end
end Go.Proofs.Tryd

namespace Go.Proofs.Tryd
open Go Go.Proofs.AM

def outR (N : Nat) : List Int → AV
  | [] => .lst (some true) true 0 []
  | _ :: os => .sl 1 N os.length 0 (os.length + 1) none
def stR (B : List AObj) (outs : List Int) : St := { heap := B ++ dat outs, low := B.length }
theorem app_ev (B : List AObj) (outs : List Int) (d : Int) (hb : outs.length ≤ 1000) : appA 1 3 8 (outR B.length outs) (.lst (some false) true 1 [.int .i64 d]) (stR B outs) = some (outR B.length (outs ++ [d]), stR B (outs ++ [d])) := by
  cases outs with
  | nil => simp [appA, sliceCells, outR, stR, dat, alloc, room, row, In.av]
  | cons o os =>
    have hl : (row In.av (o :: os)).length = os.length + 1 := by rw [row_len In.len]; simp
    have ha : row In.av (o :: (os ++ [d])) = row In.av (o :: os) ++ [.int .i64 d] := by rw [← List.cons_append, row_append]; rfl
    simp only [List.length_cons] at hb
    have h1 : (os.length + 1 + 1) * 8 ≤ room := by unfold room; omega
    have h2 : os.length + 1 + 1 ≤ room := by unfold room; omega
    simp [appA, sliceCells, outR, stR, dat, mods, h1, h2, hl, ha, get_app0, set_app0]
section
variable {t : Town} {lo hi : Int}
theorem daysR_loop (hf : t.Fits) (g : Good t) (hlo : 0 ≤ lo) (hhi : hi ≤ 999) (B : List AObj) : ∀ (r : Nat) (d : Int) (outs : List Int), d + r = hi + 1 → lo ≤ d → (outs.length : Int) ≤ d →
    loopC E0 [2, 3, 7, 8] [2, 3] A19_l0 { ts := [(2, .loc 2 0), (3, .loc 3 0), (7, .v (outR B.length outs)), (8, .v (.int .i64 d))], bs := [(2, t.cs), (3, [.int .i64 lo, .int .i64 hi])] } (stR B outs)
    = some (.exit 0, { ts := [(2, .loc 2 0), (3, .loc 3 0), (7, .v (outR B.length (outs ++ daysL t r d))), (8, .v (.int .i64 (hi + 1))), (21, .v (.bool false))], bs := [(2, t.cs), (3, [.int .i64 lo, .int .i64 hi])] }, stR B (outs ++ daysL t r d))
  | 0, d, outs, hr, hk, ho => by
    have e : d = hi + 1 := by omega
    subst e
    have hne : ¬ hi + 1 ≤ hi := by omega
    rw [loopC_eq]
    simp [A19_l0, A19_r6, daysL, hne]
  | r + 1, d, outs, hr, hk, ho => by
    have hcv := covered_ev (h := t.hh) g.kinds d hf.h (fun p hp => List.all_eq_true.1 g.held p hp)
    have hba := barredR_ev hf d
    have w2 : IntKind.wrap .i64 (d + 1) = d + 1 := wrap_small (by omega) (by omega)
    have hle : d ≤ hi := by omega
    have hap := app_ev B outs d (by omega)
    simp only [Town.cs] at hcv hba
    simp only [daysL]
    by_cases hd : dayB t d = true
    · rw [if_pos hd]
      have hd' := hd
      simp only [dayB, Bool.and_eq_true, Bool.not_eq_true'] at hd'
      rw [loopC_norm (fr' := { ts := [(2, .loc 2 0), (3, .loc 3 0), (7, .v (outR B.length (outs ++ [d]))), (8, .v (.int .i64 (d + 1)))], bs := [(2, t.cs), (3, [.int .i64 lo, .int .i64 hi])] }) (st' := stR B (outs ++ [d])) (by
        simp [A19_l0, A19_r6, A19_r7, A19_r8, A19_r9, Town.cs, hle, hcv, hba, hd'.1, hd'.2, w2, hap]), daysR_loop hf g hlo hhi B r (d + 1) (outs ++ [d]) (by omega) (by omega) (by simp; omega)]
      simp
    · rw [if_neg hd]
      rw [loopC_norm (fr' := { ts := [(2, .loc 2 0), (3, .loc 3 0), (7, .v (outR B.length outs)), (8, .v (.int .i64 (d + 1)))], bs := [(2, t.cs), (3, [.int .i64 lo, .int .i64 hi])] }) (st' := stR B outs) (by
        unfold dayB at hd
        cases h1 : covB t t.held d with
        | false => simp [A19_l0, A19_r6, A19_r7, A19_r8, Town.cs, hle, hcv, h1, w2]
        | true =>
          rw [h1] at hd
          have h2 : barredB t d = true := by simpa using hd
          simp [A19_l0, A19_r6, A19_r7, A19_r8, Town.cs, hle, hcv, hba, h1, h2, w2]), daysR_loop hf g hlo hhi B r (d + 1) outs (by omega) (by omega) (by omega)]
def daysRV (l : List Int) : AV := lstA ⟨some l.isEmpty, l.isEmpty⟩ In.av l
theorem daysR_bad (hf : t.Fits) (hc : checkB t = false) (st : St) : callE E0 false (.fn 19 [] []) [.agg t.cs, .agg [.int .i64 lo, .int .i64 hi]] st = some (.tup [.lst (some true) true 0 [], .int .i64 50], st) := by
  rw [callE0 (by decide) (af := A19) rfl rfl]
  have ha := askedR_ev hf
  simp only [Town.cs, hc] at ha
  simp [A19, A19_r0, A19_r1, A19_r2, A19_r3, regionA_st s19_r1, finish, Town.cs, ha]
theorem daysR_no (hf : t.Fits) (hc : checkB t = true) (h : span lo hi 0 999 = false) (st : St) : callE E0 false (.fn 19 [] []) [.agg t.cs, .agg [.int .i64 lo, .int .i64 hi]] st = some (.tup [.lst (some true) true 0 [], .int .i64 51], st) := by
  rw [callE0 (by decide) (af := A19) rfl rfl]
  have ha := askedR_ev hf
  simp only [Town.cs, hc] at ha
  simp [A19, A19_r0, A19_r1, A19_r2, A19_r3, regionA_st s19_r1, finish, Town.cs, ha, h]
theorem daysR_ok (hf : t.Fits) (hc : checkB t = true) (h : span lo hi 0 999 = true) (st : St) : callE E0 false (.fn 19 [] []) [.agg t.cs, .agg [.int .i64 lo, .int .i64 hi]] st = some (.tup [daysRV (daysL t (hi - lo + 1).toNat lo), .int .i64 0], st) := by
  rw [callE0 (by decide) (af := A19) rfl rfl]
  have ha := askedR_ev hf
  have h1 := h
  simp only [span, Bool.and_eq_true, decide_eq_true_eq] at h1
  have hl := daysR_loop hf (good_of hc) h1.1.1 h1.2 st.heap (hi - lo + 1).toNat lo [] (by omega) (by omega) (by simp; omega)
  have e0 : stR st.heap [] = { heap := st.heap, low := st.heap.length } := by simp [stR, dat]
  have e5 : outR st.heap.length [] = .lst (some true) true 0 [] := rfl
  rw [e0, e5] at hl
  simp only [List.nil_append] at hl
  generalize daysL t (hi - lo + 1).toNat lo = outs at hl
  simp only [Town.cs, hc] at ha hl
  cases outs with
  | nil =>
    simp [A19, A19_r0, A19_r1, A19_r2, A19_r3, A19_r4, A19_r5, A19_r10, regionA_st s19_r1, finish, Town.cs, ha, h, hl, outR, stR, dat, daysRV]
    rfl
  | cons o os =>
    have e1 : (row In.av (o :: os)).length = os.length + 1 := by rw [row_len In.len]; simp
    have e2 : ∀ (hp : List AObj) (s d : Nat) (refs : Bool), mapS (AM.settle hp s refs d) (row In.av (o :: os)) = some (row In.av (o :: os), []) := fun hp s d refs => mapS_plain (fun c hc => plainA.scal (row_scal In.sc _ c hc) d)
    have e3 : (row In.av (o :: os)).take (os.length + 1) = row In.av (o :: os) := List.take_of_length_le (Nat.le_of_eq e1)
    simp [A19, A19_r0, A19_r1, A19_r2, A19_r3, A19_r4, A19_r5, A19_r10, regionA_st s19_r1, finish, Town.cs, ha, h, hl, outR, stR, dat, daysRV, e1, e2, e3, get_app0]
    rfl
end
end Go.Proofs.Tryd

namespace Go.Proofs.Tryd
open Go Go.Proofs.AM

theorem same_loop {h h' : Hd} {l : List Int} (hl : l.length ≤ 9223372036854775807) (st : St) (hlo : st.low ≤ st.heap.length) : ∀ (b a : List Int) (k : Int), k = a.length → l = a ++ b →
    loopC E0 [0, 1, 5, 6] [] A20_l0 { ts := [(0, .v (lstA h In.av l)), (1, .v (lstA h' In.av l)), (5, .v (.bool true)), (6, .v (.int .i64 k))], bs := [] } st
    = some (.exit 0, { ts := [(0, .v (lstA h In.av l)), (1, .v (lstA h' In.av l)), (5, .v (.bool true)), (6, .v (.int .i64 l.length)), (18, .v (.bool false))], bs := [] }, st)
  | [], a, k, hk, e => by
    simp only [List.append_nil] at e
    subst e hk
    rw [loopC_eq]
    simp [A20_l0, A20_r3]
  | x :: b, a, k, hk, e => by
    subst hk
    have hlt : a.length < l.length := by rw [e]; simp
    have hd : (row In.av l).drop a.length = In.av x ++ row In.av b := by
      have := row_drop In.len a (x :: b)
      rw [Nat.mul_one, ← e] at this
      exact this
    have hw : IntKind.wrap .i64 ((a.length : Int) + 1) = (a.length : Int) + 1 := wrap_small (by omega) (by omega)
    have hm : min st.low st.heap.length = st.low := Nat.min_eq_left hlo
    rw [loopC_norm (fr' := { ts := [(0, .v (lstA h In.av l)), (1, .v (lstA h' In.av l)), (5, .v (.bool true)), (6, .v (.int .i64 ((a ++ [x]).length : Int)))], bs := [] }) (st' := st) (by
      simp [A20_l0, A20_r3, A20_r4, A20_r5, regionA_st s20_r5, hm, hlt, hd, hw, In.av]), same_loop hl st hlo b (a ++ [x]) _ rfl (by simp [e])]
theorem same_ev {h h' : Hd} {l : List Int} (hl : l.length ≤ 9223372036854775807) (st : St) : callE E0 false (.fn 20 [] []) [lstA h In.av l, lstA h' In.av l] st = some (.bool true, st) := by
  rw [callE0 (by decide) (af := A20) rfl rfl]
  have ho := same_loop (h := h) (h' := h') hl { st with low := st.heap.length } (Nat.le_refl _) l [] 0 rfl rfl
  simp [A20, A20_r0, A20_r1, A20_r2, A20_r6, finish, ho]
theorem daysL_len (t : Town) : ∀ (r : Nat) (d : Int), (daysL t r d).length ≤ r
  | 0, _ => by simp [daysL]
  | r + 1, d => by
    have := daysL_len t r (d + 1)
    simp only [daysL]
    split <;> simp <;> omega
section
variable {t : Town}
theorem why_same (hf : t.Fits) (day film minute : Int) : ∃ a e : Int, (∀ st, callE E0 false (.fn 14 [] []) [.agg t.cs, .int .i64 day, .int .i64 film, .int .i64 minute] st = some (.tup [.int .i64 a, .int .i64 e], st)) ∧ ∀ st, callE E0 false (.fn 15 [] []) [.agg t.cs, .int .i64 day, .int .i64 film, .int .i64 minute] st = some (.tup [.int .i64 a, .int .i64 e], st) := by
  cases hc : checkB t with
  | false => exact ⟨_, _, why_bad hf hc, whyR_bad hf hc⟩
  | true =>
    cases h : (amid day 0 999 && amid film 0 15 && amid minute 0 1439) with
    | false => exact ⟨_, _, why_no hf hc h, whyR_no hf hc h⟩
    | true =>
      simp only [Bool.and_eq_true] at h
      exact ⟨_, _, why_ok hf hc h.1.1 h.1.2 h.2, whyR_ok hf hc h.1.1 h.1.2 h.2⟩
theorem over_same (hf : t.Fits) (b lo hi : Int) : ∃ a e : Int, (∀ st, callE E0 false (.fn 21 [] []) [.agg t.cs, .int .i64 b, .agg [.int .i64 lo, .int .i64 hi]] st = some (.tup [.int .i64 a, .int .i64 e], st)) ∧ ∀ st, callE E0 false (.fn 22 [] []) [.agg t.cs, .int .i64 b, .agg [.int .i64 lo, .int .i64 hi]] st = some (.tup [.int .i64 a, .int .i64 e], st) := by
  cases hc : checkB t with
  | false => exact ⟨_, _, over_bad hf hc, overR_bad hf hc⟩
  | true =>
    cases h : (amid b 0 1439 && span lo hi 0 1439) with
    | false => exact ⟨_, _, over_no hf hc h, overR_no hf hc h⟩
    | true =>
      simp only [Bool.and_eq_true] at h
      exact ⟨_, _, over_ok hf hc h.1 h.2, overR_ok hf hc h.1 h.2⟩
theorem days_same (hf : t.Fits) (lo hi : Int) : ∃ (h h' : Hd) (l : List Int) (e : Int), l.length ≤ 9223372036854775807 ∧ (∀ st, callE E0 false (.fn 18 [] []) [.agg t.cs, .agg [.int .i64 lo, .int .i64 hi]] st = some (.tup [lstA h In.av l, .int .i64 e], st)) ∧ ∀ st, callE E0 false (.fn 19 [] []) [.agg t.cs, .agg [.int .i64 lo, .int .i64 hi]] st = some (.tup [lstA h' In.av l, .int .i64 e], st) := by
  cases hc : checkB t with
  | false => exact ⟨⟨some true, true⟩, ⟨some true, true⟩, [], _, by simp, days_bad hf hc, daysR_bad hf hc⟩
  | true =>
    cases h : span lo hi 0 999 with
    | false => exact ⟨⟨some true, true⟩, ⟨some true, true⟩, [], _, by simp, days_no hf hc h, daysR_no hf hc h⟩
    | true =>
      refine ⟨_, _, _, _, ?_, days_ok hf hc h, daysR_ok hf hc h⟩
      have := daysL_len t (hi - lo + 1).toNat lo
      simp only [span, Bool.and_eq_true, decide_eq_true_eq] at h
      omega
theorem whysLaw_ev (hf : t.Fits) (n0 n1 n2 a b c d : Int) (st : St) : callE E0 false (.fn 3 [] []) [.agg t.cs, .agg [.int .i64 n0, .int .i64 n1, .int .i64 n2], .agg [.int .i64 a, .int .i64 b, .int .i64 c, .int .i64 d]] st = some (.bool true, st) := by
  rw [callE0 (by decide) (af := A3) rfl rfl]
  obtain ⟨w, we, w1, w2⟩ := why_same hf n0 n1 n2
  obtain ⟨h, h', l, de, hl, d1, d2⟩ := days_same hf a b
  obtain ⟨o, oe, o1, o2⟩ := over_same hf n2 c d
  have c1 := check_ev hf
  have c2 := checkR_ev hf
  have hs := same_ev (h := h) (h' := h') hl
  simp only [Town.cs] at w1 w2 d1 d2 o1 o2 c1 c2
  simp [A3, A3_r0, A3_r1, A3_r2, A3_r3, A3_r4, A3_r5, A3_r6, A3_r7, A3_r8, A3_r9, A3_r10, A3_r11, regionA_st s3_r3, finish, Town.cs, w1, w2, d1, d2, o1, o2, c1, c2, hs]
end
end Go.Proofs.Tryd

namespace Go.Proofs.Tryd
open Go Go.Proofs.AM

/-- Do numbers rise, from behind one on, to 999? -/
def riseB : Int → List Int → Bool
  | _, [] => true
  | e, n :: l => amid n (e + 1) 999 && riseB n l
def wantB (l : List Int) : Bool := decide (l.length ≤ 8) && riseB (-1) l
theorem drop_ints {a b l : List Int} {x : Int} (e : l = a ++ x :: b) : (row In.av l).drop a.length = .int .i64 x :: row In.av b := by
  have := row_drop In.len a (x :: b)
  rw [Nat.mul_one, ← e] at this
  exact this
theorem want_loop {h : Hd} {l : List Int} (hl : l.length ≤ 9223372036854775807) (st : St) : ∀ (b a : List Int) (k : Int) (ok : Bool) (e0 : Int), k = a.length → l = a ++ b → (ok = true → -1 ≤ e0 ∧ e0 ≤ 999) →
    ∃ e1, loopC E0 [3, 4, 10, 11, 12] [] A71_l0 { ts := [(3, .v (.bool ok)), (4, .v (.int .i64 e0)), (10, .v (lstA h In.av l)), (11, .v (.int .i64 l.length)), (12, .v (.int .i64 k))], bs := [] } st
    = some (.exit 0, { ts := [(3, .v (.bool (ok && riseB e0 b))), (4, .v (.int .i64 e1)), (10, .v (lstA h In.av l)), (11, .v (.int .i64 l.length)), (12, .v (.int .i64 l.length)), (13, .v (.bool false))], bs := [] }, st)
  | [], a, k, ok, e0, hk, e, _ => by
    simp only [List.append_nil] at e
    subst e hk
    refine ⟨e0, ?_⟩
    rw [loopC_eq]
    simp [A71_l0, A71_r3, riseB]
  | x :: b, a, k, ok, e0, hk, e, hr => by
    subst hk
    have hlt : a.length < l.length := by rw [e]; simp
    have hd := drop_ints e
    have hw : IntKind.wrap .i64 ((a.length : Int) + 1) = (a.length : Int) + 1 := wrap_small (by omega) (by omega)
    have hw2 : ok = true → IntKind.wrap .i64 (e0 + 1) = e0 + 1 := fun ho => wrap_small (by have := hr ho; omega) (by have := hr ho; omega)
    obtain ⟨e1, ih⟩ := want_loop (h := h) hl st b (a ++ [x]) _ (ok && amid x (e0 + 1) 999) x rfl (by simp [e]) (fun ho => by
      simp only [Bool.and_eq_true, amid_iff] at ho
      have := hr ho.1
      omega)
    refine ⟨e1, ?_⟩
    rw [loopC_norm (fr' := { ts := [(3, .v (.bool (ok && amid x (e0 + 1) 999))), (4, .v (.int .i64 x)), (10, .v (lstA h In.av l)), (11, .v (.int .i64 l.length)), (12, .v (.int .i64 ((a ++ [x]).length : Int)))], bs := [] }) (st' := st) (by
      cases ok with
      | false => simp [A71_l0, A71_r3, A71_r4, A71_r5, A71_r6, A71_r7, hlt, hd, hw]
      | true => simp [A71_l0, A71_r3, A71_r4, A71_r5, A71_r6, A71_r7, hlt, hd, hw, hw2 rfl]), ih]
    simp [Bool.and_assoc, riseB]
theorem areWanted_ev {h : Hd} {l : List Int} (hl : l.length ≤ 9223372036854775807) (st : St) : callE E0 false (.fn 71 [] []) [lstA h In.av l] st = some (.bool (wantB l), st) := by
  rw [callE0 (by decide) (af := A71) rfl rfl]
  obtain ⟨e1, ho⟩ := want_loop (h := h) hl { st with low := st.heap.length } l [] 0 (decide (l.length ≤ 8)) (-1) rfl rfl (by omega)
  have hd : decide ((l.length : Int) ≤ 8) = decide (l.length ≤ 8) := by apply decide_eq_decide.2; omega
  simp [A71, A71_r0, A71_r1, A71_r2, A71_r8, finish, hd, ho, wantB]
theorem rises_loop {h : Hd} {l : List Int} (hl : l.length ≤ 9223372036854775807) (st : St) : ∀ (b a : List Int) (k : Int) (e0 : Int), k = a.length → l = a ++ b → -1 ≤ e0 → e0 ≤ 999 →
    ∃ e1, loopC E0 [0, 1, 5, 6] [] A42_l0 { ts := [(0, .v (lstA h In.av l)), (1, .v (.int .i64 1000)), (5, .v (.int .i64 e0)), (6, .v (.int .i64 k))], bs := [] } st
    = if riseB e0 b = true then some (.exit 0, { ts := [(0, .v (lstA h In.av l)), (1, .v (.int .i64 1000)), (5, .v (.int .i64 e1)), (6, .v (.int .i64 l.length)), (10, .v (.bool false))], bs := [] }, st)
      else some (.ret, { ts := [(4, .v (.bool false))], bs := [] }, st)
  | [], a, k, e0, hk, e, _, _ => by
    simp only [List.append_nil] at e
    subst e hk
    refine ⟨e0, ?_⟩
    rw [loopC_eq]
    simp [A42_l0, A42_r3, riseB]
  | x :: b, a, k, e0, hk, e, h1, h2 => by
    subst hk
    have hlt : a.length < l.length := by rw [e]; simp
    have hd := drop_ints e
    have hw : IntKind.wrap .i64 ((a.length : Int) + 1) = (a.length : Int) + 1 := wrap_small (by omega) (by omega)
    have hw2 : IntKind.wrap .i64 (e0 + 1) = e0 + 1 := wrap_small (by omega) (by omega)
    have hw3 : IntKind.wrap .i64 999 = 999 := by decide
    cases hc : amid x (e0 + 1) 999 with
    | true =>
      have hx := amid_iff.1 hc
      obtain ⟨e1, ih⟩ := rises_loop (h := h) hl st b (a ++ [x]) _ x rfl (by simp [e]) (by omega) (by omega)
      refine ⟨e1, ?_⟩
      rw [loopC_norm (fr' := { ts := [(0, .v (lstA h In.av l)), (1, .v (.int .i64 1000)), (5, .v (.int .i64 x)), (6, .v (.int .i64 ((a ++ [x]).length : Int)))], bs := [] }) (st' := st) (by
        simp [A42_l0, A42_r3, A42_r4, A42_r5, A42_r6, A42_r7, hlt, hd, hw, hw2, hw3, hc]), ih]
      simp [riseB, hc]
    | false =>
      refine ⟨e0, ?_⟩
      rw [loopC_eq]
      simp [A42_l0, A42_r3, A42_r4, A42_r5, A42_r6, A42_r7, hlt, hd, hw, hw2, hw3, hc, riseB]
theorem rises_ev {h : Hd} {l : List Int} (hl : l.length ≤ 9223372036854775807) (st : St) : callE E0 false (.fn 42 [] []) [lstA h In.av l, .int .i64 1000] st = some (.bool (riseB (-1) l), st) := by
  rw [callE0 (by decide) (af := A42) rfl rfl]
  obtain ⟨e1, ho⟩ := rises_loop (h := h) hl { st with low := st.heap.length } l [] 0 (-1) rfl rfl (by omega) (by omega)
  cases hb : riseB (-1) l with
  | true =>
    rw [if_pos hb] at ho
    simp [A42, A42_r0, A42_r1, A42_r2, A42_r8, finish, ho]
  | false =>
    rw [if_neg (by simp [hb])] at ho
    simp [A42, A42_r0, A42_r1, A42_r2, A42_r8, finish, ho]
theorem areWantedR_ev {h : Hd} {l : List Int} (hl : l.length ≤ 9223372036854775807) (st : St) : callE E0 false (.fn 74 [] []) [lstA h In.av l] st = some (.bool (wantB l), st) := by
  rw [callE0 (by decide) (af := A74) rfl rfl]
  have hr := rises_ev (h := h) hl
  by_cases hd : (l.length : Int) ≤ 8
  · have hd' : l.length ≤ 8 := by omega
    simp [A74, A74_r0, A74_r1, finish, hd, hd', hr, wantB]
  · have hd' : ¬ l.length ≤ 8 := by omega
    simp [A74, A74_r0, A74_r1, finish, hd, hd', wantB]
end Go.Proofs.Tryd

namespace Go.Proofs.Tryd
open Go Go.Proofs.AM

def noticeOf (t : Town) (p : Pp) : Int := match t.kinds[p.kind.toNat]? with
  | some k => k.notice
  | none => 0
def ordB (pr : Option Int) (p : Pp) : Bool := match pr with
  | none => true
  | some f => decide (f ≤ p.first)
def stepB (t : Town) (today : Int) (pr : Option Int) (p : Pp) : Bool := paperB t p && ordB pr p && decide (noticeOf t p ≤ p.first - today)
def goB (t : Town) (today : Int) : Option Int → List Pp → Bool
  | _, [] => true
  | pr, p :: l => stepB t today pr p && goB t today (some p.first) l
/-- What stands before, of a row of licences. -/
def Prev (a : List Pp) (pr : Option Int) : Prop := (a = [] ∧ pr = none) ∨ ∃ a' q, a = a' ++ [q] ∧ pr = some q.first
section
variable {t : Town}
theorem kn_of {p : Pp} (hp : paperB t p = true) (hk : t.kinds.all kdB = true) : ∃ k, t.kinds[p.kind.toNat]? = some k ∧ noticeOf t p = k.notice ∧ 0 ≤ k.notice ∧ k.notice ≤ 30 ∧ 0 ≤ p.kind ∧ p.kind < t.kinds.length ∧ 0 ≤ p.first ∧ p.first ≤ 999 := by
  obtain ⟨k, e1, hkd, e2, h0, h1, h2, h3⟩ := kd_of hp hk
  simp only [kdB, Bool.and_eq_true, amid_iff] at hkd
  exact ⟨k, e1, by simp [noticeOf, e1], hkd.2.1, hkd.2.2, h0, h1, h2, h3⟩
theorem isPlan_loop (hf : t.Fits) (hk : t.kinds.all kdB = true) {m : Nat} {today : Int} (ht : amid today 0 999 = true) {h : Hd} {l : List Pp} (hl : l.length ≤ 9223372036854775807) (st : St) (hlo : st.low ≤ st.heap.length) : ∀ (b a : List Pp) (k : Int) (pr : Option Int), k = a.length → l = a ++ b → Prev a pr →
    loopC E0 [1, 2, 3, 8, 25, 26, 27] [3, 8] A24_l0 { ts := [(1, .v (.int .i64 today)), (2, .v (lstA h Pp.av l)), (3, .loc 3 0), (8, .loc 8 0), (25, .v (lstA h Pp.av l)), (26, .v (.int .i64 l.length)), (27, .v (.int .i64 k))], bs := [(3, t.cs), (8, t.cs ++ [.map m])] } st
    = if goB t today pr b = true then some (.exit 0, { ts := [(1, .v (.int .i64 today)), (2, .v (lstA h Pp.av l)), (3, .loc 3 0), (8, .loc 8 0), (25, .v (lstA h Pp.av l)), (26, .v (.int .i64 l.length)), (27, .v (.int .i64 l.length)), (28, .v (.bool false))], bs := [(3, t.cs), (8, t.cs ++ [.map m])] }, st)
      else some (.ret, { ts := [(6, .v (.bool false)), (7, .v (.int .i64 0))], bs := [] }, st)
  | [], a, k, pr, hk0, e, _ => by
    simp only [List.append_nil] at e
    subst e hk0
    rw [loopC_eq]
    simp [A24_l0, A24_r7, goB]
  | p :: b, a, k, pr, hk0, e, hpr => by
    subst hk0
    have hlt : a.length < l.length := by rw [e]; simp
    have hd : (row Pp.av l).drop (a.length * 2) = Pp.av p ++ row Pp.av b := by rw [e, row_drop Pp.len]; rfl
    have hw : IntKind.wrap .i64 ((a.length : Int) + 1) = (a.length : Int) + 1 := wrap_small (by omega) (by omega)
    have hm : min st.low st.heap.length = st.low := Nat.min_eq_left hlo
    have hip := isPaper_ev t hf p
    have htd := amid_iff.1 ht
    simp only [Town.cs, Pp.av] at hip
    have ih := isPlan_loop hf hk (m := m) ht (h := h) hl st hlo b (a ++ [p]) _ (some p.first) rfl (by simp [e]) (.inr ⟨a, p, rfl, rfl⟩)
    cases hp : paperB t p with
    | false =>
      rw [loopC_eq]
      simp [A24_l0, A24_r7, A24_r8, A24_r9, A24_r10, A24_r11, regionA_st s24_r9, hm, hlt, hd, hw, Pp.av, Town.cs, hip, hp, goB, stepB]
    | true =>
      obtain ⟨kk, e1, e2, n1, n2, k0, k1, f0, f1⟩ := kn_of hp hk
      have hdk := row_get Kd.len e1
      have w1 : IntKind.wrap .i64 (p.first - today) = p.first - today := wrap_small (by omega) (by omega)
      rcases hpr with ⟨rfl, rfl⟩ | ⟨a', q, rfl, rfl⟩
      · by_cases hn : p.first - today < kk.notice
        · rw [loopC_eq]
          have hn' : ¬ kk.notice ≤ p.first - today := by omega
          simp only [List.length_nil, Nat.zero_mul, List.drop_zero] at hd hlt
          simp [A24_l0, A24_r7, A24_r8, A24_r9, A24_r10, A24_r11, regionA_st s24_r9, hm, hlt, hd, Pp.av, Town.cs, hip, hp, goB, stepB, ordB, e2, hn, hn', k0, k1, hdk, Kd.av, w1]
        · have hn' : kk.notice ≤ p.first - today := by omega
          have h1w : IntKind.wrap .i64 1 = 1 := by decide
          simp only [List.length_nil, Nat.zero_mul, List.drop_zero] at hd hlt
          rw [loopC_norm (fr' := { ts := [(1, .v (.int .i64 today)), (2, .v (lstA h Pp.av l)), (3, .loc 3 0), (8, .loc 8 0), (25, .v (lstA h Pp.av l)), (26, .v (.int .i64 l.length)), (27, .v (.int .i64 (([] ++ [p] : List Pp).length : Int)))], bs := [(3, t.cs), (8, t.cs ++ [.map m])] }) (st' := st) (by
            simp [A24_l0, A24_r7, A24_r8, A24_r9, A24_r10, A24_r11, regionA_st s24_r9, hm, hlt, hd, Pp.av, Town.cs, hip, hp, hn, k0, k1, hdk, Kd.av, w1, h1w]), ih]
          simp [goB, stepB, ordB, hp, e2, hn']
      · have hpos : (0 : Int) < (a'.length : Int) + 1 := by omega
        have w2 : IntKind.wrap .i64 ((a'.length : Int) + 1 - 1) = a'.length := by rw [wrap_small (by omega) (by simp at hlt; omega)]; omega
        have w3 : IntKind.wrap .i64 (a'.length : Int) = a'.length := wrap_small (by omega) (by simp at hlt; omega)
        have hlt' : a'.length < l.length := by simp at hlt; omega
        have hlt2 : a'.length + 1 < l.length := by simpa using hlt
        have hd2 : (row Pp.av l).drop (a'.length * 2) = Pp.av q ++ row Pp.av (p :: b) := by
          have : l = a' ++ (q :: p :: b) := by rw [e]; simp
          rw [this, row_drop Pp.len]; rfl
        simp only [List.length_append, List.length_singleton] at hd hw
        have hpn : ¬ (a'.length : Int) + 1 ≤ 0 := by omega
        have hlt3 : (a'.length : Int) + 1 < l.length := by omega
        have hT : ((a'.length : Int) + 1).toNat = a'.length + 1 := by omega
        have h0 : (0 : Int) ≤ (a'.length : Int) + 1 := by omega
        have hw5 : IntKind.wrap .i64 ((a'.length : Int) + 1 + 1) = (a'.length : Int) + 2 := by rw [wrap_small (by omega) (by omega)]; omega
        by_cases ho : p.first < q.first
        · have ho' : ¬ q.first ≤ p.first := by omega
          rw [loopC_eq]
          simp [A24_l0, A24_r7, A24_r8, A24_r9, A24_r10, A24_r11, regionA_st s24_r9, hm, hlt', hlt3, hT, h0, hd, hd2, hw, Pp.av, Town.cs, hip, hp, goB, stepB, ordB, hpos, hpn, w2, w3, ho, ho']
        · have ho' : q.first ≤ p.first := by omega
          by_cases hn : p.first - today < kk.notice
          · rw [loopC_eq]
            have hn' : ¬ kk.notice ≤ p.first - today := by omega
            simp [A24_l0, A24_r7, A24_r8, A24_r9, A24_r10, A24_r11, regionA_st s24_r9, hm, hlt', hlt3, hT, h0, hd, hd2, hw, Pp.av, Town.cs, hip, hp, goB, stepB, ordB, hpos, hpn, w2, w3, ho, ho', e2, hn, hn', k0, k1, hdk, Kd.av, w1]
          · have hn' : kk.notice ≤ p.first - today := by omega
            rw [loopC_norm (fr' := { ts := [(1, .v (.int .i64 today)), (2, .v (lstA h Pp.av l)), (3, .loc 3 0), (8, .loc 8 0), (25, .v (lstA h Pp.av l)), (26, .v (.int .i64 l.length)), (27, .v (.int .i64 ((a' ++ [q] ++ [p] : List Pp).length : Int)))], bs := [(3, t.cs), (8, t.cs ++ [.map m])] }) (st' := st) (by
              simp [A24_l0, A24_r7, A24_r8, A24_r9, A24_r10, A24_r11, regionA_st s24_r9, hm, hlt', hlt3, hT, h0, hd, hd2, hw, Pp.av, Town.cs, hip, hp, hpos, hpn, w2, w3, ho, hn, k0, k1, hdk, Kd.av, w1, hw5]), ih]
            simp [goB, stepB, ordB, hp, e2, hn', ho']
end
end Go.Proofs.Tryd

namespace Go.Proofs.Tryd
open Go Go.Proofs.AM

def planB (t : Town) (today : Int) (plan : List Pp) : Bool := decide (plan.length ≤ 8) && goB t today none plan && togB t [] (t.held ++ plan)
theorem slc_full {α : Type} {f : α → List AV} {k : Nat} (hf : ∀ x, (f x).length = k) {h : Hd} (l : List α) : slcA k (lstA h f l) none (some (l.length : Int)) (some (l.length : Int)) = some (lstA ⟨h.nl, true⟩ f l) := by
  have e := row_len hf l
  have ht : (row f l).take (l.length * k) = row f l := List.take_of_length_le (Nat.le_of_eq e)
  simp [slcA, lstA, ht]
section
variable {nl : Option Bool} {h : Hd} {a b : List Pp} {q : Pp}
theorem appP_nil (x : AV) (hx : x = lstA ⟨nl, true⟩ Pp.av a) (st : St) : appA 2 55 16 x (lstA h Pp.av []) st = some (x, st) := by
  subst hx
  simp [appA, sliceCells, lstA, row]
theorem appP_ev (hn : a.length + b.length ≤ 1000) (st : St) : appA 2 55 16 (lstA ⟨nl, true⟩ Pp.av a) (lstA h Pp.av (q :: b)) st = some (.sl 2 st.heap.length 0 0 (a ++ q :: b).length none, { heap := st.heap ++ [.cells 0 (some (55, 2)) (row Pp.av (a ++ q :: b))], low := st.low }) := by
  have e1 := row_len Pp.len (q :: b)
  have e2 := row_len Pp.len a
  simp only [List.length_cons] at e1
  have e3 : row Pp.av (a ++ q :: b) = row Pp.av a ++ row Pp.av (q :: b) := row_append _ _
  have h1 : (a.length + (b.length + 1)) * 16 ≤ room := by unfold room; omega
  have h2 : a.length + (b.length + 1) ≤ room := by unfold room; omega
  simp [appA, sliceCells, lstA, alloc, e1, e2, e3, h1, h2]
end
section
variable {t : Town} {today : Int} {h : Hd} {plan : List Pp}
theorem goB_all : ∀ {l : List Pp} {pr : Option Int}, goB t today pr l = true → ∀ p ∈ l, paperB t p = true
  | [], _, _, p, hp => by simp at hp
  | x :: l, pr, hg, p, hp => by
    simp only [goB, stepB, Bool.and_eq_true] at hg
    rcases List.mem_cons.1 hp with rfl | hp
    · exact hg.1.1.1
    · exact goB_all hg.2 p hp
theorem isPlan_bad (hf : t.Fits) (hc : checkB t = false) (st : St) : callE E0 false (.fn 24 [] []) [.agg t.cs, .int .i64 today, lstA h Pp.av plan] st = some (.tup [.bool false, .int .i64 50], st) := by
  rw [callE0 (by decide) (af := A24) rfl rfl]
  have ha := asked_bad hf hc
  simp only [Town.cs, zero7] at ha
  simp [A24, A24_r0, A24_r1, A24_r2, A24_r3, regionA_st s24_r1, finish, Town.cs, ha]
theorem isPlan_no (hf : t.Fits) (hc : checkB t = true) (ht : amid today 0 999 = false) (st : St) : callE E0 false (.fn 24 [] []) [.agg t.cs, .int .i64 today, lstA h Pp.av plan] st = some (.tup [.bool false, .int .i64 51], st) := by
  rw [callE0 (by decide) (af := A24) rfl rfl]
  have ha := asked_no hf hc
  simp only [Town.cs, zero7] at ha
  simp [A24, A24_r0, A24_r1, A24_r2, A24_r3, regionA_st s24_r1, finish, Town.cs, ha, ht]
theorem isPlan_ok (hf : t.Fits) (hc : checkB t = true) (ht : amid today 0 999 = true) (hl : plan.length ≤ 9223372036854775807) (st : St) : callE E0 false (.fn 24 [] []) [.agg t.cs, .int .i64 today, lstA h Pp.av plan] st = some (.tup [.bool (planB t today plan), .int .i64 0], st) := by
  rw [callE0 (by decide) (af := A24) rfl rfl]
  have g := good_of hc
  have ha := asked_ok hf hc
  have hlo := fun (m : Nat) (s : St) (hs : s.low ≤ s.heap.length) => isPlan_loop (t := t) hf g.kinds (m := m) (today := today) ht (h := h) hl s hs plan [] 0 none rfl rfl (.inl ⟨rfl, rfl⟩)
  have hlo := hlo st.heap.length { heap := st.heap ++ [.map []], low := st.heap.length } (by simp)
  have hsl := slc_full Pp.len (h := t.hh) t.held
  simp only [Town.cs, List.cons_append, List.nil_append] at ha hlo
  unfold planB
  by_cases h8 : (plan.length : Int) ≤ 8
  · have h8' : ¬ (8 : Int) < plan.length := by omega
    have h8'' : plan.length ≤ 8 := by omega
    cases hg : goB t today none plan with
    | false =>
      rw [hg] at hlo
      simp [A24, A24_r0, A24_r1, A24_r2, A24_r3, A24_r4, A24_r5, A24_r6, regionA_st s24_r1, finish, Town.cs, ha, ht, h8', h8'', hlo]
    | true =>
      rw [hg] at hlo
      have hall := goB_all hg
      cases plan with
      | nil =>
        have htg := together_ev t st.heap.length ⟨t.hh.nl, true⟩ t.held g.kinds hf.h (fun q hq => List.all_eq_true.1 g.held q hq)
        have hap := fun s => appP_nil (nl := t.hh.nl) (h := h) (a := t.held) (lstA ⟨t.hh.nl, true⟩ Pp.av t.held) rfl s
        simp only [Town.cs, List.cons_append, List.nil_append] at htg
        simp at hlo
        simp [A24, A24_r0, A24_r1, A24_r2, A24_r3, A24_r4, A24_r5, A24_r6, A24_r12, regionA_st s24_r1, regionA_st s24_r12, finish, Town.cs, ha, ht, hlo, hsl, hap, htg]
      | cons q b =>
        have htg : ∀ s, callE E0 false (.fn 64 [] []) [.agg (t.cs ++ [.map st.heap.length]), .lst (some false) false (t.held ++ q :: b).length (row Pp.av (t.held ++ q :: b))] s = some (.bool (togB t [] (t.held ++ q :: b)), s) := fun s => together_ev t st.heap.length ⟨some false, false⟩ (t.held ++ q :: b) g.kinds (by have := g.nh; simp at h8'' ⊢; omega) (fun x hx => by
          rcases List.mem_append.1 hx with hx | hx
          · exact List.all_eq_true.1 g.held x hx
          · exact hall x hx) s
        have hap := fun s => appP_ev (nl := t.hh.nl) (h := h) (a := t.held) (q := q) (b := b) (by have := g.nh; simp at h8''; omega) s
        have e1 := row_len Pp.len (t.held ++ q :: b)
        have e2 : ∀ (hp : List AObj) (s d : Nat) (refs : Bool), mapS (AM.settle hp s refs d) (row Pp.av (t.held ++ q :: b)) = some (row Pp.av (t.held ++ q :: b), []) := fun hp s d refs => mapS_plain (fun c hc => plainA.scal (row_scal Pp.sc _ c hc) d)
        have e3 : (row Pp.av (t.held ++ q :: b)).take ((t.held ++ q :: b).length * 2) = row Pp.av (t.held ++ q :: b) := List.take_of_length_le (Nat.le_of_eq e1)
        simp only [Town.cs, List.cons_append, List.nil_append, List.length_append, List.length_cons] at htg e1 e3
        have h7 : b.length ≤ 7 := by simp at h8''; omega
        simp only [List.length_cons, Int.natCast_add, Int.cast_ofNat_Int] at h8' hlo
        simp [A24, A24_r0, A24_r1, A24_r2, A24_r3, A24_r4, A24_r5, A24_r6, A24_r12, regionA_st s24_r1, regionA_st s24_r12, finish, Town.cs, ha, ht, h8', hlo, hsl, hap, htg, e1, e2, e3, get_app, set_app, frz1, h7]
  · have h8' : (8 : Int) < plan.length := by omega
    have h8'' : ¬ plan.length ≤ 8 := by omega
    simp [A24, A24_r0, A24_r1, A24_r2, A24_r3, A24_r4, A24_r5, regionA_st s24_r1, finish, Town.cs, ha, ht, h8', h8'']
end
end Go.Proofs.Tryd

namespace Go.Proofs.Tryd
open Go Go.Proofs.AM

section
variable {t : Town}
theorem isPlanR_loop (hk : t.kinds.all kdB = true) {today : Int} (ht : amid today 0 999 = true) {h : Hd} {l : List Pp} (hl : l.length ≤ 9223372036854775807) (st : St) (hlo : st.low ≤ st.heap.length) : ∀ (b a : List Pp) (k : Int) (pr : Option Int), k = a.length → l = a ++ b → Prev a pr → (∀ p ∈ b, paperB t p = true) →
    loopC E0 [1, 2, 3, 9] [3] A25_l0 { ts := [(1, .v (.int .i64 today)), (2, .v (lstA h Pp.av l)), (3, .loc 3 0), (9, .v (.int .i64 k))], bs := [(3, t.cs)] } st
    = if goB t today pr b = true then some (.exit 0, { ts := [(1, .v (.int .i64 today)), (2, .v (lstA h Pp.av l)), (3, .loc 3 0), (9, .v (.int .i64 l.length)), (29, .v (.bool false))], bs := [(3, t.cs)] }, st)
      else some (.ret, { ts := [(6, .v (.bool false)), (7, .v (.int .i64 0))], bs := [] }, st)
  | [], a, k, pr, hk0, e, _, _ => by
    simp only [List.append_nil] at e
    subst e hk0
    rw [loopC_eq]
    simp [A25_l0, A25_r7, goB]
  | p :: b, a, k, pr, hk0, e, hpr, hall => by
    subst hk0
    have hlt : a.length < l.length := by rw [e]; simp
    have hd : (row Pp.av l).drop (a.length * 2) = Pp.av p ++ row Pp.av b := by rw [e, row_drop Pp.len]; rfl
    have hw : IntKind.wrap .i64 ((a.length : Int) + 1) = (a.length : Int) + 1 := wrap_small (by omega) (by omega)
    have hm : min st.low st.heap.length = st.low := Nat.min_eq_left hlo
    have htd := amid_iff.1 ht
    have ih := isPlanR_loop hk ht (h := h) hl st hlo b (a ++ [p]) _ (some p.first) rfl (by simp [e]) (.inr ⟨a, p, rfl, rfl⟩) (fun x hx => hall x (by simp [hx]))
    have hp := hall p (by simp)
    obtain ⟨kk, e1, e2, n1, n2, k0, k1, f0, f1⟩ := kn_of hp hk
    have hdk := row_get Kd.len e1
    have w1 : IntKind.wrap .i64 (today + kk.notice) = today + kk.notice := wrap_small (by omega) (by omega)
    by_cases hn : p.first < today + kk.notice
    · have hn' : ¬ kk.notice ≤ p.first - today := by omega
      rw [loopC_eq]
      simp [A25_l0, A25_r7, A25_r8, A25_r9, A25_r10, regionA_st s25_r9, hm, hlt, hd, hw, Pp.av, Town.cs, hp, goB, stepB, e2, hn, hn', k0, k1, hdk, Kd.av, w1]
    · have hn' : kk.notice ≤ p.first - today := by omega
      rcases hpr with ⟨rfl, rfl⟩ | ⟨a', q, rfl, rfl⟩
      · have h1w : IntKind.wrap .i64 1 = 1 := by decide
        simp only [List.length_nil, Nat.zero_mul, List.drop_zero] at hd hlt
        rw [loopC_norm (fr' := { ts := [(1, .v (.int .i64 today)), (2, .v (lstA h Pp.av l)), (3, .loc 3 0), (9, .v (.int .i64 (([] ++ [p] : List Pp).length : Int)))], bs := [(3, t.cs)] }) (st' := st) (by
          simp [A25_l0, A25_r7, A25_r8, A25_r9, A25_r10, regionA_st s25_r9, hm, hlt, hd, Pp.av, Town.cs, hn, k0, k1, hdk, Kd.av, w1, h1w]), ih]
        simp [goB, stepB, ordB, hp, e2, hn']
      · have hpos : (0 : Int) < (a'.length : Int) + 1 := by omega
        have w2 : IntKind.wrap .i64 ((a'.length : Int) + 1 - 1) = a'.length := by rw [wrap_small (by omega) (by simp at hlt; omega)]; omega
        have w3 : IntKind.wrap .i64 (a'.length : Int) = a'.length := wrap_small (by omega) (by simp at hlt; omega)
        have hlt' : a'.length < l.length := by simp at hlt; omega
        have hd2 : (row Pp.av l).drop (a'.length * 2) = Pp.av q ++ row Pp.av (p :: b) := by
          have : l = a' ++ (q :: p :: b) := by rw [e]; simp
          rw [this, row_drop Pp.len]; rfl
        simp only [List.length_append, List.length_singleton] at hd hw hlt
        have hpn : ¬ (a'.length : Int) + 1 ≤ 0 := by omega
        have hlt3 : (a'.length : Int) + 1 < l.length := by omega
        have hT : ((a'.length : Int) + 1).toNat = a'.length + 1 := by omega
        have h0 : (0 : Int) ≤ (a'.length : Int) + 1 := by omega
        have hw5 : IntKind.wrap .i64 ((a'.length : Int) + 1 + 1) = (a'.length : Int) + 2 := by rw [wrap_small (by omega) (by omega)]; omega
        by_cases ho : p.first < q.first
        · have ho' : ¬ q.first ≤ p.first := by omega
          rw [loopC_eq]
          simp [A25_l0, A25_r7, A25_r8, A25_r9, A25_r10, regionA_st s25_r9, hm, hlt', hlt3, hT, h0, hd, hd2, hw, Pp.av, Town.cs, hp, goB, stepB, ordB, hpos, hpn, w1, w2, w3, ho, ho', hn, k0, k1, hdk, Kd.av]
        · have ho' : q.first ≤ p.first := by omega
          rw [loopC_norm (fr' := { ts := [(1, .v (.int .i64 today)), (2, .v (lstA h Pp.av l)), (3, .loc 3 0), (9, .v (.int .i64 ((a' ++ [q] ++ [p] : List Pp).length : Int)))], bs := [(3, t.cs)] }) (st' := st) (by
            simp [A25_l0, A25_r7, A25_r8, A25_r9, A25_r10, regionA_st s25_r9, hm, hlt', hlt3, hT, h0, hd, hd2, hw, Pp.av, Town.cs, hpos, hpn, w1, w2, w3, ho, hn, k0, k1, hdk, Kd.av, hw5]), ih]
          simp [goB, stepB, ordB, hp, e2, hn', ho']
end
theorem appS_ev {h : Hd} {a b : List Pp} {q : Pp} {id n : Nat} (st : St) (hg : st.heap[id]? = some (.cells 0 (some (55, 2)) (row Pp.av a))) (hna : n = a.length) (hn : a.length + b.length ≤ 1000) :
    appA 2 55 16 (.sl 2 id 0 0 n none) (lstA h Pp.av (q :: b)) st = some (.sl 2 id 1 0 (a ++ q :: b).length none, mods st id (.cells 1 (some (55, 2)) (row Pp.av (a ++ q :: b)))) := by
  subst hna
  have e1 := row_len Pp.len (q :: b)
  have e2 := row_len Pp.len a
  simp only [List.length_cons] at e1
  have e3 : row Pp.av (a ++ q :: b) = row Pp.av a ++ row Pp.av (q :: b) := row_append _ _
  have h1 : (a.length + (b.length + 1)) * 16 ≤ room := by unfold room; omega
  have h2 : a.length + (b.length + 1) ≤ room := by unfold room; omega
  simp [appA, sliceCells, lstA, e1, e2, e3, h1, h2, hg]
section
variable {t : Town} {today : Int} {h : Hd} {plan : List Pp}
theorem isPlanR_bad (hf : t.Fits) (hc : checkB t = false) (st : St) : callE E0 false (.fn 25 [] []) [.agg t.cs, .int .i64 today, lstA h Pp.av plan] st = some (.tup [.bool false, .int .i64 50], st) := by
  rw [callE0 (by decide) (af := A25) rfl rfl]
  have ha := askedR_ev hf
  simp only [Town.cs, hc] at ha
  simp [A25, A25_r0, A25_r1, A25_r2, A25_r3, regionA_st s25_r1, finish, Town.cs, ha]
theorem isPlanR_no (hf : t.Fits) (hc : checkB t = true) (ht : amid today 0 999 = false) (st : St) : callE E0 false (.fn 25 [] []) [.agg t.cs, .int .i64 today, lstA h Pp.av plan] st = some (.tup [.bool false, .int .i64 51], st) := by
  rw [callE0 (by decide) (af := A25) rfl rfl]
  have ha := askedR_ev hf
  simp only [Town.cs, hc] at ha
  simp [A25, A25_r0, A25_r1, A25_r2, A25_r3, regionA_st s25_r1, finish, Town.cs, ha, ht]
theorem isPlanR_ok (hf : t.Fits) (hc : checkB t = true) (ht : amid today 0 999 = true) (hl : plan.length ≤ 9223372036854775807) (st : St) : callE E0 false (.fn 25 [] []) [.agg t.cs, .int .i64 today, lstA h Pp.av plan] st = some (.tup [.bool (planB t today plan), .int .i64 0], st) := by
  rw [callE0 (by decide) (af := A25) rfl rfl]
  have g := good_of hc
  have hpa := (amid_iff.1 g.pause).1
  have ha := askedR_ev hf
  have hap := arePapers_ev hf (h := h) hl
  simp only [Town.cs, hc] at ha hap
  unfold planB
  by_cases h8 : (plan.length : Int) ≤ 8
  · have h8' : ¬ (8 : Int) < plan.length := by omega
    have h8'' : plan.length ≤ 8 := by omega
    cases hal : plan.all (paperB t) with
    | false =>
      have hg : goB t today none plan = false := by
        cases hg : goB t today none plan with
        | false => rfl
        | true =>
          have : plan.all (paperB t) = true := List.all_eq_true.2 (goB_all hg)
          rw [hal] at this; cases this
      simp [A25, A25_r0, A25_r1, A25_r2, A25_r3, A25_r4, A25_r5, regionA_st s25_r1, finish, Town.cs, ha, ht, h8', hap, hal, hg]
    | true =>
      have hall : ∀ p ∈ plan, paperB t p = true := List.all_eq_true.1 hal
      have hlo := isPlanR_loop g.kinds ht (h := h) hl { heap := st.heap, low := st.heap.length } (Nat.le_refl _) plan [] 0 none rfl rfl (.inl ⟨rfl, rfl⟩) hall
      simp only [Town.cs] at hlo
      cases hg : goB t today none plan with
      | false =>
        rw [hg] at hlo
        simp [A25, A25_r0, A25_r1, A25_r2, A25_r3, A25_r4, A25_r5, A25_r6, regionA_st s25_r1, finish, Town.cs, ha, ht, h8', hap, hal, hlo]
      | true =>
        rw [hg] at hlo
        have hjoin : ∀ x ∈ t.held ++ plan, paperB t x = true := fun x hx => by
          rcases List.mem_append.1 hx with hx | hx
          · exact List.all_eq_true.1 g.held x hx
          · exact hall x hx
        have hlen : (t.held ++ plan).length ≤ 9223372036854775807 := by have := g.nh; simp; omega
        have htg := fun (hd : Hd) (s : St) => togetherR_ev g.kinds hpa (h := hd) hlen hjoin s
        have e1 := row_len Pp.len (t.held ++ plan)
        have e2 : ∀ (hp : List AObj) (s d : Nat) (refs : Bool), mapS (AM.settle hp s refs d) (row Pp.av (t.held ++ plan)) = some (row Pp.av (t.held ++ plan), []) := fun hp s d refs => mapS_plain (fun c hc => plainA.scal (row_scal Pp.sc _ c hc) d)
        have e3 : (row Pp.av (t.held ++ plan)).take ((t.held ++ plan).length * 2) = row Pp.av (t.held ++ plan) := List.take_of_length_le (Nat.le_of_eq e1)
        have hnh := g.nh
        cases hh : t.held with
        | nil =>
          have a1 : ∀ s : St, appA 2 55 16 (.lst (some false) true 0 []) (lstA t.hh Pp.av t.held) s = some (.lst (some false) true 0 [], s) := fun s => by
            rw [hh]
            exact appP_nil (nl := some false) (a := []) (.lst (some false) true 0 []) rfl s
          rw [hh] at htg e1 e2 e3
          simp only [List.nil_append] at htg e1 e2 e3
          cases plan with
          | nil =>
            have a2 : ∀ s : St, appA 2 55 16 (.lst (some false) true 0 []) (lstA h Pp.av []) s = some (.lst (some false) true 0 [], s) := fun s => appP_nil (nl := some false) (a := []) (.lst (some false) true 0 []) rfl s
            have htg0 : ∀ s, callE E0 false (.fn 67 [] []) [.agg t.cs, .lst (some false) true 0 []] s = some (.bool (togB t [] []), s) := fun s => htg ⟨some false, true⟩ s
            simp only [Town.cs] at htg0
            simp at hlo
            simp [A25, A25_r0, A25_r1, A25_r2, A25_r3, A25_r4, A25_r5, A25_r6, A25_r11, regionA_st s25_r1, regionA_st s25_r11, finish, Town.cs, ha, ht, hap, hlo, a1, a2, htg0]
          | cons q b =>
            have hb : b.length ≤ 7 := by simp at h8''; omega
            have a2 : ∀ s : St, appA 2 55 16 (.lst (some false) true 0 []) (lstA h Pp.av (q :: b)) s = some (.sl 2 s.heap.length 0 0 (q :: b).length none, { heap := s.heap ++ [.cells 0 (some (55, 2)) (row Pp.av (q :: b))], low := s.low }) := fun s => appP_ev (nl := some false) (a := []) (by simp; omega) s
            have htg0 : ∀ s, callE E0 false (.fn 67 [] []) [.agg t.cs, .lst (some false) false (q :: b).length (row Pp.av (q :: b))] s = some (.bool (togB t [] (q :: b)), s) := fun s => htg ⟨some false, false⟩ s
            simp only [Town.cs, List.length_cons] at htg0 e1 e3
            simp only [List.length_cons, Int.natCast_add, Int.cast_ofNat_Int] at h8' hlo
            simp [A25, A25_r0, A25_r1, A25_r2, A25_r3, A25_r4, A25_r5, A25_r6, A25_r11, regionA_st s25_r1, regionA_st s25_r11, finish, Town.cs, ha, ht, hal, h8', hap, hlo, h8'', hb, a1, a2, htg0, e1, e2, e3, get_app0, set_app0, frz1]
        | cons p ps =>
          have hps : ps.length ≤ 3 := by rw [hh] at hnh; simp at hnh; omega
          have a1 : ∀ s : St, appA 2 55 16 (.lst (some false) true 0 []) (lstA t.hh Pp.av t.held) s = some (.sl 2 s.heap.length 0 0 (p :: ps).length none, { heap := s.heap ++ [.cells 0 (some (55, 2)) (row Pp.av (p :: ps))], low := s.low }) := fun s => by
            rw [hh]
            exact appP_ev (nl := some false) (a := []) (by simp; omega) s
          rw [hh] at htg e1 e2 e3
          cases plan with
          | nil =>
            have a2 : ∀ (id n : Nat) (s : St), appA 2 55 16 (.sl 2 id 0 0 n none) (lstA h Pp.av []) s = some (.sl 2 id 0 0 n none, s) := fun id n s => by simp [appA, sliceCells, lstA, row]
            have htg0 : ∀ s, callE E0 false (.fn 67 [] []) [.agg t.cs, .lst (some false) false (p :: ps).length (row Pp.av (p :: ps))] s = some (.bool (togB t [] (p :: ps)), s) := fun s => by
              have := htg ⟨some false, false⟩ s
              rw [List.append_nil] at this
              exact this
            simp only [List.append_nil] at e1 e2 e3
            simp only [Town.cs, List.length_cons] at htg0 e1 e3
            simp at hlo
            simp [A25, A25_r0, A25_r1, A25_r2, A25_r3, A25_r4, A25_r5, A25_r6, A25_r11, regionA_st s25_r1, regionA_st s25_r11, finish, Town.cs, ha, ht, hap, hlo, a1, a2, htg0, e1, e2, e3, get_app0, set_app0, frz1]
          | cons q b =>
            have hb : b.length ≤ 7 := by simp at h8''; omega
            have a2 : ∀ B : List AObj, ∀ lo : Nat, appA 2 55 16 (.sl 2 B.length 0 0 (ps.length + 1) none) (lstA h Pp.av (q :: b)) { heap := B ++ [.cells 0 (some (55, 2)) (row Pp.av (p :: ps))], low := lo } = some (.sl 2 B.length 1 0 (p :: ps ++ q :: b).length none, { heap := B ++ [.cells 1 (some (55, 2)) (row Pp.av (p :: ps ++ q :: b))], low := min lo B.length }) := fun B lo => by
              rw [appS_ev (a := p :: ps) _ (by simp) (by simp) (by simp; omega)]
              simp [mods, set_app0]
            have htg0 : ∀ s, callE E0 false (.fn 67 [] []) [.agg t.cs, .lst (some false) false (p :: ps ++ q :: b).length (row Pp.av (p :: ps ++ q :: b))] s = some (.bool (togB t [] (p :: ps ++ q :: b)), s) := fun s => htg ⟨some false, false⟩ s
            simp only [Town.cs, List.length_cons, List.length_append, List.cons_append] at htg0 e1 e2 e3 a2
            simp only [List.length_cons, Int.natCast_add, Int.cast_ofNat_Int] at h8' hlo
            simp [A25, A25_r0, A25_r1, A25_r2, A25_r3, A25_r4, A25_r5, A25_r6, A25_r11, regionA_st s25_r1, regionA_st s25_r11, finish, Town.cs, ha, ht, hal, h8', hap, hlo, h8'', hb, a1, a2, htg0, e1, e2, e3, get_app0, set_app0, frz1]
  · have h8' : (8 : Int) < plan.length := by omega
    have h8'' : ¬ plan.length ≤ 8 := by omega
    simp [A25, A25_r0, A25_r1, A25_r2, A25_r3, A25_r4, A25_r5, regionA_st s25_r1, finish, Town.cs, ha, ht, h8', h8'']
end
end Go.Proofs.Tryd

namespace Go.Proofs.Tryd
open Go Go.Proofs.AM

def lackB (t : Town) (all : List Pp) (d : Int) : Bool := !covB t all d || barredB t d
def stL (B : List AObj) (lo : Nat) (outs : List Int) : St := { heap := B ++ dat outs, low := lo }
theorem appL_ev (B : List AObj) (lo : Nat) (hlo : lo ≤ B.length) (outs : List Int) (d : Int) (hb : outs.length ≤ 1000) : appA 1 3 8 (outR B.length outs) (.lst (some false) true 1 [.int .i64 d]) (stL B lo outs) = some (outR B.length (outs ++ [d]), stL B lo (outs ++ [d])) := by
  have hm : min lo B.length = lo := Nat.min_eq_left hlo
  cases outs with
  | nil => simp [appA, sliceCells, outR, stL, dat, alloc, room, row, In.av]
  | cons o os =>
    have hl : (row In.av (o :: os)).length = os.length + 1 := by rw [row_len In.len]; simp
    have ha : row In.av (o :: (os ++ [d])) = row In.av (o :: os) ++ [.int .i64 d] := by rw [← List.cons_append, row_append]; rfl
    simp only [List.length_cons] at hb
    have h1 : (os.length + 1 + 1) * 8 ≤ room := by unfold room; omega
    have h2 : os.length + 1 + 1 ≤ room := by unfold room; omega
    simp [appA, sliceCells, outR, stL, dat, mods, h1, h2, hl, ha, get_app0, set_app0, hm]
section
variable {t : Town}
theorem lacking1_ev (hf : t.Fits) {a : Nat} {p : Pp} (st : St) (ha : st.heap[a]? = some (.cells 0 none t.cs)) : callE E0 false (.fn 70 [] [.ref a 0 0]) [.agg p.av] st = some (.bool (!paperB t p), st) := by
  rw [callE0 (by decide) (af := A70) rfl rfl]
  have hp := isPaper_ev t hf p
  simp only [Town.cs, Pp.av] at hp ha
  simp [A70, A70_r0, A70_r1, finish, Town.cs, Pp.av, ha, hp]
theorem lack_loop (hf : t.Fits) (g : Good t) {m : Nat} {all : List Pp} {ha hw : Hd} {av : AV} {L : List Nat} {B : Bool → List AObj} {n0 lo : Nat} {wanted : List Int}
    (hall : ∀ p ∈ all, paperB t p = true) (hal : all.length ≤ 9223372036854775807) (hwl : wanted.length ≤ 8) (hlo : lo ≤ n0) (hB : ∀ z, (B z).length = n0)
    (hs : ∀ z outs, AM.settle (B z ++ dat outs) 0 true 8 av = some (lstA ha Pp.av all, L)) (hfr : ∀ z outs, frzAll (B z ++ dat outs) L = B true ++ dat outs) :
    ∀ (b a : List Int) (k : Int) (z : Bool) (outs : List Int), k = a.length → wanted = a ++ b → outs.length ≤ a.length →
    ∃ z', loopC E0 [9, 11, 12, 51, 52, 53] [9] A26_l0 { ts := [(9, .loc 9 0), (11, .v av), (12, .v (outR n0 outs)), (51, .v (lstA hw In.av wanted)), (52, .v (.int .i64 wanted.length)), (53, .v (.int .i64 k))], bs := [(9, t.cs ++ [.map m])] } (stL (B z) lo outs)
    = some (.exit 0, { ts := [(9, .loc 9 0), (11, .v av), (12, .v (outR n0 (outs ++ b.filter (lackB t all)))), (51, .v (lstA hw In.av wanted)), (52, .v (.int .i64 wanted.length)), (53, .v (.int .i64 wanted.length)), (54, .v (.bool false))], bs := [(9, t.cs ++ [.map m])] }, stL (B z') lo (outs ++ b.filter (lackB t all)))
  | [], a, k, z, outs, hk, e, _ => by
    simp only [List.append_nil] at e
    subst e hk
    refine ⟨z, ?_⟩
    rw [loopC_eq]
    simp [A26_l0, A26_r8]
  | d :: b, a, k, z, outs, hk, e, ho => by
    subst hk
    have hlt : a.length < wanted.length := by rw [e]; simp
    have hd := drop_ints e
    have hw1 : IntKind.wrap .i64 ((a.length : Int) + 1) = (a.length : Int) + 1 := wrap_small (by omega) (by omega)
    have hcv := covers_ev (m := m) (h := ha) d hal hall g.kinds
    have hba := isBarred_ev (m := m) hf d
    have hs1 := hs z outs
    have hf1 := hfr z outs
    have hst : stL (B z) lo outs = { heap := B z ++ dat outs, low := lo } := rfl
    have hap := appL_ev (B true) lo (by rw [hB]; exact hlo) outs d (by omega)
    rw [hB] at hap
    have hap' : appA 1 3 8 (outR n0 outs) (.lst (some false) true 1 [.int .i64 d]) { heap := B true ++ dat outs, low := lo } = some (outR n0 (outs ++ [d]), { heap := B true ++ dat (outs ++ [d]), low := lo }) := hap
    simp only [Town.cs, List.cons_append, List.nil_append] at hcv hba
    by_cases hlk : lackB t all d = true
    · obtain ⟨z', ih⟩ := lack_loop hf g (m := m) (hw := hw) hall hal hwl hlo hB hs hfr b (a ++ [d]) _ true (outs ++ [d]) rfl (by simp [e]) (by simp; omega)
      refine ⟨z', ?_⟩
      rw [hst, loopC_norm (fr' := { ts := [(9, .loc 9 0), (11, .v av), (12, .v (outR n0 (outs ++ [d]))), (51, .v (lstA hw In.av wanted)), (52, .v (.int .i64 wanted.length)), (53, .v (.int .i64 ((a ++ [d]).length : Int)))], bs := [(9, t.cs ++ [.map m])] }) (st' := stL (B true) lo (outs ++ [d])) (by
        unfold lackB at hlk
        cases h1 : covB t all d with
        | false => simp [A26_l0, A26_r8, A26_r9, A26_r10, A26_r11, A26_r12, hlt, hd, hw1, Town.cs, hs1, hf1, hcv, h1, hap', stL]
        | true =>
          rw [h1] at hlk
          have h2 : barredB t d = true := by simpa using hlk
          simp [A26_l0, A26_r8, A26_r9, A26_r10, A26_r11, A26_r12, hlt, hd, hw1, Town.cs, hs1, hf1, hcv, hba, h1, h2, hap', stL]), ih]
      simp [hlk]
    · obtain ⟨z', ih⟩ := lack_loop hf g (m := m) (hw := hw) hall hal hwl hlo hB hs hfr b (a ++ [d]) _ true outs rfl (by simp [e]) (by simp; omega)
      refine ⟨z', ?_⟩
      rw [hst, loopC_norm (fr' := { ts := [(9, .loc 9 0), (11, .v av), (12, .v (outR n0 outs)), (51, .v (lstA hw In.av wanted)), (52, .v (.int .i64 wanted.length)), (53, .v (.int .i64 ((a ++ [d]).length : Int)))], bs := [(9, t.cs ++ [.map m])] }) (st' := stL (B true) lo outs) (by
        unfold lackB at hlk
        have h1 : covB t all d = true := by simp at hlk; exact hlk.1
        have h2 : barredB t d = false := by simp at hlk; exact hlk.2
        simp [A26_l0, A26_r8, A26_r9, A26_r10, A26_r12, hlt, hd, hw1, Town.cs, hs1, hf1, hcv, hba, h1, h2, stL]), ih]
      simp [hlk]
end
end Go.Proofs.Tryd

namespace Go.Proofs.Tryd
open Go Go.Proofs.AM

attribute [local simp] opsT trOf accOf boxesOf AOp.uses AO.uses objOf heffOf boxOf allPairs befores pairsFrom pairOk AM.ordB hits AX.slot slotsL slotsP AX.slotO Nat.testBit
def rightB (t : Town) (plan : List Pp) : Bool := decide (plan.length ≤ 8) && plan.all (paperB t)
theorem not_any_not {α : Type} {p : α → Bool} : ∀ l : List α, (!(l.any fun x => !p x)) = l.all p
  | [] => rfl
  | x :: l => by
    have := not_any_not (p := p) l
    simp only [List.any_cons, List.all_cons, ← this]
    cases p x <;> simp
section
variable {t : Town} {h hw : Hd} {plan : List Pp} {wanted : List Int}
theorem lacking_contains (hf : t.Fits) (hl : plan.length ≤ 9223372036854775807) (B : List AObj) (lo : Nat) : callE E0 false (.fn 69 [] []) [lstA h Pp.av plan, .fn 70 [] [.ref B.length 0 0]] { heap := B ++ [.cells 0 none t.cs], low := lo } = some (.bool (!plan.all (paperB t)), { heap := B ++ [.cells 0 none t.cs], low := lo }) := by
  have := contains69_ev (h := h) (l := plan) (g := 70) (cl := [.ref B.length 0 0]) (pr := fun p => !paperB t p) (st := { heap := B ++ [.cells 0 none t.cs], low := lo }) hl (fun hp d => by simp) (fun x hx lo => lacking1_ev hf _ (by simp))
  rw [this, ← not_any_not (p := paperB t) plan, Bool.not_not]
theorem lacking_bad (hf : t.Fits) (hc : checkB t = false) (hl : plan.length ≤ 9223372036854775807) (hwl : wanted.length ≤ 9223372036854775807) (st : St) : callE E0 false (.fn 26 [] []) [.agg t.cs, lstA h Pp.av plan, lstA hw In.av wanted] st = some (.tup [.lst (some true) true 0 [], .int .i64 50], st) := by
  rw [callE0 (by decide) (af := A26) rfl rfl]
  have ha := asked_bad hf hc
  have hcn := lacking_contains (h := h) hf hl st.heap
  have haw := areWanted_ev (h := hw) hwl
  simp only [Town.cs, zero7] at ha hcn
  by_cases h8 : (plan.length : Int) ≤ 8
  · cases e1 : wantB wanted <;> cases e2 : plan.all (paperB t) <;> simp only [e1, e2] at haw hcn <;> simp [A26, A26_r0, A26_r1, A26_r2, A26_r3, A26_r4, regionA, finish, Town.cs, alloc, ha, hcn, haw, h8]
  · cases e1 : wantB wanted <;> simp only [e1] at haw <;> simp [A26, A26_r0, A26_r1, A26_r2, A26_r3, A26_r4, regionA, finish, Town.cs, alloc, ha, haw, h8]
theorem lacking_no (hf : t.Fits) (hc : checkB t = true) (hl : plan.length ≤ 9223372036854775807) (hwl : wanted.length ≤ 9223372036854775807) (hr : (wantB wanted && rightB t plan) = false) (st : St) : callE E0 false (.fn 26 [] []) [.agg t.cs, lstA h Pp.av plan, lstA hw In.av wanted] st = some (.tup [.lst (some true) true 0 [], .int .i64 51], st) := by
  rw [callE0 (by decide) (af := A26) rfl rfl]
  have ha := asked_no hf hc
  have hcn := lacking_contains (h := h) hf hl st.heap
  have haw := areWanted_ev (h := hw) hwl
  simp only [Town.cs, zero7] at ha hcn
  unfold rightB at hr
  by_cases h8 : (plan.length : Int) ≤ 8
  · have h8' : plan.length ≤ 8 := by omega
    cases e1 : wantB wanted <;> cases e2 : plan.all (paperB t) <;> simp only [e1, e2] at haw hcn <;> simp [e1, e2, h8'] at hr <;> simp [A26, A26_r0, A26_r1, A26_r2, A26_r3, A26_r4, regionA, finish, Town.cs, alloc, ha, hcn, haw, h8]
  · cases e1 : wantB wanted <;> simp only [e1] at haw <;> simp [A26, A26_r0, A26_r1, A26_r2, A26_r3, A26_r4, regionA, finish, Town.cs, alloc, ha, haw, h8]
set_option maxHeartbeats 1000000 in
theorem lacking_ok (hf : t.Fits) (hc : checkB t = true) (hw1 : wantB wanted = true) (hr : rightB t plan = true) (st : St) : callE E0 false (.fn 26 [] []) [.agg t.cs, lstA h Pp.av plan, lstA hw In.av wanted] st = some (.tup [daysV (wanted.filter (lackB t (t.held ++ plan))), .int .i64 0], st) := by
  rw [callE0 (by decide) (af := A26) rfl rfl]
  have g := good_of hc
  have ha := asked_ok hf hc
  simp only [rightB, Bool.and_eq_true, decide_eq_true_eq] at hr
  have hw8 : wanted.length ≤ 8 := by
    simp only [wantB, Bool.and_eq_true, decide_eq_true_eq] at hw1
    exact hw1.1
  have hcn := lacking_contains (t := t) (plan := plan) (h := h) hf (by omega) st.heap
  have haw := areWanted_ev (h := hw) (l := wanted) (by omega)
  have h8 : (plan.length : Int) ≤ 8 := by omega
  have hsl := slc_full Pp.len (h := t.hh) t.held
  have hnh := g.nh
  have hjoin : ∀ x ∈ t.held ++ plan, paperB t x = true := fun x hx => by
    rcases List.mem_append.1 hx with hx | hx
    · exact List.all_eq_true.1 g.held x hx
    · exact List.all_eq_true.1 hr.2 x hx
  simp only [hw1] at haw
  simp only [hr.2] at hcn
  simp only [Town.cs, List.cons_append, List.nil_append] at ha hcn
  cases plan with
  | nil =>
    have hap := fun s => appP_nil (nl := t.hh.nl) (h := h) (a := t.held) (lstA ⟨t.hh.nl, true⟩ Pp.av t.held) rfl s
    obtain ⟨z', hlp⟩ := lack_loop hf g (m := st.heap.length + 1) (all := t.held) (ha := ⟨t.hh.nl, true⟩) (hw := hw) (av := lstA ⟨t.hh.nl, true⟩ Pp.av t.held) (L := []) (B := fun _ => st.heap ++ [.cells 0 none t.cs, .map []]) (n0 := st.heap.length + 2) (lo := st.heap.length) (wanted := wanted)
      (fun p hp => List.all_eq_true.1 g.held p hp) hf.h hw8 (by omega) (fun _ => by simp) (fun _ _ => by simp) (fun _ _ => rfl) wanted [] 0 true [] rfl rfl (by simp)
    simp only [List.append_nil, List.nil_append] at hlp ⊢
    generalize wanted.filter (lackB t t.held) = outs at hlp ⊢
    simp only [Town.cs, stL, dat, List.append_nil, outR, List.cons_append, List.nil_append] at hlp
    cases outs with
    | nil =>
      simp at hlp
      simp [A26, A26_r0, A26_r1, A26_r2, A26_r3, A26_r4, A26_r5, A26_r6, A26_r7, A26_r13, regionA, finish, Town.cs, alloc, ha, hcn, haw, hsl, hap, hlp, slc0, daysV]
      rfl
    | cons o os =>
      have e1 : (row In.av (o :: os)).length = os.length + 1 := by rw [row_len In.len]; simp
      have e2 : ∀ (hp : List AObj) (s d : Nat) (refs : Bool), mapS (AM.settle hp s refs d) (row In.av (o :: os)) = some (row In.av (o :: os), []) := fun hp s d refs => mapS_plain (fun c hc => plainA.scal (row_scal In.sc _ c hc) d)
      have e3 : (row In.av (o :: os)).take (os.length + 1) = row In.av (o :: os) := List.take_of_length_le (Nat.le_of_eq e1)
      have e4 : ¬ (st.heap.length + 2 < st.heap.length) := by omega
      simp at hlp
      simp [A26, A26_r0, A26_r1, A26_r2, A26_r3, A26_r4, A26_r5, A26_r6, A26_r7, A26_r13, regionA, finish, Town.cs, alloc, ha, hcn, haw, hsl, hap, hlp, slc3, daysV, e1, e2, e3, e4, get_app]
      rfl
  | cons q b =>
    have hb : b.length ≤ 7 := by have := hr.1; simp at this; omega
    have h8b : (b.length : Int) + 1 ≤ 8 := by omega
    have hap := fun s => appP_ev (nl := t.hh.nl) (h := h) (a := t.held) (q := q) (b := b) (by omega) s
    have f1 := row_len Pp.len (t.held ++ q :: b)
    have f2 : ∀ (hp : List AObj) (s d : Nat) (refs : Bool), mapS (AM.settle hp s refs d) (row Pp.av (t.held ++ q :: b)) = some (row Pp.av (t.held ++ q :: b), []) := fun hp s d refs => mapS_plain (fun c hc => plainA.scal (row_scal Pp.sc _ c hc) d)
    have f3 : (row Pp.av (t.held ++ q :: b)).take ((t.held ++ q :: b).length * 2) = row Pp.av (t.held ++ q :: b) := List.take_of_length_le (Nat.le_of_eq f1)
    obtain ⟨z', hlp⟩ := lack_loop hf g (m := st.heap.length + 1) (all := t.held ++ q :: b) (ha := ⟨some false, false⟩) (hw := hw) (av := .sl 2 (st.heap.length + 2) 0 0 (t.held ++ q :: b).length none) (L := [st.heap.length + 2])
      (B := fun z => st.heap ++ [.cells 0 none t.cs, .map [], if z then .frz 0 (row Pp.av (t.held ++ q :: b)) else .cells 0 (some (55, 2)) (row Pp.av (t.held ++ q :: b))]) (n0 := st.heap.length + 3) (lo := st.heap.length) (wanted := wanted)
      hjoin (by simp; omega) hw8 (by omega) (fun _ => by simp)
      (fun z outs => by
        simp only [List.length_append, List.length_cons] at f1 f3
        cases z <;> simp [get_app, f1, f2, f3, lstA])
      (fun z outs => by cases z <;> simp [get_app, set_app, frz1]) wanted [] 0 false [] rfl rfl (by simp)
    simp only [List.nil_append] at hlp
    generalize wanted.filter (lackB t (t.held ++ q :: b)) = outs at hlp ⊢
    simp only [List.length_append, List.length_cons] at f1 f3 hlp
    cases outs with
    | nil =>
      simp [Town.cs, stL, dat, outR] at hlp
      cases z' <;> simp at hlp <;> simp [A26, A26_r0, A26_r1, A26_r2, A26_r3, A26_r4, A26_r5, A26_r6, A26_r7, A26_r13, regionA, finish, Town.cs, alloc, ha, hcn, haw, hsl, hap, hlp, hb, h8b, slc0, daysV] <;> rfl
    | cons o os =>
      have e1 : (row In.av (o :: os)).length = os.length + 1 := by rw [row_len In.len]; simp
      have e2 : ∀ (hp : List AObj) (s d : Nat) (refs : Bool), mapS (AM.settle hp s refs d) (row In.av (o :: os)) = some (row In.av (o :: os), []) := fun hp s d refs => mapS_plain (fun c hc => plainA.scal (row_scal In.sc _ c hc) d)
      have e3 : (row In.av (o :: os)).take (os.length + 1) = row In.av (o :: os) := List.take_of_length_le (Nat.le_of_eq e1)
      have e4 : ¬ (st.heap.length + 3 < st.heap.length) := by omega
      simp [Town.cs, stL, dat, outR] at hlp
      cases z' <;> simp at hlp <;> simp [A26, A26_r0, A26_r1, A26_r2, A26_r3, A26_r4, A26_r5, A26_r6, A26_r7, A26_r13, regionA, finish, Town.cs, alloc, ha, hcn, haw, hsl, hap, hlp, hb, h8b, slc3, daysV, e1, e2, e3, e4, get_app] <;> rfl
end
end Go.Proofs.Tryd

namespace Go.Proofs.Tryd
open Go Go.Proofs.AM

theorem covB_append (t : Town) (a b : List Pp) (d : Int) : covB t (a ++ b) d = (covB t a d || covB t b d) := by simp [covB]
section
variable {t : Town} {h hw : Hd} {plan : List Pp} {wanted : List Int}
theorem lackR_loop (hf : t.Fits) (g : Good t) (hp : ∀ p ∈ plan, paperB t p = true) (hpl : plan.length ≤ 9223372036854775807) (hwl : wanted.length ≤ 8) (B : List AObj) : ∀ (b a : List Int) (k : Int) (outs : List Int), k = a.length → wanted = a ++ b → outs.length ≤ a.length →
    loopC E0 [1, 2, 3, 9, 10] [3] A27_l0 { ts := [(1, .v (lstA h Pp.av plan)), (2, .v (lstA hw In.av wanted)), (3, .loc 3 0), (9, .v (outR B.length outs)), (10, .v (.int .i64 k))], bs := [(3, t.cs)] } (stR B outs)
    = some (.exit 0, { ts := [(1, .v (lstA h Pp.av plan)), (2, .v (lstA hw In.av wanted)), (3, .loc 3 0), (9, .v (outR B.length (outs ++ b.filter (lackB t (t.held ++ plan))))), (10, .v (.int .i64 wanted.length)), (33, .v (.bool false))], bs := [(3, t.cs)] }, stR B (outs ++ b.filter (lackB t (t.held ++ plan))))
  | [], a, k, outs, hk, e, _ => by
    simp only [List.append_nil] at e
    subst e hk
    rw [loopC_eq]
    simp [A27_l0, A27_r8]
  | d :: b, a, k, outs, hk, e, ho => by
    subst hk
    have hlt : a.length < wanted.length := by rw [e]; simp
    have hd := drop_ints e
    have hw1 : IntKind.wrap .i64 ((a.length : Int) + 1) = (a.length : Int) + 1 := wrap_small (by omega) (by omega)
    have c1 := covered_ev (h := t.hh) g.kinds d hf.h (fun p hp => List.all_eq_true.1 g.held p hp)
    have c2 := covered_ev (h := h) g.kinds d hpl hp
    have hba := barredR_ev hf d
    have hap := app_ev B outs d (by omega)
    have hm : min (stR B outs).low (stR B outs).heap.length = (stR B outs).low := by simp [stR]
    simp only [Town.cs] at c1 c2 hba
    have hlk : lackB t (t.held ++ plan) d = (!(covB t t.held d || covB t plan d) || barredB t d) := by rw [lackB, covB_append]
    have ihT := lackR_loop hf g hp hpl hwl B b (a ++ [d]) _ (outs ++ [d]) rfl (by simp [e]) (by simp; omega)
    have ihF := lackR_loop hf g hp hpl hwl B b (a ++ [d]) _ outs rfl (by simp [e]) (by simp; omega)
    have nT : ∀ P : codeE E0 A27_l0 { ts := keepT [(1, .v (lstA h Pp.av plan)), (2, .v (lstA hw In.av wanted)), (3, .loc 3 0), (9, .v (outR B.length outs)), (10, .v (.int .i64 a.length))] [1, 2, 3, 9, 10], bs := keepB [(3, t.cs)] [3] } (stR B outs) = some (.norm, { ts := [(1, .v (lstA h Pp.av plan)), (2, .v (lstA hw In.av wanted)), (3, .loc 3 0), (9, .v (outR B.length (outs ++ [d]))), (10, .v (.int .i64 ((a ++ [d]).length : Int)))], bs := [(3, t.cs)] }, stR B (outs ++ [d])), lackB t (t.held ++ plan) d = true → loopC E0 [1, 2, 3, 9, 10] [3] A27_l0 { ts := [(1, .v (lstA h Pp.av plan)), (2, .v (lstA hw In.av wanted)), (3, .loc 3 0), (9, .v (outR B.length outs)), (10, .v (.int .i64 a.length))], bs := [(3, t.cs)] } (stR B outs)
        = some (.exit 0, { ts := [(1, .v (lstA h Pp.av plan)), (2, .v (lstA hw In.av wanted)), (3, .loc 3 0), (9, .v (outR B.length (outs ++ (d :: b).filter (lackB t (t.held ++ plan))))), (10, .v (.int .i64 wanted.length)), (33, .v (.bool false))], bs := [(3, t.cs)] }, stR B (outs ++ (d :: b).filter (lackB t (t.held ++ plan)))) := by
      intro P hl
      rw [loopC_norm P, ihT]
      simp [hl]
    cases h1 : barredB t d with
    | true =>
      refine nT ?_ (by rw [hlk, h1]; simp)
      simp [A27_l0, A27_r8, A27_r9, A27_r10, A27_r11, regionA_st s27_r10, hm, hlt, hd, hw1, Town.cs, hba, h1, hap]
    | false =>
      cases h2 : covB t t.held d with
      | true =>
        rw [loopC_norm (fr' := { ts := [(1, .v (lstA h Pp.av plan)), (2, .v (lstA hw In.av wanted)), (3, .loc 3 0), (9, .v (outR B.length outs)), (10, .v (.int .i64 ((a ++ [d]).length : Int)))], bs := [(3, t.cs)] }) (st' := stR B outs) (by
          simp [A27_l0, A27_r8, A27_r9, A27_r10, regionA_st s27_r10, hm, hlt, hd, hw1, Town.cs, hba, h1, c1, h2]), ihF]
        simp [hlk, h1, h2]
      | false =>
        cases h3 : covB t plan d with
        | true =>
          rw [loopC_norm (fr' := { ts := [(1, .v (lstA h Pp.av plan)), (2, .v (lstA hw In.av wanted)), (3, .loc 3 0), (9, .v (outR B.length outs)), (10, .v (.int .i64 ((a ++ [d]).length : Int)))], bs := [(3, t.cs)] }) (st' := stR B outs) (by
            simp [A27_l0, A27_r8, A27_r9, A27_r10, regionA_st s27_r10, hm, hlt, hd, hw1, Town.cs, hba, h1, c1, h2, c2, h3]), ihF]
          simp [hlk, h1, h2, h3]
        | false =>
          refine nT ?_ (by rw [hlk, h1, h2, h3]; simp)
          simp [A27_l0, A27_r8, A27_r9, A27_r10, A27_r11, regionA_st s27_r10, hm, hlt, hd, hw1, Town.cs, hba, h1, c1, h2, c2, h3, hap]
theorem lackingR_bad (hf : t.Fits) (hc : checkB t = false) (st : St) : callE E0 false (.fn 27 [] []) [.agg t.cs, lstA h Pp.av plan, lstA hw In.av wanted] st = some (.tup [.lst (some true) true 0 [], .int .i64 50], st) := by
  rw [callE0 (by decide) (af := A27) rfl rfl]
  have ha := checkR_ev hf
  simp only [Town.cs, hc] at ha
  simp [A27, A27_r0, A27_r1, A27_r2, A27_r3, finish, Town.cs, ha]
theorem lackingR_no (hf : t.Fits) (hc : checkB t = true) (hl : plan.length ≤ 9223372036854775807) (hwl : wanted.length ≤ 9223372036854775807) (hr : (wantB wanted && rightB t plan) = false) (st : St) : callE E0 false (.fn 27 [] []) [.agg t.cs, lstA h Pp.av plan, lstA hw In.av wanted] st = some (.tup [.lst (some true) true 0 [], .int .i64 51], st) := by
  rw [callE0 (by decide) (af := A27) rfl rfl]
  have ha := checkR_ev hf
  have hap := arePapers_ev hf (h := h) hl
  have haw := areWantedR_ev (h := hw) hwl
  simp only [Town.cs, hc] at ha hap
  unfold rightB at hr
  cases e1 : wantB wanted with
  | false =>
    simp only [e1] at haw
    simp [A27, A27_r0, A27_r1, A27_r2, A27_r3, A27_r4, A27_r5, finish, Town.cs, ha, haw]
  | true =>
    simp only [e1] at haw
    by_cases h8 : (plan.length : Int) ≤ 8
    · have h8' : plan.length ≤ 8 := by omega
      have h8'' : ¬ (8 : Int) < plan.length := by omega
      have e2 : plan.all (paperB t) = false := by simpa [e1, h8'] using hr
      simp only [e2] at hap
      simp [A27, A27_r0, A27_r1, A27_r2, A27_r3, A27_r4, A27_r5, finish, Town.cs, ha, haw, hap, h8'']
    · have h8'' : (8 : Int) < plan.length := by omega
      simp [A27, A27_r0, A27_r1, A27_r2, A27_r3, A27_r4, A27_r5, finish, Town.cs, ha, haw, h8'']
theorem lackingR_ok (hf : t.Fits) (hc : checkB t = true) (hw1 : wantB wanted = true) (hr : rightB t plan = true) (st : St) : callE E0 false (.fn 27 [] []) [.agg t.cs, lstA h Pp.av plan, lstA hw In.av wanted] st = some (.tup [daysRV (wanted.filter (lackB t (t.held ++ plan))), .int .i64 0], st) := by
  rw [callE0 (by decide) (af := A27) rfl rfl]
  have g := good_of hc
  have ha := checkR_ev hf
  simp only [rightB, Bool.and_eq_true, decide_eq_true_eq] at hr
  have hw8 : wanted.length ≤ 8 := by
    simp only [wantB, Bool.and_eq_true, decide_eq_true_eq] at hw1
    exact hw1.1
  have hap := arePapers_ev hf (h := h) (l := plan) (by omega)
  have haw := areWantedR_ev (h := hw) (l := wanted) (by omega)
  have h8'' : ¬ (8 : Int) < plan.length := by omega
  have hl := lackR_loop (h := h) (hw := hw) hf g (List.all_eq_true.1 hr.2) (by omega) hw8 st.heap wanted [] 0 [] rfl rfl (by simp)
  have e0 : stR st.heap [] = { heap := st.heap, low := st.heap.length } := by simp [stR, dat]
  have e5 : outR st.heap.length [] = .lst (some true) true 0 [] := rfl
  rw [e0, e5] at hl
  simp only [List.nil_append] at hl
  generalize wanted.filter (lackB t (t.held ++ plan)) = outs at hl
  simp only [Town.cs, hc, hw1, hr.2] at ha hl hap haw
  cases outs with
  | nil =>
    simp [A27, A27_r0, A27_r1, A27_r2, A27_r3, A27_r4, A27_r5, A27_r6, A27_r7, A27_r12, finish, Town.cs, ha, hap, haw, h8'', hl, outR, stR, dat, daysRV]
    rfl
  | cons o os =>
    have e1 : (row In.av (o :: os)).length = os.length + 1 := by rw [row_len In.len]; simp
    have e2 : ∀ (hp : List AObj) (s d : Nat) (refs : Bool), mapS (AM.settle hp s refs d) (row In.av (o :: os)) = some (row In.av (o :: os), []) := fun hp s d refs => mapS_plain (fun c hc => plainA.scal (row_scal In.sc _ c hc) d)
    have e3 : (row In.av (o :: os)).take (os.length + 1) = row In.av (o :: os) := List.take_of_length_le (Nat.le_of_eq e1)
    simp [A27, A27_r0, A27_r1, A27_r2, A27_r3, A27_r4, A27_r5, A27_r6, A27_r7, A27_r12, finish, Town.cs, ha, hap, haw, h8'', hl, outR, stR, dat, daysRV, e1, e2, e3, get_app0]
    rfl
theorem isPlan_same (hf : t.Fits) (today : Int) (hl : plan.length ≤ 9223372036854775807) : ∃ (a : Bool) (e : Int), (∀ st, callE E0 false (.fn 24 [] []) [.agg t.cs, .int .i64 today, lstA h Pp.av plan] st = some (.tup [.bool a, .int .i64 e], st)) ∧ ∀ st, callE E0 false (.fn 25 [] []) [.agg t.cs, .int .i64 today, lstA h Pp.av plan] st = some (.tup [.bool a, .int .i64 e], st) := by
  cases hc : checkB t with
  | false => exact ⟨_, _, isPlan_bad hf hc, isPlanR_bad hf hc⟩
  | true =>
    cases ht : amid today 0 999 with
    | false => exact ⟨_, _, isPlan_no hf hc ht, isPlanR_no hf hc ht⟩
    | true => exact ⟨_, _, isPlan_ok hf hc ht hl, isPlanR_ok hf hc ht hl⟩
theorem lacking_same (hf : t.Fits) (hl : plan.length ≤ 9223372036854775807) (hwl : wanted.length ≤ 9223372036854775807) : ∃ (h1 h2 : Hd) (l : List Int) (e : Int), l.length ≤ 9223372036854775807 ∧ (∀ st, callE E0 false (.fn 26 [] []) [.agg t.cs, lstA h Pp.av plan, lstA hw In.av wanted] st = some (.tup [lstA h1 In.av l, .int .i64 e], st)) ∧ ∀ st, callE E0 false (.fn 27 [] []) [.agg t.cs, lstA h Pp.av plan, lstA hw In.av wanted] st = some (.tup [lstA h2 In.av l, .int .i64 e], st) := by
  cases hc : checkB t with
  | false => exact ⟨⟨some true, true⟩, ⟨some true, true⟩, [], _, by simp, lacking_bad hf hc hl hwl, lackingR_bad hf hc⟩
  | true =>
    cases hr : (wantB wanted && rightB t plan) with
    | false => exact ⟨⟨some true, true⟩, ⟨some true, true⟩, [], _, by simp, lacking_no hf hc hl hwl hr, lackingR_no hf hc hl hwl hr⟩
    | true =>
      simp only [Bool.and_eq_true] at hr
      refine ⟨_, _, _, _, ?_, lacking_ok hf hc hr.1 hr.2, lackingR_ok hf hc hr.1 hr.2⟩
      have := List.length_filter_le (lackB t (t.held ++ plan)) wanted
      omega
theorem plansLaw_ev (hf : t.Fits) (today : Int) (hl : plan.length ≤ 9223372036854775807) (hwl : wanted.length ≤ 9223372036854775807) (st : St) : callE E0 false (.fn 4 [] []) [.agg t.cs, .int .i64 today, lstA h Pp.av plan, lstA hw In.av wanted] st = some (.bool true, st) := by
  rw [callE0 (by decide) (af := A4) rfl rfl]
  obtain ⟨a, e, p1, p2⟩ := isPlan_same (h := h) hf today hl
  obtain ⟨h1, h2, l, le, hll, l1, l2⟩ := lacking_same (h := h) (hw := hw) hf hl hwl
  have hs := same_ev (h := h1) (h' := h2) hll
  simp only [Town.cs] at p1 p2 l1 l2
  simp [A4, A4_r0, A4_r1, A4_r2, A4_r3, A4_r4, A4_r5, A4_r6, A4_r7, finish, Town.cs, p1, p2, l1, l2, hs]
end
end Go.Proofs.Tryd

namespace Go.Proofs.Tryd
open Go Go.Proofs.AM

def arr (f : Nat → Int) : List Int := (List.range 1059).map f
theorem arr_len (f : Nat → Int) : (arr f).length = 1059 := by simp [arr]
theorem arr_get (f : Nat → Int) {d : Nat} (hd : d < 1059) : (arr f)[d]? = some (f d) := by simp [arr, hd]
def add (f : Nat → Int) (a b : Int) : Nat → Int := fun i => if a ≤ i ∧ (i : Int) < b then f i + 1 else f i
theorem arr_set (f : Nat → Int) {d : Nat} (hd : d < 1059) : (arr f).set d (f d + 1) = arr (add f d (d + 1)) := by
  apply List.ext_getElem
  · simp [arr]
  · intro i h1 h2
    simp only [List.getElem_set]
    have hi : i < 1059 := by simpa [arr] using h2
    by_cases h : d = i
    · subst h
      simp [arr, add]
      omega
    · have : ¬ ((d : Int) ≤ i ∧ (i : Int) < d + 1) := by omega
      simp [arr, add, h]
      intro h1 h2
      omega
theorem row_set : ∀ {l : List Int} {d : Nat} {v : Int}, d < l.length → (row In.av l).take d ++ [.int .i64 v] ++ (row In.av l).drop (d + 1) = row In.av (l.set d v)
  | [], d, v, h => by simp at h
  | x :: l, 0, v, _ => by simp [row, In.av]
  | x :: l, d + 1, v, h => by
    have := row_set (l := l) (d := d) (v := v) (by simpa using h)
    simp only [row, In.av, List.take_succ_cons, List.cons_append, List.nil_append, List.drop_succ_cons, List.set_cons_succ]
    rw [this]
theorem row_rep : ∀ n : Nat, row In.av (List.replicate n 0) = List.replicate n (.int .i64 0)
  | 0 => rfl
  | n + 1 => by simp [List.replicate_succ, row, In.av, row_rep n]
theorem arr_zero : arr (fun _ => 0) = List.replicate 1059 0 := by
  unfold arr
  rw [List.map_const', List.length_range]
theorem add_add (f : Nat → Int) {a b : Int} (h : a < b) : add (add f a (a + 1)) (a + 1) b = add f a b := by
  funext i
  unfold add
  by_cases h1 : a ≤ i ∧ (i : Int) < a + 1
  · have h2 : ¬ (a + 1 ≤ (i : Int) ∧ (i : Int) < b) := by omega
    have h3 : a ≤ (i : Int) ∧ (i : Int) < b := by omega
    rw [if_neg h2, if_pos h1, if_pos h3]
  · by_cases h2 : a + 1 ≤ (i : Int) ∧ (i : Int) < b
    · have h3 : a ≤ (i : Int) ∧ (i : Int) < b := by omega
      rw [if_pos h2, if_neg h1, if_pos h3]
    · have h3 : ¬ (a ≤ (i : Int) ∧ (i : Int) < b) := by omega
      rw [if_neg h2, if_neg h1, if_neg h3]
theorem add_none (f : Nat → Int) {a b : Int} (h : b ≤ a) : add f a b = f := by
  funext i
  unfold add
  rw [if_neg (by omega)]
theorem add_bound {f : Nat → Int} {c : Int} (hf : ∀ i, 0 ≤ f i ∧ f i ≤ c) (a b : Int) : ∀ i, 0 ≤ add f a b i ∧ add f a b i ≤ c + 1 := by
  intro i
  have := hf i
  unfold add
  split <;> omega
/-- The heap while days are marked. -/
def stM (B : List AObj) (f g : Nat → Int) : St := { heap := B ++ [.cells 0 none (row In.av (arr f)), .cells 0 none (row In.av (arr g))], low := B.length }
theorem storeM1 (B : List AObj) (f g : Nat → Int) {d : Nat} (hd : d < 1059) (bs : Bxs) : storeA 1 (.v (.ref B.length 0 d)) (.int .i64 (f d + 1)) bs (stM B f g) = some (bs, stM B (add f d (d + 1)) g) := by
  have e := row_set (l := arr f) (d := d) (v := f d + 1) (by rw [arr_len]; exact hd)
  rw [arr_set f hd] at e
  have el : (row In.av (arr f)).length = 1059 := by rw [row_len In.len, arr_len]
  have hd' : d + 1 ≤ 1059 := hd
  simp only [List.append_assoc, List.singleton_append] at e
  simp [stM, get_app0, set_app0, mods, el, hd', e]
theorem storeM2 (B : List AObj) (f g : Nat → Int) {d : Nat} (hd : d < 1059) (bs : Bxs) : storeA 1 (.v (.ref (B.length + 1) 0 d)) (.int .i64 (g d + 1)) bs (stM B f g) = some (bs, stM B f (add g d (d + 1))) := by
  have e := row_set (l := arr g) (d := d) (v := g d + 1) (by rw [arr_len]; exact hd)
  rw [arr_set g hd] at e
  have el : (row In.av (arr g)).length = 1059 := by rw [row_len In.len, arr_len]
  have hd' : d + 1 ≤ 1059 := hd
  have hm : min B.length (B.length + 1) = B.length := by omega
  simp only [List.append_assoc, List.singleton_append] at e
  simp [stM, get_app, set_app, mods, el, hd', e, hm]
theorem readM1 (B : List AObj) (f g : Nat → Int) {d : Nat} (hd : d < 1059) : ∃ r, (stM B f g).heap[B.length]? = some (.cells 0 none (row In.av (arr f))) ∧ (row In.av (arr f)).drop d = .int .i64 (f d) :: r := by
  have := row_get In.len (arr_get f hd)
  rw [Nat.mul_one] at this
  exact ⟨_, by simp [stM, get_app0], this⟩
theorem readM2 (B : List AObj) (f g : Nat → Int) {d : Nat} (hd : d < 1059) : ∃ r, (stM B f g).heap[B.length + 1]? = some (.cells 0 none (row In.av (arr g))) ∧ (row In.av (arr g)).drop d = .int .i64 (g d) :: r := by
  have := row_get In.len (arr_get g hd)
  rw [Nat.mul_one] at this
  exact ⟨_, by simp [stM, get_app], this⟩
section
variable {t : Town} {h : Hd} {l : List Pp}
theorem marks_in (gp : amid t.pause 0 20 = true) (gk : t.kinds.all kdB = true) {p : Pp} {a b : List Pp} (hp : paperB t p = true) (e : l = a ++ p :: b) (hl : l.length ≤ 1000) (B : List AObj) {c : Int} (hc : c ≤ 10000) : ∀ (r : Nat) (d : Int) (f g : Nat → Int), d + r = p.first + daysOf t p + t.pause → p.first ≤ d → (∀ i, 0 ≤ f i ∧ f i ≤ c + 2000 - r) → (∀ i, 0 ≤ g i ∧ g i ≤ c + 2000 - r) →
    loopC E0 [1, 2, 7, 8, 9, 10, 11] [2] A37_l0 { ts := [(1, .v (lstA h Pp.av l)), (2, .loc 2 0), (7, .v (.sl 1 B.length 0 0 1059 (some 1059))), (8, .v (.sl 1 (B.length + 1) 0 0 1059 (some 1059))), (9, .v (.int .i64 a.length)), (10, .v (.int .i64 (daysOf t p))), (11, .v (.int .i64 d))], bs := [(2, t.cs)] } (stM B f g)
    = some (.exit 2, { ts := [(1, .v (lstA h Pp.av l)), (2, .loc 2 0), (7, .v (.sl 1 B.length 0 0 1059 (some 1059))), (8, .v (.sl 1 (B.length + 1) 0 0 1059 (some 1059))), (9, .v (.int .i64 a.length)), (10, .v (.int .i64 (daysOf t p))), (11, .v (.int .i64 (p.first + daysOf t p + t.pause))), (48, .v (.bool false))], bs := [(2, t.cs)] },
        stM B (add f d (p.first + daysOf t p)) (add g d (p.first + daysOf t p + t.pause))) := by
  intro r
  obtain ⟨kk, e1, hkd, e2, k0, k1, f0, f1⟩ := kd_of hp gk
  simp only [kdB, Bool.and_eq_true, amid_iff] at hkd
  have gp' := amid_iff.1 gp
  have hlt : a.length < l.length := by rw [e]; simp
  have hd : (row Pp.av l).drop (a.length * 2) = Pp.av p ++ row Pp.av b := by rw [e, row_drop Pp.len]; rfl
  have w1 : IntKind.wrap .i64 (p.first + daysOf t p) = p.first + daysOf t p := wrap_small (by omega) (by omega)
  have w2 : IntKind.wrap .i64 (p.first + daysOf t p + t.pause) = p.first + daysOf t p + t.pause := wrap_small (by omega) (by omega)
  induction r with
  | zero =>
    intro d f g hr hd0 hf hg
    have e3 : d = p.first + daysOf t p + t.pause := by omega
    have hm : ∀ f g, min (stM B f g).low (stM B f g).heap.length = (stM B f g).low := fun f g => by simp [stM]
    rw [loopC_eq, add_none f (by omega), add_none g (by omega), e3]
    simp [A37_l0, A37_r8, regionA_st s37_r8, hm, hlt, hd, Pp.av, Town.cs, w1, w2]
  | succ r ih =>
    intro d f g hr hd0 hf hg
    obtain ⟨dn, hdn⟩ : ∃ dn : Nat, (dn : Int) = d := ⟨d.toNat, by omega⟩
    subst hdn
    have hlt2 : dn < 1059 := by omega
    have hlt3 : (dn : Int) < p.first + daysOf t p + t.pause := by omega
    have hlt4 : (dn : Int) < 1059 := by omega
    have hm : ∀ f g, min (stM B f g).low (stM B f g).heap.length = (stM B f g).low := fun f g => by simp [stM]
    have w3 : IntKind.wrap .i64 ((dn : Int) + 1) = (dn : Int) + 1 := wrap_small (by omega) (by omega)
    have w4 : IntKind.wrap .i64 (f dn + 1) = f dn + 1 := by have := hf dn; exact wrap_small (by omega) (by omega)
    have w5 : IntKind.wrap .i64 (g dn + 1) = g dn + 1 := by have := hg dn; exact wrap_small (by omega) (by omega)
    obtain ⟨r1, q1, q2⟩ := readM1 B f g hlt2
    have s1 := storeM1 B f g hlt2
    have hg' : ∀ i, 0 ≤ add g dn (dn + 1) i ∧ add g dn (dn + 1) i ≤ c + 2000 - r := fun i => by
      have := add_bound hg dn (dn + 1) i
      omega
    by_cases hin : (dn : Int) < p.first + daysOf t p
    · obtain ⟨r2, q3, q4⟩ := readM2 B (add f dn (dn + 1)) g hlt2
      have s2 := storeM2 B (add f dn (dn + 1)) g hlt2
      have hf' : ∀ i, 0 ≤ add f dn (dn + 1) i ∧ add f dn (dn + 1) i ≤ c + 2000 - r := fun i => by
        have := add_bound hf dn (dn + 1) i
        omega
      rw [loopC_norm (fr' := { ts := [(1, .v (lstA h Pp.av l)), (2, .loc 2 0), (7, .v (.sl 1 B.length 0 0 1059 (some 1059))), (8, .v (.sl 1 (B.length + 1) 0 0 1059 (some 1059))), (9, .v (.int .i64 a.length)), (10, .v (.int .i64 (daysOf t p))), (11, .v (.int .i64 ((dn : Int) + 1)))], bs := [(2, t.cs)] }) (st' := stM B (add f dn (dn + 1)) (add g dn (dn + 1))) (by
          simp [A37_l0, A37_r8, A37_r9, A37_r10, A37_r11, A37_r12, regionA_st s37_r8, hm, hlt, hlt2, hlt3, hlt4, hd, Pp.av, Town.cs, w1, w2, w3, w4, w5, hin, q1, q2, q3, q4, ↓s1, ↓s2]), ih _ _ _ (by omega) (by omega) hf' hg', add_add f hin, add_add g hlt3]
    · obtain ⟨r2, q3, q4⟩ := readM2 B f g hlt2
      have s2 := storeM2 B f g hlt2
      rw [loopC_norm (fr' := { ts := [(1, .v (lstA h Pp.av l)), (2, .loc 2 0), (7, .v (.sl 1 B.length 0 0 1059 (some 1059))), (8, .v (.sl 1 (B.length + 1) 0 0 1059 (some 1059))), (9, .v (.int .i64 a.length)), (10, .v (.int .i64 (daysOf t p))), (11, .v (.int .i64 ((dn : Int) + 1)))], bs := [(2, t.cs)] }) (st' := stM B f (add g dn (dn + 1))) (by
          simp [A37_l0, A37_r8, A37_r9, A37_r10, A37_r11, A37_r12, regionA_st s37_r8, hm, hlt, hlt2, hlt3, hlt4, hd, Pp.av, Town.cs, w1, w2, w3, w4, w5, hin, q3, q4, ↓s2]), ih _ _ _ (by omega) (by omega) (fun i => by have := hf i; omega) hg', add_add g hlt3, add_none f (by omega), add_none f (by omega)]
end
end Go.Proofs.Tryd

namespace Go.Proofs.Tryd
open Go Go.Proofs.AM

def marksD (t : Town) : (Nat → Int) → List Pp → (Nat → Int)
  | f, [] => f
  | f, p :: l => marksD t (add f p.first (p.first + daysOf t p)) l
def marksP (t : Town) : (Nat → Int) → List Pp → (Nat → Int)
  | f, [] => f
  | f, p :: l => marksP t (add f p.first (p.first + daysOf t p + t.pause)) l
def arrV (f : Nat → Int) : AV := .lst (some false) true 1059 (row In.av (arr f))
section
variable {t : Town} {h : Hd} {l : List Pp}
theorem marks_out (gp : amid t.pause 0 20 = true) (gk : t.kinds.all kdB = true) (hl : l.length ≤ 1000) (B : List AObj) : ∀ (b a : List Pp) (k : Int) (f g : Nat → Int), k = a.length → l = a ++ b → (∀ p ∈ b, paperB t p = true) → (∀ i, 0 ≤ f i ∧ f i ≤ a.length) → (∀ i, 0 ≤ g i ∧ g i ≤ a.length) →
    loopC E0 [1, 2, 7, 8, 9] [2] A37_l1 { ts := [(1, .v (lstA h Pp.av l)), (2, .loc 2 0), (7, .v (.sl 1 B.length 0 0 1059 (some 1059))), (8, .v (.sl 1 (B.length + 1) 0 0 1059 (some 1059))), (9, .v (.int .i64 k))], bs := [(2, t.cs)] } (stM B f g)
    = some (.exit 0, { ts := [(1, .v (lstA h Pp.av l)), (2, .loc 2 0), (7, .v (.sl 1 B.length 0 0 1059 (some 1059))), (8, .v (.sl 1 (B.length + 1) 0 0 1059 (some 1059))), (9, .v (.int .i64 l.length)), (19, .v (.bool false))], bs := [(2, t.cs)] }, stM B (marksD t f b) (marksP t g b))
  | [], a, k, f, g, hk, e, _, _, _ => by
    simp only [List.append_nil] at e
    subst e hk
    rw [loopC_eq]
    simp [A37_l1, A37_r4, marksD, marksP]
  | p :: b, a, k, f, g, hk, e, hall, hf, hg => by
    subst hk
    have hp := hall p (by simp)
    obtain ⟨kk, e1, hkd, e2, k0, k1, f0, f1⟩ := kd_of hp gk
    have hdk := row_get Kd.len e1
    simp only [kdB, Bool.and_eq_true, amid_iff] at hkd
    have gp' := amid_iff.1 gp
    have hlt : a.length < l.length := by rw [e]; simp
    have hd : (row Pp.av l).drop (a.length * 2) = Pp.av p ++ row Pp.av b := by rw [e, row_drop Pp.len]; rfl
    have hw : IntKind.wrap .i64 ((a.length : Int) + 1) = (a.length : Int) + 1 := wrap_small (by omega) (by omega)
    have hm : min (stM B f g).low (stM B f g).heap.length = (stM B f g).low := by simp [stM]
    have hin := marks_in (h := h) gp gk hp e hl B (c := a.length) (by omega) (daysOf t p + t.pause).toNat p.first f g (by omega) (by omega) (fun i => by have := hf i; omega) (fun i => by have := hg i; omega)
    have ih := marks_out gp gk hl B b (a ++ [p]) _ (add f p.first (p.first + daysOf t p)) (add g p.first (p.first + daysOf t p + t.pause)) rfl (by simp [e]) (fun x hx => hall x (by simp [hx]))
      (fun i => by have := add_bound hf p.first (p.first + daysOf t p) i; simp; omega) (fun i => by have := add_bound hg p.first (p.first + daysOf t p + t.pause) i; simp; omega)
    simp only [Town.cs, e2] at hin
    rw [loopC_norm (fr' := { ts := [(1, .v (lstA h Pp.av l)), (2, .loc 2 0), (7, .v (.sl 1 B.length 0 0 1059 (some 1059))), (8, .v (.sl 1 (B.length + 1) 0 0 1059 (some 1059))), (9, .v (.int .i64 ((a ++ [p]).length : Int)))], bs := [(2, t.cs)] }) (st' := stM B (add f p.first (p.first + daysOf t p)) (add g p.first (p.first + daysOf t p + t.pause))) (by
      simp [A37_l1, A37_r4, A37_r5, A37_r6, A37_r7, regionA_st s37_r6, hm, hlt, hd, hw, Pp.av, Town.cs, k0, k1, hdk, Kd.av, hin, e2]), ih]
    simp [marksD, marksP]
theorem marks_ev (gp : amid t.pause 0 20 = true) (gk : t.kinds.all kdB = true) (hl : l.length ≤ 1000) (hall : ∀ p ∈ l, paperB t p = true) (st : St) : callE E0 false (.fn 37 [] []) [.agg t.cs, lstA h Pp.av l] st = some (.tup [arrV (marksD t (fun _ => 0) l), arrV (marksP t (fun _ => 0) l)], st) := by
  rw [callE0 (by decide) (af := A37) rfl rfl]
  have ho := marks_out (h := h) gp gk hl st.heap l [] 0 (fun _ => 0) (fun _ => 0) rfl rfl hall (by simp) (by simp)
  have e0 : stM st.heap (fun _ => 0) (fun _ => 0) = { heap := st.heap ++ [.cells 0 none (List.replicate 1059 (.int .i64 0)), .cells 0 none (List.replicate 1059 (.int .i64 0))], low := st.heap.length } := by
    rw [stM, arr_zero, row_rep]
  rw [e0] at ho
  generalize hF : marksD t (fun _ => 0) l = F at ho
  generalize hG : marksP t (fun _ => 0) l = G' at ho
  simp only [Town.cs] at ho
  have el : ∀ f, (row In.av (arr f)).length = 1059 := fun f => by rw [row_len In.len, arr_len]
  have e2 : ∀ (f : Nat → Int) (hp : List AObj) (s d : Nat) (refs : Bool), mapS (AM.settle hp s refs d) (row In.av (arr f)) = some (row In.av (arr f), []) := fun f hp s d refs => mapS_plain (fun c hc => plainA.scal (row_scal In.sc _ c hc) d)
  have e3 : ∀ f, (row In.av (arr f)).take 1059 = row In.av (arr f) := fun f => List.take_of_length_le (Nat.le_of_eq (el f))
  have r1 : (8472 : Int) ≤ (room : Int) := by unfold room; omega
  have r2 : (1059 : Int) ≤ (room : Int) := by unfold room; omega
  have e4 : ¬ (st.heap.length + 1 < st.heap.length) := by omega
  simp [A37, A37_r0, A37_r1, A37_r2, A37_r3, A37_r13, regionA_st s37_r2, finish, Town.cs, alloc, ho, stM, el, e2, e3, r1, r2, arrV, get_app0, get_app, e4, -List.reduceReplicate]
theorem bars_loop (hf : t.Fits) {d : Int} (st : St) : ∀ (b a : List Sp) (k : Int), k = a.length → t.barred = a ++ b →
    loopC E0 [1, 2, 5] [2] A39_l0 { ts := [(1, .v (.int .i64 d)), (2, .loc 2 0), (5, .v (.int .i64 k))], bs := [(2, t.cs)] } st
    = if b.any (fun s => amid d s.low s.high) = true then some (.ret, { ts := [(4, .v (.bool true))], bs := [] }, st)
      else some (.exit 0, { ts := [(1, .v (.int .i64 d)), (2, .loc 2 0), (5, .v (.int .i64 t.barred.length)), (10, .v (.bool false))], bs := [(2, t.cs)] }, st)
  | [], a, k, hk0, e => by
    simp only [List.append_nil] at e
    subst hk0
    rw [loopC_eq]
    simp [A39_l0, A39_r2, Town.cs, e]
  | x :: b, a, k, hk0, e => by
    subst hk0
    have hlt : a.length < t.barred.length := by rw [e]; simp
    have hd : (row Sp.av t.barred).drop (a.length * 2) = Sp.av x ++ row Sp.av b := by rw [e, row_drop Sp.len]; rfl
    have hw : IntKind.wrap .i64 ((a.length : Int) + 1) = (a.length : Int) + 1 := wrap_small (by omega) (by have := hf.b; omega)
    have ih := bars_loop hf (d := d) st b (a ++ [x]) _ rfl (by simp [e])
    by_cases h1 : x.low ≤ d
    · by_cases h2 : d ≤ x.high
      · have hc : amid d x.low x.high = true := amid_iff.2 ⟨h1, h2⟩
        rw [loopC_eq]
        simp [A39_l0, A39_r2, A39_r3, A39_r4, A39_r5, hlt, hd, hw, Sp.av, Town.cs, h1, h2, hc]
      · have hc : amid d x.low x.high = false := by simp [amid, h2]
        rw [loopC_norm (fr' := { ts := [(1, .v (.int .i64 d)), (2, .loc 2 0), (5, .v (.int .i64 ((a ++ [x]).length : Int)))], bs := [(2, t.cs)] }) (st' := st) (by
          simp [A39_l0, A39_r2, A39_r3, A39_r4, A39_r5, hlt, hd, hw, Sp.av, Town.cs, h1, h2]), ih]
        simp [hc]
    · have hc : amid d x.low x.high = false := by simp [amid, h1]
      rw [loopC_norm (fr' := { ts := [(1, .v (.int .i64 d)), (2, .loc 2 0), (5, .v (.int .i64 ((a ++ [x]).length : Int)))], bs := [(2, t.cs)] }) (st' := st) (by
        simp [A39_l0, A39_r2, A39_r3, A39_r4, A39_r5, hlt, hd, hw, Sp.av, Town.cs, h1]), ih]
      simp [hc]
theorem bars_ev (hf : t.Fits) (d : Int) (st : St) : callE E0 false (.fn 39 [] []) [.agg t.cs, .int .i64 d] st = some (.bool (barredB t d), st) := by
  rw [callE0 (by decide) (af := A39) rfl rfl]
  have ho := bars_loop hf (d := d) { st with low := st.heap.length } t.barred [] 0 rfl rfl
  simp only [Town.cs] at ho
  cases hb : barredB t d with
  | true =>
    rw [if_pos (show (t.barred.any fun s => amid d s.low s.high) = true from hb)] at ho
    simp [A39, A39_r0, A39_r1, A39_r6, finish, Town.cs, ho]
  | false =>
    rw [if_neg (show ¬ (t.barred.any fun s => amid d s.low s.high) = true from fun hn => by rw [show barredB t d = true from hn] at hb; cases hb)] at ho
    simp [A39, A39_r0, A39_r1, A39_r6, finish, Town.cs, ho]
/-- A day is marked just if a licence covers it. -/
theorem marksD_pos (gk : t.kinds.all kdB = true) {d : Nat} : ∀ {l : List Pp} {f : Nat → Int}, (∀ p ∈ l, paperB t p = true) → 0 ≤ f d → (0 < marksD t f l d ↔ 0 < f d ∨ covB t l d = true) ∧ 0 ≤ marksD t f l d
  | [], f, _, h0 => by simp [marksD, covB, h0]
  | p :: l, f, hall, h0 => by
    have hp := hall p (by simp)
    have h1 : 0 ≤ add f p.first (p.first + daysOf t p) d := by unfold add; split <;> omega
    have ih := marksD_pos gk (l := l) (fun x hx => hall x (by simp [hx])) h1
    simp only [marksD]
    refine ⟨ih.1.trans ?_, ih.2⟩
    have hc : covB t (p :: l) d = (amid d p.first (endB t p) || covB t l d) := by simp [covB]
    rw [hc]
    have ha : amid d p.first (endB t p) = true ↔ p.first ≤ d ∧ (d : Int) < p.first + daysOf t p := by
      rw [amid_iff, endB]
      omega
    rw [Bool.or_eq_true, ha]
    unfold add
    by_cases hin : p.first ≤ d ∧ (d : Int) < p.first + daysOf t p
    · rw [if_pos hin]
      constructor
      · intro _; exact .inr (.inl hin)
      · intro _; exact .inl (by omega)
    · rw [if_neg hin]
      constructor
      · rintro (h | h)
        · exact .inl h
        · exact .inr (.inr h)
      · rintro (h | h | h)
        · exact .inl h
        · exact absurd h hin
        · exact .inr h
end
end Go.Proofs.Tryd

namespace Go.Proofs.Tryd
open Go Go.Proofs.AM

section
variable {t : Town} {hd : Hd}
theorem arrV_len (f : Nat → Int) : lenA (arrV f) = some (.int .i64 1059) := rfl
theorem fine_loop (hf : t.Fits) (g : Good t) {day hi : Int} {L : List Int} (h0 : 0 ≤ day) (h9 : day ≤ 999) (hh : (if day + 40 < 999 then day + 40 else 999) = hi) (hh9 : hi ≤ 999) (hL : L.length ≤ 1000) (st : St) : ∀ (r : Nat) (d : Int) (pre : List Int) (k : Int), k = pre.length → d + r = hi + 1 → day ≤ d → L = pre ++ daysL t r d →
    loopC E0 [2, 5, 10, 13, 17, 18] [2] A7_l0 { ts := [(2, .loc 2 0), (5, .v (.int .i64 day)), (10, .v (arrV (marksD t (fun _ => 0) t.held))), (13, .v (lstA hd In.av L)), (17, .v (.int .i64 k)), (18, .v (.int .i64 d))], bs := [(2, t.cs)] } st
    = some (.exit 0, { ts := [(2, .loc 2 0), (5, .v (.int .i64 day)), (10, .v (arrV (marksD t (fun _ => 0) t.held))), (13, .v (lstA hd In.av L)), (17, .v (.int .i64 L.length)), (18, .v (.int .i64 (hi + 1))), (121, .v (.bool false))], bs := [(2, t.cs)] }, st) := by
  have w40 : IntKind.wrap .i64 (day + 40) = day + 40 := wrap_small (by omega) (by omega)
  intro r
  induction r with
  | zero =>
    intro d pre k hk hr hd0 e
    have e1 : d = hi + 1 := by omega
    simp only [daysL, List.append_nil] at e
    subst e1 hk e
    have hne : ¬ hi + 1 ≤ hi := by omega
    rw [loopC_eq]
    simp [A7_l0, A7_r21, w40, hh, hne]
  | succ r ih =>
    intro d pre k hk hr hd0 e
    subst hk
    obtain ⟨dn, hdn⟩ : ∃ dn : Nat, (dn : Int) = d := ⟨d.toNat, by omega⟩
    subst hdn
    have hle : (dn : Int) ≤ hi := by omega
    have hlt : dn < 1059 := by omega
    have hlt' : (dn : Int) < 1059 := by omega
    have hb := bars_ev hf (dn : Int)
    have hpos := marksD_pos (t := t) g.kinds (d := dn) (l := t.held) (f := fun _ => 0) (fun p hp => List.all_eq_true.1 g.held p hp) (by simp)
    have hrd := row_get In.len (arr_get (marksD t (fun _ => 0) t.held) hlt)
    rw [Nat.mul_one] at hrd
    have w1 : IntKind.wrap .i64 ((dn : Int) + 1) = (dn : Int) + 1 := wrap_small (by omega) (by omega)
    have hpl : pre.length ≤ L.length := by rw [e]; simp
    have w2 : IntKind.wrap .i64 ((pre.length : Int) + 1) = (pre.length : Int) + 1 := wrap_small (by omega) (by omega)
    simp only [Town.cs] at hb
    generalize hF : marksD t (fun _ => 0) t.held = F at hpos hrd ih ⊢
    simp only [Int.lt_irrefl, false_or] at hpos
    cases hc : covB t t.held dn with
    | false =>
      have hz : ¬ 0 < F dn := fun hp => by rw [hpos.1.1 hp] at hc; cases hc
      have hdb : dayB t dn = false := by simp [dayB, hc]
      simp only [daysL, hdb] at e
      rw [loopC_norm (fr' := { ts := [(2, .loc 2 0), (5, .v (.int .i64 day)), (10, .v (arrV F)), (13, .v (lstA hd In.av L)), (17, .v (.int .i64 pre.length)), (18, .v (.int .i64 ((dn : Int) + 1)))], bs := [(2, t.cs)] }) (st' := st) (by
        simp [A7_l0, A7_r21, A7_r22, A7_r23, w40, hh, hle, arrV, hlt, hlt', hrd, In.av, hz, w1, Town.cs]), ih ((dn : Int) + 1) pre _ rfl (by omega) (by omega) (by simpa using e)]
    | true =>
      have hz : 0 < F dn := hpos.1.2 hc
      cases hbb : barredB t dn with
      | true =>
        have hdb : dayB t dn = false := by simp [dayB, hc, hbb]
        simp only [daysL, hdb] at e
        rw [loopC_norm (fr' := { ts := [(2, .loc 2 0), (5, .v (.int .i64 day)), (10, .v (arrV F)), (13, .v (lstA hd In.av L)), (17, .v (.int .i64 pre.length)), (18, .v (.int .i64 ((dn : Int) + 1)))], bs := [(2, t.cs)] }) (st' := st) (by
          simp [A7_l0, A7_r21, A7_r22, A7_r23, w40, hh, hle, arrV, hlt, hlt', hrd, In.av, hz, w1, Town.cs, hb, hbb]), ih ((dn : Int) + 1) pre _ rfl (by omega) (by omega) (by simpa using e)]
      | false =>
        have hdb : dayB t dn = true := by simp [dayB, hc, hbb]
        simp only [daysL, hdb, if_true] at e
        have hdl := drop_ints e
        have hll : pre.length < L.length := by rw [e]; simp
        have hll' : ¬ L.length ≤ pre.length := by omega
        rw [loopC_norm (fr' := { ts := [(2, .loc 2 0), (5, .v (.int .i64 day)), (10, .v (arrV F)), (13, .v (lstA hd In.av L)), (17, .v (.int .i64 ((pre ++ [(dn : Int)]).length : Int))), (18, .v (.int .i64 ((dn : Int) + 1)))], bs := [(2, t.cs)] }) (st' := st) (by
          simp [A7_l0, A7_r21, A7_r22, A7_r23, A7_r24, A7_r25, A7_r26, w40, hh, hle, arrV, hlt, hlt', hrd, In.av, hz, w1, w2, Town.cs, hb, hbb, hll, hll', hdl]), ih ((dn : Int) + 1) (pre ++ [(dn : Int)]) _ rfl (by omega) (by omega) (by rw [e]; simp)]
end
end Go.Proofs.Tryd

namespace Go.Proofs.Tryd
open Go Go.Proofs.AM

theorem iaddr_arrV (f : Nat → Int) (i : Int) : iaddrA 1 (arrV f) i = if 0 ≤ i ∧ i < 1059 then some (.v (.pl ((row In.av (arr f)).drop (i.toNat * 1)))) else none := rfl
section
variable {t : Town}
set_option maxHeartbeats 4000000 in
theorem fineLaw_ev (hf : t.Fits) (n0 n1 n2 : Int) (st : St) : callE E0 false (.fn 7 [] []) [.agg t.cs, .agg [.int .i64 n0, .int .i64 n1, .int .i64 n2]] st = some (.bool true, st) := by
  rw [callE0 (by decide) (af := A7) rfl rfl]
  have t0 := fun st => turn_ev (x := n0) (n := 1000) (by omega) (by omega) st
  have t1 := fun st => turn_ev (x := n1) (n := 16) (by omega) (by omega) st
  have t2 := fun st => turn_ev (x := n2) (n := 1440) (by omega) (by omega) st
  have r0 := turnI_range (x := n0) (n := 1000) (by omega)
  have r1 := turnI_range (x := n1) (n := 16) (by omega)
  have r2 := turnI_range (x := n2) (n := 1440) (by omega)
  generalize turnI n0 1000 = day at t0 r0
  generalize turnI n1 16 = film at t1 r1
  generalize turnI n2 1440 = minute at t2 r2
  have hso := fun st => sound_ev hf st
  simp only [Town.cs] at hso
  cases hc : checkB t with
  | false =>
    have hwhy := why_bad (day := day) (film := film) (minute := minute) hf hc
    simp only [Town.cs, hc] at hwhy hso
    simp [A7, A7_r0, A7_r1, A7_r2, A7_r3, A7_r4, regionA_st s7_r1, finish, Town.cs, t0, t1, t2, hwhy, hso]
  | true =>
    have g := good_of hc
    have d1 : amid day 0 999 = true := amid_iff.2 (by omega)
    have d2 : amid film 0 15 = true := amid_iff.2 (by omega)
    have d3 : amid minute 0 1439 = true := amid_iff.2 (by omega)
    have hwhy := why_ok (day := day) (film := film) (minute := minute) hf hc d1 d2 d3
    have hma := marks_ev (t := t) (h := t.hh) (l := t.held) g.pause g.kinds (by have := g.nh; omega) (fun p hp => List.all_eq_true.1 g.held p hp)
    have hbi := fun st => bit_ev (x := t.forb) (i := film) r1.1 st
    have hba := bars_ev hf day
    have w40 : IntKind.wrap .i64 (day + 40) = day + 40 := wrap_small (by omega) (by omega)
    obtain ⟨hi, hh, hh1, hh9⟩ : ∃ hi, (if day + 40 < 999 then day + 40 else 999) = hi ∧ day ≤ hi ∧ hi ≤ 999 := ⟨_, rfl, by split <;> omega, by split <;> omega⟩
    have hsp1 : span day hi 0 999 = true := by simp [span]; omega
    have hsp2 : span day day 0 999 = true := by simp [span]; omega
    have hD1 := days_ok hf hc hsp1
    have hD2 := days_ok hf hc hsp2
    obtain ⟨dn, hdn⟩ : ∃ dn : Nat, (dn : Int) = day := ⟨day.toNat, by omega⟩
    have hlt : dn < 1059 := by omega
    have hlt' : (dn : Int) < 1059 := by omega
    have hpos := marksD_pos (t := t) g.kinds (d := dn) (l := t.held) (f := fun _ => 0) (fun p hp => List.all_eq_true.1 g.held p hp) (by simp)
    have hrd := row_get In.len (arr_get (marksD t (fun _ => 0) t.held) hlt)
    rw [Nat.mul_one] at hrd
    have hLlen : (daysL t (hi - day + 1).toNat day).length ≤ 1000 := by have := daysL_len t (hi - day + 1).toNat day; omega
    have hlo := fine_loop (hd := ⟨some (daysL t (hi - day + 1).toNat day).isEmpty, true⟩) hf g (by omega) (by omega) hh hh9 hLlen { st with low := st.heap.length } (hi - day + 1).toNat day [] 0 rfl (by omega) (by omega) rfl
    have e1 : (day - day + 1).toNat = 1 := by omega
    rw [e1] at hD2
    generalize hF : marksD t (fun _ => 0) t.held = F at hpos hrd hlo hma
    generalize marksP t (fun _ => 0) t.held = G' at hma
    generalize daysL t (hi - day + 1).toNat day = L at hD1 hlo
    subst hdn
    simp only [Int.lt_irrefl, false_or] at hpos
    simp only [Town.cs, hc] at hwhy hso hma hba hD1 hD2 hlo
    unfold whyB at hwhy
    cases b1 : covB t t.held dn with
    | false =>
      have hz : F dn = 0 := by
        have h1 : ¬ 0 < F dn := fun hp => by rw [hpos.1.1 hp] at b1; cases b1
        have := hpos.2
        omega
      have hdb : dayB t dn = false := by simp [dayB, b1]
      simp only [daysL, hdb] at hD2
      cases b2 : barredB t dn <;> cases b3 : bitB t.forb film <;> by_cases b4 : t.close < minute <;> simp only [b2, b3] at hba hbi <;>
        simp [A7, A7_r0, A7_r1, A7_r2, A7_r3, A7_r4, A7_r5, A7_r6, A7_r7, A7_r8, A7_r9, A7_r10, A7_r11, A7_r12, A7_r13, A7_r14, A7_r15, A7_r16, A7_r17, A7_r18, A7_r19, A7_r20, A7_r21, A7_r22, A7_r23, A7_r24, A7_r25, A7_r26, A7_r27, regionA_st s7_r1, regionA_st s7_r15, regionA_st s7_r16, finish, Town.cs, t0, t1, t2, hwhy, hso, hma, hbi, hba, hD1, hD2, hlo, w40, hh, iaddr_arrV, hlt, hlt', hrd, In.av, daysV, b1, b2, b3, b4, hz]
    | true =>
      have hz : 0 < F dn := hpos.1.2 b1
      have hz' : ¬ F dn = 0 := by omega
      have hzb : (F dn == 0) = false := by simpa using hz'
      cases b2 : barredB t dn with
      | true =>
        have hdb : dayB t dn = false := by simp [dayB, b1, b2]
        simp only [daysL, hdb] at hD2
        cases b3 : bitB t.forb film <;> by_cases b4 : t.close < minute <;> simp only [b2, b3] at hba hbi <;>
          simp [A7, A7_r0, A7_r1, A7_r2, A7_r3, A7_r4, A7_r5, A7_r6, A7_r7, A7_r8, A7_r9, A7_r10, A7_r11, A7_r12, A7_r13, A7_r14, A7_r15, A7_r16, A7_r17, A7_r18, A7_r19, A7_r20, A7_r21, A7_r22, A7_r23, A7_r24, A7_r25, A7_r26, A7_r27, regionA_st s7_r1, regionA_st s7_r15, regionA_st s7_r16, finish, Town.cs, t0, t1, t2, hwhy, hso, hma, hbi, hba, hD1, hD2, hlo, w40, hh, iaddr_arrV, hlt, hlt', hrd, In.av, daysV, b1, b2, b3, b4, hz, hz', hzb]
      | false =>
        have hdb : dayB t dn = true := by simp [dayB, b1, b2]
        simp only [daysL, hdb] at hD2
        cases b3 : bitB t.forb film <;> by_cases b4 : t.close < minute <;> simp only [b2, b3] at hba hbi <;>
          simp [A7, A7_r0, A7_r1, A7_r2, A7_r3, A7_r4, A7_r5, A7_r6, A7_r7, A7_r8, A7_r9, A7_r10, A7_r11, A7_r12, A7_r13, A7_r14, A7_r15, A7_r16, A7_r17, A7_r18, A7_r19, A7_r20, A7_r21, A7_r22, A7_r23, A7_r24, A7_r25, A7_r26, A7_r27, regionA_st s7_r1, regionA_st s7_r15, regionA_st s7_r16, finish, Town.cs, t0, t1, t2, hwhy, hso, hma, hbi, hba, hD1, hD2, hlo, w40, hh, iaddr_arrV, hlt, hlt', hrd, In.av, daysV, b1, b2, b3, b4, hz, hz', hzb]
end
end Go.Proofs.Tryd

namespace Go.Proofs.Tryd
open Go Go.Proofs.AM

/-- More than any plan costs. -/
def never : Int := 1073741824
structure Least (S : Int → Prop) (r : Int) : Prop where
  le : r ≤ never
  att : r = never ∨ S r
  low : ∀ s, S s → r ≤ s
theorem Least.unique {S : Int → Prop} {r r' : Int} (h : Least S r) (h' : Least S r') : r = r' := by
  have a : r ≤ r' := by
    rcases h'.att with e | e
    · rw [e]; exact h.le
    · exact h.low _ e
  have b : r' ≤ r := by
    rcases h.att with e | e
    · rw [e]; exact h'.le
    · exact h'.low _ e
  omega
theorem Least.congr {S S' : Int → Prop} {r : Int} (h : Least S r) (e : ∀ s, S s ↔ S' s) : Least S' r :=
  ⟨h.le, h.att.imp id (e r).1, fun s hs => h.low s ((e s).2 hs)⟩
theorem Least.none : Least (fun _ => False) never := ⟨Int.le_refl _, .inl rfl, fun _ h => h.elim⟩
theorem Least.step {S : Int → Prop} {r x : Int} (h : Least S r) : Least (fun s => S s ∨ s = x) (min r x) := by
  refine ⟨by have := h.le; omega, ?_, fun s hs => ?_⟩
  · rcases Int.le_total r x with hx | hx
    · rw [Int.min_eq_left hx]
      exact h.att.imp id .inl
    · rw [Int.min_eq_right hx]
      exact .inr (.inr rfl)
  · rcases hs with hs | rfl
    · have := h.low s hs; omega
    · omega
def minL (r : Int) : List Int → Int
  | [] => r
  | x :: l => minL (min r x) l
theorem minL_least : ∀ {l : List Int} {S : Int → Prop} {r : Int}, Least S r → Least (fun s => S s ∨ s ∈ l) (minL r l)
  | [], S, r, h => h.congr (fun s => by simp)
  | x :: l, S, r, h => (minL_least (l := l) (h.step (x := x))).congr (fun s => by simp [or_assoc])
def skipD (t : Town) (e : Int) : List Int → List Int
  | [] => []
  | d :: l => if decide (d ≤ e) || covB t t.held d then skipD t e l else d :: l
theorem skipD_len (t : Town) (e : Int) : ∀ l : List Int, (skipD t e l).length ≤ l.length
  | [] => by simp [skipD]
  | d :: l => by
    have := skipD_len t e l
    simp only [skipD]
    split
    · simp; omega
    · simp
def feeOf (t : Town) (p : Pp) : Int := match t.kinds[p.kind.toNat]? with
  | some k => k.fee
  | none => 0
/-- May a licence come for a day, behind one that ends? -/
def fitB (t : Town) (today e d : Int) (p : Pp) : Bool :=
  paperB t p && decide (p.first ≤ d) && decide (d ≤ endB t p) && decide (noticeOf t p ≤ p.first - today) && decide (e + t.pause + 1 ≤ p.first) && t.held.all (fun q => goesB t p q)
/-- All licences that there are. -/
def allP (t : Town) : List Pp := (List.range t.kinds.length).flatMap fun (k : Nat) => (List.range 1000).map fun (f : Nat) => (⟨(k : Int), (f : Int)⟩ : Pp)
theorem mem_allP {t : Town} {p : Pp} (h : paperB t p = true) : p ∈ allP t := by
  simp only [paperB, Bool.and_eq_true, amid_iff] at h
  refine List.mem_flatMap.2 ⟨p.kind.toNat, List.mem_range.2 (by omega), List.mem_map.2 ⟨p.first.toNat, List.mem_range.2 (by omega), ?_⟩⟩
  obtain ⟨k, f⟩ := p
  simp at h ⊢
  omega
/-- What the days that are left cost, sixteen times, and how many licences they take; never: they cannot be covered. -/
def V (t : Town) (today : Int) : Nat → Int → List Int → Int
  | n, e, l => match skipD t e l with
    | [] => 0
    | d :: l' => match n with
      | 0 => never
      | n + 1 => minL never (((allP t).filter (fitB t today e d)).map fun p => 16 * feeOf t p + 1 + V t today n (endB t p) l')
theorem V_nil {t : Town} {today e : Int} {n : Nat} {l : List Int} (h : skipD t e l = []) : V t today n e l = 0 := by
  unfold V
  rw [h]
theorem V_least {t : Town} {today e d : Int} {n : Nat} {l l' : List Int} (h : skipD t e l = d :: l') : Least (fun s => ∃ p, fitB t today e d p = true ∧ s = 16 * feeOf t p + 1 + V t today n (endB t p) l') (V t today (n + 1) e l) := by
  have e1 : V t today (n + 1) e l = minL never (((allP t).filter (fitB t today e d)).map fun p => 16 * feeOf t p + 1 + V t today n (endB t p) l') := by
    rw [V, h]
  rw [e1]
  refine (minL_least Least.none).congr (fun s => ?_)
  simp only [false_or, List.mem_map, List.mem_filter]
  constructor
  · rintro ⟨p, ⟨_, hp⟩, rfl⟩
    exact ⟨p, hp, rfl⟩
  · rintro ⟨p, hp, rfl⟩
    refine ⟨p, ⟨mem_allP ?_, hp⟩, rfl⟩
    simp only [fitB, Bool.and_eq_true] at hp
    exact hp.1.1.1.1.1
theorem skipD_sub (t : Town) (e : Int) : ∀ {l : List Int} {d : Int} {l' : List Int}, skipD t e l = d :: l' → l'.length < l.length ∧ ∃ a, l = a ++ d :: l'
  | [], _, _, h => by simp [skipD] at h
  | x :: l, d, l', h => by
    simp only [skipD] at h
    split at h
    · obtain ⟨h1, a, ha⟩ := skipD_sub t e h
      exact ⟨by simp; omega, x :: a, by rw [ha]; rfl⟩
    · cases h
      exact ⟨by simp, [], rfl⟩
/-- Enough rounds are enough. -/
theorem V_fuel (t : Town) (today : Int) : ∀ (n m : Nat) (e : Int) (l : List Int), l.length ≤ n → l.length ≤ m → V t today n e l = V t today m e l
  | 0, 0, _, _, _, _ => rfl
  | 0, m + 1, e, l, h, _ => by
    have : l = [] := List.eq_nil_of_length_eq_zero (by omega)
    subst this
    rw [V_nil rfl, V_nil rfl]
  | n + 1, 0, e, l, _, h => by
    have : l = [] := List.eq_nil_of_length_eq_zero (by omega)
    subst this
    rw [V_nil rfl, V_nil rfl]
  | n + 1, m + 1, e, l, h1, h2 => by
    cases hs : skipD t e l with
    | nil => rw [V_nil hs, V_nil hs]
    | cons d l' =>
      have hl := (skipD_sub t e hs).1
      refine (V_least hs).unique ((V_least hs).congr fun s => ?_)
      constructor
      · rintro ⟨p, hp, rfl⟩
        exact ⟨p, hp, by rw [V_fuel t today n m (endB t p) l' (by omega) (by omega)]⟩
      · rintro ⟨p, hp, rfl⟩
        exact ⟨p, hp, by rw [V_fuel t today n m (endB t p) l' (by omega) (by omega)]⟩
end Go.Proofs.Tryd

namespace Go.Proofs.Tryd
open Go Go.Proofs.AM

section
variable {t : Town}
theorem togB_snoc : ∀ (l a : List Pp) (p : Pp), togB t a (l ++ [p]) = (togB t a l && (a ++ l).all (fun q => goesB t p q))
  | [], a, p => by simp [togB]
  | x :: l, a, p => by
    have := togB_snoc l (a ++ [x]) p
    simp only [List.cons_append, togB, this, List.append_assoc, List.nil_append, Bool.and_assoc]
/-- What a search is handed. -/
def sCs (t : Town) (today : Int) (wh : Hd) (days : List Int) (M : Nat) : List AV := t.cs ++ [.int .i64 today, lstA wh In.av days, .sl 1 M 9899 0 9900 none]
theorem r18_ev (g : Good t) {today : Int} {wh : Hd} {days : List Int} {M : Nat} {p : Pp} (hp : paperB t p = true) {kd : Kd} {a1 a2 a7 a8 a9 a10 a12 : AV} (H : List AObj) (lo : Nat) (hlo : lo ≤ H.length) : ∃ O : List AObj,
    codeE E0 (.region A97_r18 (some [[], [0], [], [], [3], [4], [2, 5], [], [7], [6, 8, 6], [1, 9, 9]]) [1, 2, 3, 7, 8, 9, 10, 11, 12, 13, 119] [3, 11, 13] [])
      { ts := [(1, .v a1), (2, .v a2), (3, .loc 3 0), (7, .v a7), (8, .v a8), (9, .v a9), (10, .v a10), (11, .loc 11 0), (12, .v a12), (13, .loc 13 0)], bs := [(3, sCs t today wh days M), (11, kd.av), (13, p.av)] } { heap := H, low := lo }
    = some (.norm, { ts := [(1, .v a1), (2, .v a2), (3, .loc 3 0), (7, .v a7), (8, .v a8), (9, .v a9), (10, .v a10), (11, .loc 11 0), (12, .v a12), (13, .loc 13 0), (119, .v (.bool (t.held.all fun q => goesB t p q)))], bs := [(3, sCs t today wh days M), (11, kd.av), (13, p.av)] }, { heap := H ++ O, low := lo }) := by
  have hpa := (amid_iff.1 g.pause).1
  have hjoin : ∀ x ∈ t.held ++ [p], paperB t x = true := fun x hx => by
    rcases List.mem_append.1 hx with hx | hx
    · exact List.all_eq_true.1 g.held x hx
    · simp at hx; subst hx; exact hp
  have hnh := g.nh
  have htv : togB t [] (t.held ++ [p]) = t.held.all fun q => goesB t p q := by rw [togB_snoc, g.tog]; simp
  have htg := fun (hd : Hd) (s : St) => togetherR_ev g.kinds hpa (h := hd) (l := t.held ++ [p]) (by simp; omega) hjoin s
  rw [htv] at htg
  have e1 := row_len Pp.len (t.held ++ [p])
  have e2 : ∀ (hp : List AObj) (s d : Nat) (refs : Bool), mapS (AM.settle hp s refs d) (row Pp.av (t.held ++ [p])) = some (row Pp.av (t.held ++ [p]), []) := fun hp s d refs => mapS_plain (fun c hc => plainA.scal (row_scal Pp.sc _ c hc) d)
  have e3 : (row Pp.av (t.held ++ [p])).take ((t.held ++ [p]).length * 2) = row Pp.av (t.held ++ [p]) := List.take_of_length_le (Nat.le_of_eq e1)
  have hm : min lo H.length = lo := Nat.min_eq_left hlo
  have hm2 : min lo (H.length + 1) = lo := Nat.min_eq_left (by omega)
  generalize hbv : (t.held.all fun q => goesB t p q) = bv at htg ⊢
  cases hh : t.held with
  | nil =>
    have a1' : ∀ s : St, appA 2 55 16 (.lst (some false) true 0 []) (lstA t.hh Pp.av t.held) s = some (.lst (some false) true 0 [], s) := fun s => by
      rw [hh]
      exact appP_nil (nl := some false) (a := []) (.lst (some false) true 0 []) rfl s
    rw [hh] at htg e1 e2 e3
    simp only [List.nil_append] at htg e1 e2 e3
    have a2' : ∀ s : St, appA 2 55 16 (.lst (some false) true 0 []) (.lst (some false) true 1 [.int .i64 p.kind, .int .i64 p.first]) s = some (.sl 2 s.heap.length 0 0 1 none, { heap := s.heap ++ [.cells 0 (some (55, 2)) (row Pp.av [p])], low := s.low }) := fun s => appP_ev (nl := some false) (a := []) (h := ⟨some false, true⟩) (q := p) (b := []) (by simp) s
    have htg0 : ∀ s, callE E0 false (.fn 67 [] []) [.agg t.cs, .lst (some false) false 1 (row Pp.av [p])] s = some (.bool bv, s) := fun s => htg ⟨some false, false⟩ s
    refine ⟨[.frz 0 (row Pp.av [p])], ?_⟩
    simp only [Town.cs] at htg0 ⊢
    simp only [List.length_singleton, Nat.one_mul] at e1 e3
    simp [A97_r18, regionA_st s97_r18, sCs, Town.cs, Pp.av, a1', a2', htg0, e1, e2, e3, get_app0, set_app0, frz1, hm, hm2]
  | cons q ps =>
    have hps : ps.length ≤ 3 := by rw [hh] at hnh; simp at hnh; omega
    have a1' : ∀ s : St, appA 2 55 16 (.lst (some false) true 0 []) (lstA t.hh Pp.av t.held) s = some (.sl 2 s.heap.length 0 0 (q :: ps).length none, { heap := s.heap ++ [.cells 0 (some (55, 2)) (row Pp.av (q :: ps))], low := s.low }) := fun s => by
      rw [hh]
      exact appP_ev (nl := some false) (a := []) (by simp; omega) s
    rw [hh] at htg e1 e2 e3
    have a2' : ∀ B : List AObj, ∀ lo : Nat, appA 2 55 16 (.sl 2 B.length 0 0 (ps.length + 1) none) (.lst (some false) true 1 [.int .i64 p.kind, .int .i64 p.first]) { heap := B ++ [.cells 0 (some (55, 2)) (row Pp.av (q :: ps))], low := lo } = some (.sl 2 B.length 1 0 (q :: ps ++ [p]).length none, { heap := B ++ [.cells 1 (some (55, 2)) (row Pp.av (q :: ps ++ [p]))], low := min lo B.length }) := fun B lo => by
      have := appS_ev (h := ⟨some false, true⟩) (a := q :: ps) (b := []) (q := p) (id := B.length) (n := ps.length + 1) { heap := B ++ [.cells 0 (some (55, 2)) (row Pp.av (q :: ps))], low := lo } (by simp) (by simp) (by simp; omega)
      simp only [lstA, row, Pp.av, List.length_singleton, List.append_nil] at this
      simp only [row, Pp.av, List.append_nil]
      rw [this]
      simp [mods, set_app0]
    have htg0 : ∀ s, callE E0 false (.fn 67 [] []) [.agg t.cs, .lst (some false) false (q :: ps ++ [p]).length (row Pp.av (q :: ps ++ [p]))] s = some (.bool bv, s) := fun s => htg ⟨some false, false⟩ s
    refine ⟨[.frz 1 (row Pp.av (q :: ps ++ [p]))], ?_⟩
    simp only [Town.cs, List.length_cons, List.length_append, List.cons_append, List.length_singleton, List.length_nil, Nat.zero_add] at htg0 e1 e2 e3 a2' ⊢
    simp [A97_r18, regionA_st s97_r18, sCs, Town.cs, Pp.av, a1', a2', htg0, e1, e2, e3, get_app0, set_app0, frz1, hm, hm2]
end
end Go.Proofs.Tryd

namespace Go.Proofs.Tryd
open Go Go.Proofs.AM

/-- What is known already. -/
def memoO (κ : List Int) : AObj := .cells 9899 (some (3, 1)) (row In.av κ)
def stF (B : List AObj) (κ : List Int) (J : List AObj) (lo : Nat) : St := { heap := B ++ memoO κ :: J, low := lo }
/-- A licence's days of one kind, one by one. -/
def firsts (k : Int) : Nat → Int → List Pp
  | 0, _ => []
  | r + 1, f => ⟨k, f⟩ :: firsts k r (f + 1)
theorem mem_firsts {k : Int} {p : Pp} : ∀ {r : Nat} {f : Int}, p ∈ firsts k r f ↔ p.kind = k ∧ f ≤ p.first ∧ p.first < f + r
  | 0, f => by
    simp only [firsts, List.not_mem_nil, false_iff]
    omega
  | r + 1, f => by
    have ih := mem_firsts (k := k) (p := p) (r := r) (f := f + 1)
    obtain ⟨pk, pf⟩ := p
    simp only [firsts, List.mem_cons, ih, Pp.mk.injEq]
    omega
section
variable {t : Town} {today e d place key : Int} {wh : Hd} {days : List Int}
def accV (c : Pp → Int) (g : Pp → Bool) : Int → List Pp → Int
  | acc, [] => acc
  | acc, p :: l => accV c g (if g p = true then min acc (c p) else acc) l
theorem accV_append (c : Pp → Int) (g : Pp → Bool) : ∀ (a b : List Pp) (acc : Int), accV c g acc (a ++ b) = accV c g (accV c g acc a) b
  | [], _, _ => rfl
  | p :: a, b, acc => accV_append c g a b _
theorem accV_least (c : Pp → Int) (g : Pp → Bool) : ∀ (l : List Pp) {S : Int → Prop} {r : Int}, Least S r → Least (fun s => S s ∨ ∃ p ∈ l, g p = true ∧ s = c p) (accV c g r l)
  | [], S, r, h => h.congr (fun s => by simp)
  | p :: l, S, r, h => by
    simp only [accV]
    by_cases hg : g p = true
    · rw [if_pos hg]
      refine (accV_least c g l (h.step (x := c p))).congr (fun s => ?_)
      simp [hg, or_assoc]
    · rw [if_neg hg]
      refine (accV_least c g l h).congr (fun s => ?_)
      simp [hg]
/-- The rest, behind a licence, is told right. -/
def RecOk (t : Town) (today : Int) (wh : Hd) (days : List Int) (B : List AObj) (K : List Int → Prop) (place : Int) (c : Pp → Int) (g : Pp → Bool) (v : Pp → Int) : Prop :=
  ∀ p, g p = true → paperB t p = true ∧ c p = 16 * feeOf t p + 1 + v p ∧ 0 ≤ v p ∧ v p ≤ never ∧ ∀ κ J lo, K κ → B.length ≤ lo → lo ≤ B.length + 1 + J.length →
    ∃ κ' J' lo', callE E0 false (.fn 97 [] []) [.agg (sCs t today wh days B.length), .int .i64 place, .int .i64 (endB t p)] (stF B κ J lo) = some (.int .i64 (v p), stF B κ' J' lo') ∧ K κ' ∧ B.length ≤ lo' ∧ lo' ≤ B.length + 1 + J'.length
theorem fee_of {p : Pp} (hp : paperB t p = true) (hk : t.kinds.all kdB = true) {kd : Kd} (e : t.kinds[p.kind.toNat]? = some kd) : feeOf t p = kd.fee ∧ 0 ≤ kd.fee ∧ kd.fee ≤ 1000 ∧ 1 ≤ kd.days ∧ kd.days ≤ 30 ∧ 0 ≤ kd.notice ∧ kd.notice ≤ 30 ∧ daysOf t p = kd.days ∧ noticeOf t p = kd.notice := by
  obtain ⟨k, e1, hkd, e2, h0, h1, h2, h3⟩ := kd_of hp hk
  rw [e] at e1
  cases e1
  simp only [kdB, Bool.and_eq_true, amid_iff] at hkd
  simp [feeOf, daysOf, noticeOf, e]
  omega
theorem from_in {f0 : Int} (g : Good t) {B : List AObj} {K : List Int → Prop} {c : Pp → Int} {gb : Pp → Bool} {v : Pp → Int} (hrec : RecOk t today wh days B K place c gb v) {k : Int} {kd : Kd} (hk : t.kinds[k.toNat]? = some kd) (k0 : 0 ≤ k) (hd0 : 0 ≤ d) (hd : d ≤ 999)
    (hgb : ∀ p : Pp, p.kind = k → 0 ≤ p.first → p.first ≤ d → paperB t p = true → (f0 : Int) ≤ p.first → gb p = t.held.all fun q => goesB t p q) (hf00 : 0 ≤ f0) : ∀ (r : Nat) (f acc : Int) (κ : List Int) (J : List AObj) (lo : Nat), f0 ≤ f → (r = (d + 1 - f).toNat) → f ≤ 2000 → 0 ≤ acc → acc ≤ never → K κ → B.length ≤ lo → lo ≤ B.length + 1 + J.length →
    ∃ κ' J' lo' f', loopC E0 [1, 2, 3, 7, 8, 9, 10, 11, 12] [3, 11] A97_l1 { ts := [(1, .v (.int .i64 place)), (2, .v (.int .i64 e)), (3, .loc 3 0), (7, .v (.int .i64 key)), (8, .v (.int .i64 acc)), (9, .v (.int .i64 d)), (10, .v (.int .i64 k)), (11, .loc 11 0), (12, .v (.int .i64 f))], bs := [(3, sCs t today wh days B.length), (11, kd.av)] } (stF B κ J lo)
      = some (.exit 4, { ts := [(1, .v (.int .i64 place)), (2, .v (.int .i64 e)), (3, .loc 3 0), (7, .v (.int .i64 key)), (8, .v (.int .i64 (accV c gb acc (firsts k r f)))), (9, .v (.int .i64 d)), (10, .v (.int .i64 k)), (11, .loc 11 0), (12, .v (.int .i64 f')), (103, .v (.bool false))], bs := [(3, sCs t today wh days B.length), (11, kd.av)] }, stF B κ' J' lo') ∧ K κ' ∧ B.length ≤ lo' ∧ lo' ≤ B.length + 1 + J'.length ∧ 0 ≤ accV c gb acc (firsts k r f) ∧ accV c gb acc (firsts k r f) ≤ never
  | 0, f, acc, κ, J, lo, hf0, hr, hfb, ha0, ha1, hK, hl0, hl1 => by
    refine ⟨κ, J, lo, f, ?_, hK, hl0, hl1, ha0, ha1⟩
    have hlt : ¬ f ≤ d := by omega
    rw [loopC_eq]
    simp [A97_l1, A97_r15, hlt, firsts, accV]
  | r + 1, f, acc, κ, J, lo, hf0, hr, hfb, ha0, ha1, hK, hl0, hl1 => by
    have hlt : f ≤ d := by omega
    have hkl : k.toNat < t.kinds.length := by
      have := List.getElem?_eq_some_iff.1 hk
      exact this.1
    have hp : paperB t ⟨k, f⟩ = true := by
      simp only [paperB, Bool.and_eq_true, amid_iff]
      omega
    have hgp := hgb ⟨k, f⟩ rfl (by simp; omega) hlt hp hf0
    obtain ⟨q1, q2, q3, q4, q5, q6, q7, q8, q9⟩ := fee_of hp g.kinds hk
    have w1 : IntKind.wrap .i64 (f + 1) = f + 1 := wrap_small (by omega) (by omega)
    obtain ⟨O, ho⟩ := r18_ev g (today := today) (wh := wh) (days := days) (M := B.length) hp (kd := kd) (a1 := .int .i64 place) (a2 := .int .i64 e) (a7 := .int .i64 key) (a8 := .int .i64 acc) (a9 := .int .i64 d) (a10 := .int .i64 k) (a12 := .int .i64 f) (B ++ memoO κ :: J) lo (by simp; omega)
    rw [← hgp] at ho
    simp only [sCs, Town.cs, Kd.av, Pp.av, List.cons_append, List.nil_append] at ho
    have hlo2 : lo ≤ B.length + 1 + (J ++ O).length := by simp; omega
    by_cases hg : gb ⟨k, f⟩ = true
    · obtain ⟨_, c1, c2, c3, c4⟩ := hrec _ hg
      obtain ⟨κ1, J1, lo1, d1, d2, d3, d4⟩ := c4 κ (J ++ O) (B.length + (J.length + O.length + 1)) hK (by omega) (by simp; omega)
      have hl := last_ev (t := t) hp g.kinds
      simp only [Town.cs, Pp.av] at hl
      rw [hg] at ho
      have m1 : (if 16 * kd.fee + 1 + v ⟨k, f⟩ < acc then 16 * kd.fee + 1 + v ⟨k, f⟩ else acc) = min acc (c ⟨k, f⟩) := by
        rw [c1, q1]
        split <;> omega
      have n1 : (never : Int) = 1073741824 := rfl
      rw [n1] at c3 ha1
      have w2 : IntKind.wrap .i64 (16 * kd.fee) = 16 * kd.fee := wrap_small (by omega) (by omega)
      have w3 : IntKind.wrap .i64 (16 * kd.fee + 1) = 16 * kd.fee + 1 := wrap_small (by omega) (by omega)
      have w4 : IntKind.wrap .i64 (16 * kd.fee + 1 + v ⟨k, f⟩) = 16 * kd.fee + 1 + v ⟨k, f⟩ := wrap_small (by omega) (by omega)
      obtain ⟨κ2, J2, lo2, f2, i1, i2, i3, i4, i5, i6⟩ := from_in g hrec hk k0 hd0 hd hgb hf00 r (f + 1) (min acc (c ⟨k, f⟩)) κ1 J1 (min lo lo1) (by omega) (by omega) (by omega) (by rw [c1, q1]; omega) (by rw [n1]; omega) d2 (by omega) (by omega)
      refine ⟨κ2, J2, lo2, f2, ?_, i2, i3, i4, ?_, ?_⟩
      · simp only [firsts, accV, hg, if_true]
        rw [loopC_norm (fr' := { ts := [(1, .v (.int .i64 place)), (2, .v (.int .i64 e)), (3, .loc 3 0), (7, .v (.int .i64 key)), (8, .v (.int .i64 (min acc (c ⟨k, f⟩)))), (9, .v (.int .i64 d)), (10, .v (.int .i64 k)), (11, .loc 11 0), (12, .v (.int .i64 (f + 1)))], bs := [(3, sCs t today wh days B.length), (11, kd.av)] }) (st' := stF B κ1 J1 (min lo lo1)) (by
          have hm : min lo (B.length + ((J ++ O).length + 1)) = lo := by omega
          have hm1 : min lo (min (B.length + (J.length + O.length + 1)) (min lo1 (B.length + (J1.length + 1)))) = min lo lo1 := by
            rw [List.length_append] at hlo2
            omega
          have hm4 : min lo (min lo1 (B.length + (J1.length + 1))) = min lo lo1 := by omega
          have hm3 : min lo (B.length + (J.length + 1)) = lo := by omega
          simp only [stF, sCs, Town.cs, List.cons_append, List.nil_append] at d1 ⊢
          simp only [List.append_assoc, List.cons_append] at ho
          simp [A97_l1, A97_r15, A97_r16, A97_r17, A97_r19, regionA_st s97_r19, hlt, ↓ho, Kd.av, Pp.av, hl, d1, m1, w1, w2, w3, w4, hm, hm1, hm4]), i1]
      · simp only [firsts, accV, hg, if_true]; exact i5
      · simp only [firsts, accV, hg, if_true]; exact i6
    · rw [Bool.not_eq_true] at hg
      rw [hg] at ho
      obtain ⟨κ2, J2, lo2, f2, i1, i2, i3, i4, i5, i6⟩ := from_in g hrec hk k0 hd0 hd hgb hf00 r (f + 1) acc κ (J ++ O) lo (by omega) (by omega) (by omega) ha0 ha1 hK hl0 hlo2
      refine ⟨κ2, J2, lo2, f2, ?_, i2, i3, i4, ?_, ?_⟩
      · simp only [firsts, accV, hg]
        rw [loopC_norm (fr' := { ts := [(1, .v (.int .i64 place)), (2, .v (.int .i64 e)), (3, .loc 3 0), (7, .v (.int .i64 key)), (8, .v (.int .i64 acc)), (9, .v (.int .i64 d)), (10, .v (.int .i64 k)), (11, .loc 11 0), (12, .v (.int .i64 (f + 1)))], bs := [(3, sCs t today wh days B.length), (11, kd.av)] }) (st' := stF B κ (J ++ O) lo) (by
          simp only [stF, sCs, Town.cs, List.cons_append, List.nil_append]
          simp only [List.append_assoc, List.cons_append] at ho
          simp [A97_l1, A97_r15, A97_r16, A97_r17, hlt, ↓ho, Kd.av, Pp.av, w1])]
        simpa using i1
      · simp only [firsts, accV, hg]; simpa using i5
      · simp only [firsts, accV, hg]; simpa using i6
end
end Go.Proofs.Tryd

namespace Go.Proofs.Tryd
open Go Go.Proofs.AM

section
variable {t : Town} {today e d place key : Int} {wh : Hd} {days : List Int}
def firstOf (t : Town) (today e d : Int) (x : Kd) : Int := max 0 (max (d - x.days + 1) (max (today + x.notice) (e + t.pause + 1)))
def rowK (t : Town) (today e d k : Int) (x : Kd) : List Pp := firsts k (d + 1 - firstOf t today e d x).toNat (firstOf t today e d x)
def rowsK (t : Town) (today e d : Int) : Int → List Kd → List Pp
  | _, [] => []
  | k, x :: b => rowK t today e d k x ++ rowsK t today e d (k + 1) b
theorem mem_rowsK {p : Pp} : ∀ {b : List Kd} {k : Int}, p ∈ rowsK t today e d k b ↔ ∃ i : Nat, ∃ x, b[i]? = some x ∧ p.kind = k + i ∧ firstOf t today e d x ≤ p.first ∧ p.first ≤ d
  | [], k => by simp [rowsK]
  | x :: b, k => by
    simp only [rowsK, List.mem_append, mem_rowsK (b := b), rowK, mem_firsts]
    constructor
    · rintro (⟨h1, h2, h3⟩ | ⟨i, y, h1, h2, h3, h4⟩)
      · exact ⟨0, x, rfl, by simp [h1], h2, by omega⟩
      · exact ⟨i + 1, y, by simpa using h1, by omega, h3, h4⟩
    · rintro ⟨i, y, h1, h2, h3, h4⟩
      cases i with
      | zero =>
        simp only [List.getElem?_cons_zero, Option.some.injEq] at h1
        subst h1
        exact .inl ⟨by simpa using h2, h3, by omega⟩
      | succ i =>
        exact .inr ⟨i, y, by simpa using h1, by omega, h3, h4⟩
theorem fit_of {p : Pp} (hp : paperB t p = true) (hk : t.kinds.all kdB = true) {x : Kd} (hx : t.kinds[p.kind.toNat]? = some x) : fitB t today e d p = (decide (firstOf t today e d x ≤ p.first) && decide (p.first ≤ d) && t.held.all fun q => goesB t p q) := by
  obtain ⟨q1, q2, q3, q4, q5, q6, q7, q8, q9⟩ := fee_of hp hk hx
  have hpp := hp
  simp only [paperB, Bool.and_eq_true, amid_iff] at hpp
  unfold fitB firstOf endB
  rw [hp, q8, q9]
  cases hg : (t.held.all fun q => goesB t p q) with
  | false => simp
  | true =>
    simp only [Bool.and_true, Bool.true_and]
    rw [Bool.eq_iff_iff]
    simp only [Bool.and_eq_true, decide_eq_true_eq]
    omega
theorem from_out (g : Good t) {B : List AObj} {K : List Int → Prop} {c : Pp → Int} {v : Pp → Int} (hrec : RecOk t today wh days B K place c (fitB t today e d) v) (hd0 : 0 ≤ d) (hd : d ≤ 999) (hto : amid today 0 999 = true) (he : -1000 ≤ e) (he1 : e ≤ 1028) : ∀ (b a : List Kd) (k acc : Int) (κ : List Int) (J : List AObj) (lo : Nat), k = a.length → t.kinds = a ++ b → 0 ≤ acc → acc ≤ never → K κ → B.length ≤ lo → lo ≤ B.length + 1 + J.length →
    ∃ κ' J' lo', loopC E0 [1, 2, 3, 7, 8, 9, 10] [3] A97_l2 { ts := [(1, .v (.int .i64 place)), (2, .v (.int .i64 e)), (3, .loc 3 0), (7, .v (.int .i64 key)), (8, .v (.int .i64 acc)), (9, .v (.int .i64 d)), (10, .v (.int .i64 k))], bs := [(3, sCs t today wh days B.length)] } (stF B κ J lo)
      = some (.exit 2, { ts := [(1, .v (.int .i64 place)), (2, .v (.int .i64 e)), (3, .loc 3 0), (7, .v (.int .i64 key)), (8, .v (.int .i64 (accV c (fitB t today e d) acc (rowsK t today e d k b)))), (9, .v (.int .i64 d)), (10, .v (.int .i64 t.kinds.length)), (75, .v (.bool false))], bs := [(3, sCs t today wh days B.length)] }, stF B κ' J' lo') ∧ K κ' ∧ B.length ≤ lo' ∧ lo' ≤ B.length + 1 + J'.length ∧ 0 ≤ accV c (fitB t today e d) acc (rowsK t today e d k b) ∧ accV c (fitB t today e d) acc (rowsK t today e d k b) ≤ never
  | [], a, k, acc, κ, J, lo, hk0, eq, ha0, ha1, hK, hl0, hl1 => by
    simp only [List.append_nil] at eq
    subst hk0
    refine ⟨κ, J, lo, ?_, hK, hl0, hl1, ha0, ha1⟩
    rw [loopC_eq]
    simp [A97_l2, A97_r11, sCs, Town.cs, rowsK, accV, eq]
  | x :: b, a, k, acc, κ, J, lo, hk0, eq, ha0, ha1, hK, hl0, hl1 => by
    subst hk0
    have hlt : a.length < t.kinds.length := by rw [eq]; simp
    have hx : t.kinds[a.length]? = some x := by rw [eq]; simp
    have hdk := row_get Kd.len hx
    have hnk := amid_iff.1 g.n
    have hpa := amid_iff.1 g.pause
    have hto' := amid_iff.1 hto
    have hkd := List.all_eq_true.1 g.kinds x (by rw [eq]; simp)
    simp only [kdB, Bool.and_eq_true, amid_iff] at hkd
    have hfo : 0 ≤ firstOf t today e d x ∧ firstOf t today e d x ≤ 2000 := by unfold firstOf; omega
    obtain ⟨κ1, J1, lo1, f1, i1, i2, i3, i4, i5, i6⟩ := from_in (f0 := firstOf t today e d x) (k := a.length) (kd := x) (e := e) (key := key) g hrec (by simpa using hx) (by omega) hd0 hd (fun p h1 h2 h3 h4 h5 => by
      rw [fit_of h4 g.kinds (by rw [h1]; simpa using hx)]
      simp [h3, h5]) hfo.1 (d + 1 - firstOf t today e d x).toNat (firstOf t today e d x) acc κ J lo (Int.le_refl _) rfl hfo.2 ha0 ha1 hK hl0 hl1
    obtain ⟨κ2, J2, lo2, j1, j2, j3, j4, j5, j6⟩ := from_out g hrec hd0 hd hto he he1 b (a ++ [x]) ((a ++ [x]).length : Int) (accV c (fitB t today e d) acc (rowK t today e d a.length x)) κ1 J1 lo1 rfl (by simp [eq]) i5 i6 i2 i3 i4
    have hadd : ((a ++ [x]).length : Int) = (a.length : Int) + 1 := by simp
    rw [hadd] at j1 j5 j6
    refine ⟨κ2, J2, lo2, ?_, j2, j3, j4, ?_, ?_⟩
    · rw [loopC_norm (fr' := { ts := [(1, .v (.int .i64 place)), (2, .v (.int .i64 e)), (3, .loc 3 0), (7, .v (.int .i64 key)), (8, .v (.int .i64 (accV c (fitB t today e d) acc (rowK t today e d a.length x)))), (9, .v (.int .i64 d)), (10, .v (.int .i64 ((a.length : Int) + 1)))], bs := [(3, sCs t today wh days B.length)] }) (st' := stF B κ1 J1 lo1) (by
        have mxe : ∀ a b : Int, (if a < b then b else a) = max a b := fun a b => by split <;> omega
        have w1 : IntKind.wrap .i64 (d - x.days) = d - x.days := wrap_small (by omega) (by omega)
        have w2 : IntKind.wrap .i64 (d - x.days + 1) = d - x.days + 1 := wrap_small (by omega) (by omega)
        have w3 : IntKind.wrap .i64 (today + x.notice) = today + x.notice := wrap_small (by omega) (by omega)
        have w4 : IntKind.wrap .i64 (e + t.pause) = e + t.pause := wrap_small (by omega) (by omega)
        have w5 : IntKind.wrap .i64 (e + t.pause + 1) = e + t.pause + 1 := wrap_small (by omega) (by omega)
        have w6 : IntKind.wrap .i64 ((a.length : Int) + 1) = (a.length : Int) + 1 := wrap_small (by omega) (by omega)
        simp only [stF, sCs, Town.cs, List.cons_append, List.nil_append, Kd.av] at i1 ⊢
        unfold rowK
        unfold firstOf at i1 ⊢
        simp [A97_l2, A97_r11, A97_r12, A97_r13, A97_r14, hlt, hdk, Kd.av, w1, w2, w3, w4, w5, w6, mxe, i1]), j1]
      simp only [rowsK, accV_append]
    · simp only [rowsK, accV_append]; exact j5
    · simp only [rowsK, accV_append]; exact j6
theorem skip_loop (g : Good t) (hf : t.Fits) (hn : days.length ≤ 8) {M : Nat} (st : St) (hlo : st.low ≤ st.heap.length) : ∀ (b a : List Int) (k : Int), k = a.length → days = a ++ b →
    ∃ a', days = a' ++ skipD t e b ∧ loopC E0 [1, 2, 3] [3] A97_l0 { ts := [(1, .v (.int .i64 k)), (2, .v (.int .i64 e)), (3, .loc 3 0)], bs := [(3, sCs t today wh days M)] } st
    = some (.exit 0, { ts := [(1, .v (.int .i64 a'.length)), (2, .v (.int .i64 e)), (3, .loc 3 0), (40, .v (.bool false))], bs := [(3, sCs t today wh days M)] }, st)
  | [], a, k, hk, eq => by
    subst hk
    have hm : min st.low st.heap.length = st.low := Nat.min_eq_left hlo
    refine ⟨a, by rw [eq]; rfl, ?_⟩
    simp only [List.append_nil] at eq
    rw [loopC_eq]
    simp [A97_l0, A97_r1, regionA_st s97_r1, sCs, Town.cs, eq, hm]
  | x :: b, a, k, hk, eq => by
    subst hk
    have hm : min st.low st.heap.length = st.low := Nat.min_eq_left hlo
    have hlt : a.length < days.length := by rw [eq]; simp
    have hd := drop_ints eq
    have w1 : IntKind.wrap .i64 ((a.length : Int) + 1) = (a.length : Int) + 1 := wrap_small (by omega) (by omega)
    have hcv := covered_ev (h := t.hh) g.kinds x hf.h (fun p hp => List.all_eq_true.1 g.held p hp)
    simp only [Town.cs] at hcv
    by_cases h1 : x ≤ e
    · obtain ⟨a', q1, q2⟩ := skip_loop g hf hn st hlo b (a ++ [x]) ((a ++ [x]).length : Int) rfl (by simp [eq])
      refine ⟨a', by simpa [skipD, h1] using q1, ?_⟩
      rw [loopC_norm (fr' := { ts := [(1, .v (.int .i64 ((a ++ [x]).length : Int))), (2, .v (.int .i64 e)), (3, .loc 3 0)], bs := [(3, sCs t today wh days M)] }) (st' := st) (by
        simp [A97_l0, A97_r1, A97_r2, regionA_st s97_r1, sCs, Town.cs, hlt, hd, h1, w1, hm])]
      exact q2
    · cases hc : covB t t.held x with
      | true =>
        obtain ⟨a', q1, q2⟩ := skip_loop g hf hn st hlo b (a ++ [x]) ((a ++ [x]).length : Int) rfl (by simp [eq])
        refine ⟨a', by simpa [skipD, h1, hc] using q1, ?_⟩
        rw [loopC_norm (fr' := { ts := [(1, .v (.int .i64 ((a ++ [x]).length : Int))), (2, .v (.int .i64 e)), (3, .loc 3 0)], bs := [(3, sCs t today wh days M)] }) (st' := st) (by
          simp [A97_l0, A97_r1, A97_r2, regionA_st s97_r1, sCs, Town.cs, hlt, hd, h1, w1, hm, hcv, hc])]
        exact q2
      | false =>
        refine ⟨a, by simpa [skipD, h1, hc] using eq, ?_⟩
        rw [loopC_eq]
        simp [A97_l0, A97_r1, A97_r2, regionA_st s97_r1, sCs, Town.cs, hlt, hd, h1, hm, hcv, hc]
end
end Go.Proofs.Tryd

namespace Go.Proofs.Tryd
open Go Go.Proofs.AM

section
variable {t : Town} {today e : Int} {wh : Hd} {days : List Int}
theorem V_of_skip {e e' : Int} {l l' : List Int} (h : skipD t e l = skipD t e' l') (h2 : ∀ d, fitB t today e d = fitB t today e' d) : ∀ n, V t today n e l = V t today n e' l'
  | 0 => by unfold V; rw [h]
  | n + 1 => by
    unfold V
    rw [h]
    simp only [h2]
theorem V_range : ∀ (n : Nat) (e : Int) (l : List Int), t.kinds.all kdB = true → 0 ≤ V t today n e l ∧ V t today n e l ≤ never
  | 0, e, l, _ => by
    unfold V
    split <;> simp [never]
  | n + 1, e, l, hk => by
    cases hs : skipD t e l with
    | nil => rw [V_nil hs]; simp [never]
    | cons d l' =>
      have h := V_least (today := today) (n := n) hs
      refine ⟨?_, h.le⟩
      rcases h.att with h1 | ⟨p, hp, h1⟩
      · rw [h1]; simp [never]
      · rw [h1]
        have := (V_range n (endB t p) l' hk).1
        simp only [fitB, Bool.and_eq_true] at hp
        obtain ⟨kk, e1, _⟩ := kd_of hp.1.1.1.1.1 hk
        have := (fee_of hp.1.1.1.1.1 hk e1).2.1
        have := (fee_of hp.1.1.1.1.1 hk e1).1
        omega
theorem skipD_idem : ∀ (l : List Int), skipD t e (skipD t e l) = skipD t e l
  | [] => rfl
  | x :: l => by
    simp only [skipD]
    split
    · exact skipD_idem l
    · rename_i h
      simp only [skipD]
      rw [if_neg h]
/-- What is known is right. -/
structure MemoOk (t : Town) (today : Int) (days κ : List Int) : Prop where
  len : κ.length = 9900
  ok : ∀ (place : Nat) (e v : Int), place < days.length → (e = -1000 ∨ 0 ≤ e ∧ e ≤ 1028) → κ[place * 1100 + (max 0 (e + 1)).toNat]? = some v → 0 ≤ v → v = V t today 8 e (days.drop place)
theorem MemoOk.set {κ : List Int} (h : MemoOk t today days κ) {place : Nat} (hp : place < days.length) (hn : days.length ≤ 8) (he : e = -1000 ∨ 0 ≤ e ∧ e ≤ 1028) : MemoOk t today days (κ.set (place * 1100 + (max 0 (e + 1)).toNat) (V t today 8 e (days.drop place))) where
  len := by rw [List.length_set, h.len]
  ok p2 e2 v h2 he2 hv h0 := by
    rw [List.getElem?_set] at hv
    split at hv
    · rename_i hk
      have hb : (max 0 (e + 1)).toNat < 1100 := by omega
      have hb2 : (max 0 (e2 + 1)).toNat < 1100 := by omega
      have hpp : place = p2 := by omega
      subst hpp
      have hee : e = e2 := by omega
      subst hee
      split at hv
      · cases hv; rfl
      · cases hv
    · exact h.ok p2 e2 v h2 he2 hv h0
theorem from_ev (hf : t.Fits) (g : Good t) (hto : amid today 0 999 = true) (hn : days.length ≤ 8) (hds : ∀ x ∈ days, 0 ≤ x ∧ x ≤ 999) (B : List AObj) : ∀ (n place : Nat) (e : Int) (κ : List Int) (J : List AObj) (lo : Nat), place ≤ days.length → (e = -1000 ∨ 0 ≤ e ∧ e ≤ 1028) → (skipD t e (days.drop place)).length ≤ n → MemoOk t today days κ → B.length ≤ lo → lo ≤ B.length + 1 + J.length →
    ∃ κ' J' lo', callE E0 false (.fn 97 [] []) [.agg (sCs t today wh days B.length), .int .i64 place, .int .i64 e] (stF B κ J lo) = some (.int .i64 (V t today 8 e (days.drop place)), stF B κ' J' lo') ∧ MemoOk t today days κ' ∧ B.length ≤ lo' ∧ lo' ≤ B.length + 1 + J'.length := by
  have htk : ∀ (κ : List Int) (J : List AObj), List.take (B.length + (J.length + 1)) (B ++ memoO κ :: J) = B ++ memoO κ :: J := fun κ J => List.take_of_length_le (by simp)
  intro n
  induction n with
  | zero =>
    intro place e κ J lo hpl he hs hK hl0 hl1
    have hs0 : skipD t e (days.drop place) = [] := List.eq_nil_of_length_eq_zero (by omega)
    obtain ⟨a', q1, q2⟩ := skip_loop (today := today) (e := e) (wh := wh) (M := B.length) g hf hn { heap := B ++ memoO κ :: J, low := B.length + (J.length + 1) } (by simp) (days.drop place) (days.take place) place (by simp; omega) (by simp)
    rw [hs0, List.append_nil] at q1
    rw [← q1] at q2
    refine ⟨κ, J, lo, ?_, hK, hl0, hl1⟩
    rw [V_nil hs0, callE0 (by decide) (af := A97) rfl rfl]
    simp only [stF, memoO, sCs, Town.cs, List.cons_append, List.nil_append] at q2 htk ⊢
    simp [A97, A97_r0, A97_r3, A97_r4, finish, q2, htk]
  | succ n ih =>
    intro place e κ J lo hpl he hs hK hl0 hl1
    obtain ⟨a', q1, q2⟩ := skip_loop (today := today) (e := e) (wh := wh) (M := B.length) g hf hn { heap := B ++ memoO κ :: J, low := B.length + (J.length + 1) } (by simp) (days.drop place) (days.take place) place (by simp; omega) (by simp)
    cases hsk : skipD t e (days.drop place) with
    | nil =>
      rw [hsk, List.append_nil] at q1
      rw [← q1] at q2
      refine ⟨κ, J, lo, ?_, hK, hl0, hl1⟩
      rw [V_nil hsk, callE0 (by decide) (af := A97) rfl rfl]
      simp only [stF, memoO, sCs, Town.cs, List.cons_append, List.nil_append] at q2 htk ⊢
      simp [A97, A97_r0, A97_r3, A97_r4, finish, q2, htk]
    | cons d l' =>
      rw [hsk] at q1 hs
      have hdl : days.drop a'.length = d :: l' := by rw [q1, List.drop_left]
      have hal : a'.length < days.length := by rw [q1]; simp
      have hdd := drop_ints q1
      have hdr := hds d (by rw [q1]; simp)
      have hVe : V t today 8 e (days.drop place) = V t today 8 e (days.drop a'.length) := V_of_skip (by rw [hdl, ← hsk, skipD_idem]) (fun _ => rfl) 8
      have hsk2 : skipD t e (days.drop a'.length) = d :: l' := by rw [hdl, ← hsk, skipD_idem]
      have hne : ¬ (a'.length : Int) = days.length := by omega
      have hbe : ((a'.length : Int) == (days.length : Int)) = false := by simpa using hne
      have wk : IntKind.wrap .i64 ((a'.length : Int) * 1100) = (a'.length : Int) * 1100 := wrap_small (by omega) (by omega)
      have we : IntKind.wrap .i64 (e + 1) = e + 1 := wrap_small (by omega) (by omega)
      have wk2 : IntKind.wrap .i64 ((a'.length : Int) * 1100 + max 0 (e + 1)) = (a'.length : Int) * 1100 + max 0 (e + 1) := wrap_small (by omega) (by omega)
      have hkey : ((a'.length : Int) * 1100 + max 0 (e + 1)).toNat = a'.length * 1100 + (max 0 (e + 1)).toNat := by omega
      have mxe : ∀ a b : Int, (if a < b then b else a) = max a b := fun a b => by split <;> omega
      have hkl : a'.length * 1100 + (max 0 (e + 1)).toNat < κ.length := by rw [hK.len]; omega
      have hk0 : (0 : Int) ≤ (a'.length : Int) * 1100 + max 0 (e + 1) := by omega
      have hk1 : (a'.length : Int) * 1100 + max 0 (e + 1) < 9900 := by omega
      obtain ⟨x, hx⟩ : ∃ x, κ[a'.length * 1100 + (max 0 (e + 1)).toNat]? = some x := ⟨_, List.getElem?_eq_getElem hkl⟩
      have hrd := row_get In.len hx
      rw [Nat.mul_one] at hrd
      have hgt : (B ++ memoO κ :: J)[B.length]? = some (.cells 9899 (some (3, 1)) (row In.av κ)) := by simp [memoO]
      by_cases h0 : 0 ≤ x
      · have hxe := hK.ok a'.length e x hal he hx h0
        refine ⟨κ, J, lo, ?_, hK, hl0, hl1⟩
        rw [hVe, ← hxe, callE0 (by decide) (af := A97) rfl rfl]
        simp only [stF, memoO, sCs, Town.cs, List.cons_append, List.nil_append] at q2 htk ⊢
        simp [A97, A97_r0, A97_r3, A97_r5, A97_r6, A97_r7, finish, q2, htk, hne, hbe, wk, we, wk2, hkey, mxe, hk0, hk1, hgt, hrd, In.av, h0]
      · have hrec : RecOk t today wh days B (MemoOk t today days) a'.length (fun p => 16 * feeOf t p + 1 + V t today 7 (endB t p) l') (fitB t today e d) (fun p => V t today 7 (endB t p) l') := fun p hp => by
          have hp' := hp
          simp only [fitB, Bool.and_eq_true, decide_eq_true_eq] at hp'
          have hpp := hp'.1.1.1.1.1
          obtain ⟨b1, b2, b3, b4⟩ := end_range hpp g.kinds
          have hr := V_range (t := t) (today := today) 7 (endB t p) l' g.kinds
          refine ⟨hpp, rfl, hr.1, hr.2, fun κ J lo hK hl0 hl1 => ?_⟩
          have hle : d ≤ endB t p := hp'.1.1.1.2
          have hsd : skipD t (endB t p) (days.drop a'.length) = skipD t (endB t p) l' := by
            rw [hdl]
            simp [skipD, hle]
          have hv : V t today 8 (endB t p) (days.drop a'.length) = V t today 7 (endB t p) l' := by
            rw [V_of_skip hsd (fun _ => rfl) 8]
            have hll : l'.length ≤ 7 := by
              have := congrArg List.length hdl
              simp at this
              omega
            exact V_fuel t today 8 7 (endB t p) l' (by omega) hll
          obtain ⟨κ', J', lo', i1, i2, i3, i4⟩ := ih a'.length (endB t p) κ J lo (by omega) (.inr ⟨by omega, by omega⟩) (by
            rw [hsd]
            have := skipD_len t (endB t p) l'
            simp at hs
            omega) hK hl0 hl1
          rw [hv] at i1
          exact ⟨κ', J', lo', i1, i2, i3, i4⟩
        have hnn : (0 : Int) ≤ never := by simp [never]
        obtain ⟨κ1, J1, lo1, o1, o2, o3, o4, o5, o6⟩ := from_out (key := (a'.length : Int) * 1100 + max 0 (e + 1)) (e := e) g hrec hdr.1 hdr.2 hto (by omega) (by omega) t.kinds [] 0 never κ J (B.length + (J.length + 1)) rfl rfl hnn (Int.le_refl _) hK (by omega) (by omega)
        have hval : accV (fun p => 16 * feeOf t p + 1 + V t today 7 (endB t p) l') (fitB t today e d) never (rowsK t today e d 0 t.kinds) = V t today 8 e (days.drop a'.length) := by
          refine (accV_least _ _ _ Least.none).unique ((V_least hsk2).congr fun s => ?_)
          constructor
          · rintro ⟨p, hp, rfl⟩
            refine .inr ⟨p, ?_, hp, rfl⟩
            have hp' := hp
            simp only [fitB, Bool.and_eq_true] at hp'
            have hpp := hp'.1.1.1.1.1
            obtain ⟨y, e1, _, _, c1, c2, c3, c4⟩ := kd_of hpp g.kinds
            rw [fit_of hpp g.kinds e1] at hp
            simp only [Bool.and_eq_true, decide_eq_true_eq] at hp
            exact mem_rowsK.2 ⟨p.kind.toNat, y, e1, by omega, hp.1.1, hp.1.2⟩
          · rintro (h | ⟨p, _, hp, rfl⟩)
            · exact h.elim
            · exact ⟨p, hp, rfl⟩
        rw [hval] at o1 o5 o6
        have hK2 := o2.set (e := e) hal hn he
        refine ⟨_, J1, min lo B.length, ?_, hK2, by omega, by omega⟩
        have hkl1 : a'.length * 1100 + (max 0 (e + 1)).toNat < κ1.length := by rw [o2.len]; omega
        have hgt1 : (B ++ memoO κ1 :: J1)[B.length]? = some (.cells 9899 (some (3, 1)) (row In.av κ1)) := by simp [memoO]
        have hset := row_set (v := V t today 8 e (days.drop a'.length)) hkl1
        have hrl : (row In.av κ1).length = 9900 := by rw [row_len In.len, o2.len]
        have hss : ∀ o' o, (B ++ o' :: J1).set B.length o = B ++ o :: J1   := fun o' o => by simp
        have hnl : ¬ (B.length + (J.length + 1) ≤ min lo1 B.length) := by omega
        have hk2 : a'.length * 1100 + (max 0 (e + 1)).toNat + 1 ≤ 9900 := by omega
        have hmm : min lo (min lo1 B.length) = min lo B.length := by omega
        have hmo : ∀ v, memoO (κ1.set (a'.length * 1100 + (max 0 (e + 1)).toNat) v) = .cells 9899 (some (3, 1)) (row In.av (κ1.set (a'.length * 1100 + (max 0 (e + 1)).toNat) v)) := fun v => rfl
        rw [hVe, callE0 (by decide) (af := A97) rfl rfl]
        have hnv : (1073741824 : Int) = never := rfl
        generalize hVV : V t today 8 e (days.drop a'.length) = VV at *
        simp only [List.append_assoc, List.cons_append, List.nil_append] at hset
        simp only [stF, memoO, sCs, Town.cs, List.cons_append, List.nil_append] at q2 o1 htk ⊢
        simp [A97, A97_r0, A97_r3, A97_r5, A97_r6, A97_r8, A97_r9, A97_r10, A97_r20, A97_r21, finish, q2, htk, hne, hbe, wk, we, wk2, hkey, mxe, hk0, hk1, hgt, hrd, In.av, h0, hdd, hal, hnv, o1, hgt1, hrl, hk2, mods, hss, hset, hnl, hmm]
end
end Go.Proofs.Tryd

namespace Go.Proofs.Tryd
open Go Go.Proofs.AM

theorem appR_ev (B : List AObj) (n : Nat) (d : Int) (hb : n ≤ 100000) : appA 1 3 8 (outR B.length (List.replicate n d)) (.lst (some false) true 1 [.int .i64 d]) { heap := B ++ dat (List.replicate n d), low := B.length } = some (outR B.length (List.replicate (n + 1) d), { heap := B ++ dat (List.replicate (n + 1) d), low := B.length }) := by
  cases n with
  | zero => simp [appA, sliceCells, outR, dat, alloc, room, row, In.av]
  | succ n =>
    have hl : (row In.av (List.replicate (n + 1) d)).length = n + 1 := by rw [row_len In.len]; simp
    have hr : List.replicate (n + 1 + 1) d = List.replicate (n + 1) d ++ [d] := by rw [List.replicate_succ']
    have ha : row In.av (List.replicate (n + 1 + 1) d) = row In.av (List.replicate (n + 1) d) ++ [.int .i64 d] := by rw [hr, row_append]; rfl
    have h1 : (n + 1 + 1) * 8 ≤ room := by unfold room; omega
    have h2 : n + 1 + 1 ≤ room := by unfold room; omega
    rw [List.replicate_succ] at hl ha
    simp only [List.replicate_succ, outR, dat] at hl ha ⊢
    simp [appA, sliceCells, mods, h1, h2, hl, ha, get_app0, set_app0]
section
variable {t : Town} {today : Int} {wh : Hd} {days : List Int}
def priceV (t : Town) (today : Int) (days : List Int) : Int := if days.any (barredB t) = true then never else V t today 8 (-1000) days
theorem price_bar (hf : t.Fits) (hn : days.length ≤ 8) (st : St) (hlo : st.low ≤ st.heap.length) : ∀ (b a : List Int) (k : Int), k = a.length → days = a ++ b →
    loopC E0 [1, 2, 3, 7] [3] A75_l0 { ts := [(1, .v (.int .i64 today)), (2, .v (lstA wh In.av days)), (3, .loc 3 0), (7, .v (.int .i64 k))], bs := [(3, t.cs)] } st
    = if b.any (barredB t) = true then some (.ret, { ts := [(6, .v (.int .i64 1073741824))], bs := [] }, st)
      else some (.exit 0, { ts := [(1, .v (.int .i64 today)), (2, .v (lstA wh In.av days)), (3, .loc 3 0), (7, .v (.int .i64 days.length)), (13, .v (.bool false))], bs := [(3, t.cs)] }, st)
  | [], a, k, hk, eq => by
    simp only [List.append_nil] at eq
    subst eq hk
    rw [loopC_eq]
    simp [A75_l0, A75_r2]
  | x :: b, a, k, hk, eq => by
    subst hk
    have hm : min st.low st.heap.length = st.low := Nat.min_eq_left hlo
    have hlt : a.length < days.length := by rw [eq]; simp
    have hd := drop_ints eq
    have w1 : IntKind.wrap .i64 ((a.length : Int) + 1) = (a.length : Int) + 1 := wrap_small (by omega) (by omega)
    have hba := barredR_ev hf x
    simp only [Town.cs] at hba
    cases hb : barredB t x with
    | true =>
      rw [loopC_eq]
      simp [A75_l0, A75_r2, A75_r4, A75_r5, regionA_st s75_r4, Town.cs, hlt, hd, hm, hba, hb]
    | false =>
      rw [loopC_norm (fr' := { ts := [(1, .v (.int .i64 today)), (2, .v (lstA wh In.av days)), (3, .loc 3 0), (7, .v (.int .i64 ((a ++ [x]).length : Int)))], bs := [(3, t.cs)] }) (st' := st) (by
        simp [A75_l0, A75_r2, A75_r3, A75_r4, A75_r5, regionA_st s75_r4, Town.cs, hlt, hd, hm, hba, hb, w1]), price_bar hf hn st hlo b (a ++ [x]) _ rfl (by simp [eq])]
      simp [hb]

theorem pf1 (fr : Fr) (st : St) (n : Int) (o1 : AV) (hlt : ¬ (n : Int) < 9900) : loopC E0 [8, 9] [8] A75_l1 { ts := [(8, .loc 8 0), (9, .v (.int .i64 n))], bs := [(8, t.cs ++ [.int .i64 today, lstA wh In.av days, o1])] } st
  = some (.exit 2, { ts := [(8, .loc 8 0), (9, .v (.int .i64 n)), (27, .v (.bool false))], bs := [(8, t.cs ++ [.int .i64 today, lstA wh In.av days, o1])] }, st) := by
  rw [loopC_eq]
  simp [A75_l1, A75_r8, hlt]
theorem pf2 (st st' : St) (n : Int) (o1 o2 : AV) (hlt : (n : Int) < 9900) (w1 : IntKind.wrap .i64 ((n : Int) + 1) = (n : Int) + 1) (ha : appA 1 3 8 o1 (.lst (some false) true 1 [.int .i64 (-1)]) st = some (o2, st')) (e2 : o2.cells = some [o2]) : loopC E0 [8, 9] [8] A75_l1 { ts := [(8, .loc 8 0), (9, .v (.int .i64 n))], bs := [(8, t.cs ++ [.int .i64 today, lstA wh In.av days, o1])] } st
  = loopC E0 [8, 9] [8] A75_l1 { ts := [(8, .loc 8 0), (9, .v (.int .i64 (n + 1)))], bs := [(8, t.cs ++ [.int .i64 today, lstA wh In.av days, o2])] } st' := by
  apply loopC_norm
  simp [A75_l1, A75_r8, A75_r9, A75_r10, Town.cs, hlt, w1, ha, e2]
theorem price_fill (B : List AObj) {Z : Nat} (hZ : (Z : Int) = 9900) : ∀ (r n : Nat), n + r = Z →
    loopC E0 [8, 9] [8] A75_l1 { ts := [(8, .loc 8 0), (9, .v (.int .i64 n))], bs := [(8, t.cs ++ [.int .i64 today, lstA wh In.av days, outR B.length (List.replicate n (-1))])] } { heap := B ++ dat (List.replicate n (-1)), low := B.length }
    = some (.exit 2, { ts := [(8, .loc 8 0), (9, .v (.int .i64 ((n + r : Nat) : Int))), (27, .v (.bool false))], bs := [(8, t.cs ++ [.int .i64 today, lstA wh In.av days, outR B.length (List.replicate (n + r) (-1))])] }, { heap := B ++ dat (List.replicate (n + r) (-1)), low := B.length })
  | 0, n, h => pf1 ⟨[], []⟩ _ _ _ (by rw [← hZ]; omega)
  | r + 1, n, h => by
    have e1 : ∀ m : Nat, (outR B.length (List.replicate m (-1))).cells = some [outR B.length (List.replicate m (-1))] := fun m => by
      cases m <;> simp [outR, List.replicate_succ]
    rw [pf2 _ _ _ _ _ (by rw [← hZ]; omega) (wrap_small (by omega) (by omega)) (appR_ev B n (-1) (by omega)) (e1 (n + 1))]
    have ih := price_fill B hZ r (n + 1) (by omega)
    rw [show n + (r + 1) = n + 1 + r by omega]
    exact ih
theorem price_ev (hf : t.Fits) (g : Good t) (hto : amid today 0 999 = true) (hn : days.length ≤ 8) (hds : ∀ x ∈ days, 0 ≤ x ∧ x ≤ 999) (st : St) : callE E0 false (.fn 75 [] []) [.agg t.cs, .int .i64 today, lstA wh In.av days] st = some (.int .i64 (priceV t today days), st) := by
  rw [callE0 (by decide) (af := A75) rfl rfl]
  have hb := price_bar (today := today) (wh := wh) hf hn { heap := st.heap, low := st.heap.length } (Nat.le_refl _) days [] 0 rfl rfl
  unfold priceV
  by_cases hbb : days.any (barredB t) = true
  · rw [if_pos hbb] at hb ⊢
    simp only [Town.cs] at hb
    simp [A75, A75_r0, A75_r1, finish, Town.cs, hb, never]
  · rw [if_neg hbb] at hb ⊢
    have hfl := price_fill (t := t) (today := today) (wh := wh) (days := days) st.heap (Z := 9900) rfl 9900 0 (Nat.zero_add _)
    have hrep : List.replicate 9900 (-1 : Int) = (-1) :: List.replicate 9899 (-1) := List.replicate_succ
    have hlen : (List.replicate 9900 (-1 : Int)).length = 9900 := List.length_replicate
    have hget : ∀ i v, (List.replicate 9900 (-1 : Int))[i]? = some v → v = -1 := fun i v h => by
      have := List.mem_of_getElem? h
      exact List.eq_of_mem_replicate this
    have h99 : (List.replicate 9899 (-1 : Int)).length = 9899 := List.length_replicate
    rw [Nat.zero_add] at hfl
    generalize hκ : List.replicate 9900 (-1 : Int) = κ at *
    generalize hκ' : List.replicate 9899 (-1 : Int) = κ9 at *
    have hmem : MemoOk t today days κ := ⟨hlen, fun place e v _ _ hv h0 => by have := hget _ _ hv; omega⟩
    have hdat : dat κ = [memoO κ] := by rw [hrep, dat, h99]; rfl
    have hout : ∀ N, outR N κ = .sl 1 N 9899 0 9900 none := fun N => by rw [hrep, outR, h99]
    have hd0 : dat (List.replicate 0 (-1)) = [] := rfl
    have ho0 : ∀ N, outR N (List.replicate 0 (-1)) = .lst (some true) true 0 [] := fun N => rfl
    rw [hdat, hout, hd0, ho0] at hfl
    obtain ⟨κ2, J2, lo2, f1, f2, f3, f4⟩ := from_ev (wh := wh) hf g hto hn hds st.heap 8 0 (-1000) κ [] st.heap.length (by omega) (.inl rfl) (by
      have := skipD_len t (-1000) days
      simp
      omega) hmem (Nat.le_refl _) (by simp)
    rw [List.drop_zero] at f1
    simp only [Town.cs, stF, sCs, List.cons_append, List.nil_append] at hb hfl f1
    generalize V t today 8 (-1000) days = VV at *
    simp at hfl f1
    simp [A75, A75_r0, A75_r1, A75_r6, A75_r7, A75_r11, finish, Town.cs, hb, hfl, f1, f3]
end
end Go.Proofs.Tryd

namespace Go.Proofs.Tryd
open Go Go.Proofs.AM

def cmpV (a b : Int) : Int := if a < b then -1 else if b < a then 1 else 0
@[simp] theorem cmp_ev (a b : Int) (st : St) : callE E0 false (.fn 79 [] []) [.int .i64 a, .int .i64 b] st = some (.int .i64 (cmpV a b), st) := by
  have hn : ∀ (x : Int) (s : St), callE E0 false (.fn 99 [] []) [.int .i64 x] s = some (.bool false, s) := fun x s => by
    rw [callE0 (by decide) (af := A99) rfl rfl]
    simp [A99, A99_r0, A99_r1, finish]
  rw [callE0 (by decide) (af := A79) rfl rfl]
  unfold cmpV
  by_cases h1 : a < b
  · simp [A79, A79_r0, A79_r1, A79_r2, A79_r3, A79_r4, A79_r5, A79_r6, A79_r7, A79_r8, A79_r9, A79_r10, A79_r11, A79_r12, A79_r13, finish, hn, h1]
  · by_cases h2 : b < a <;> simp [A79, A79_r0, A79_r1, A79_r2, A79_r3, A79_r4, A79_r5, A79_r6, A79_r7, A79_r8, A79_r9, A79_r10, A79_r11, A79_r12, A79_r13, finish, hn, h1, h2]
def orV : List Int → Int
  | [] => 0
  | x :: l => if x = 0 then orV l else x
theorem or_loop {h : Hd} {l : List Int} (hl : l.length ≤ 1000) (st : St) : ∀ (b a : List Int) (k : Int), k = a.length → l = a ++ b →
    ∃ k', loopC E0 [3, 6, 7, 8] [] A78_l0 { ts := [(3, .v (.int .i64 0)), (6, .v (lstA h In.av l)), (7, .v (.int .i64 l.length)), (8, .v (.int .i64 k))], bs := [] } st
    = if b.all (fun x => decide (x = 0)) = true then some (.exit 0, { ts := [(3, .v (.int .i64 0)), (6, .v (lstA h In.av l)), (7, .v (.int .i64 l.length)), (8, .v (.int .i64 k')), (9, .v (.bool false))], bs := [] }, st)
      else some (.ret, { ts := [(2, .v (.int .i64 (orV b)))], bs := [] }, st)
  | [], a, k, hk, e => by
    simp only [List.append_nil] at e
    subst e hk
    refine ⟨l.length, ?_⟩
    rw [loopC_eq]
    simp [A78_l0, A78_r3]
  | x :: b, a, k, hk, e => by
    subst hk
    have hlt : a.length < l.length := by rw [e]; simp
    have hd := drop_ints e
    have hw : IntKind.wrap .i64 ((a.length : Int) + 1) = (a.length : Int) + 1 := wrap_small (by omega) (by omega)
    by_cases hx : x = 0
    · obtain ⟨k', ih⟩ := or_loop (h := h) hl st b (a ++ [x]) _ rfl (by simp [e])
      refine ⟨k', ?_⟩
      rw [loopC_norm (fr' := { ts := [(3, .v (.int .i64 0)), (6, .v (lstA h In.av l)), (7, .v (.int .i64 l.length)), (8, .v (.int .i64 ((a ++ [x]).length : Int)))], bs := [] }) (st' := st) (by
        simp [A78_l0, A78_r3, A78_r4, A78_r5, A78_r6, A78_r7, hlt, hd, hx, hw]), ih]
      simp [hx, orV]
    · refine ⟨0, ?_⟩
      have hx' : (x != 0) = true := by simpa using hx
      rw [loopC_eq]
      simp [A78_l0, A78_r3, A78_r4, A78_r5, A78_r6, hlt, hd, hx, hx', orV]
theorem orV_zero : ∀ {l : List Int}, l.all (fun x => decide (x = 0)) = true → orV l = 0
  | [], _ => rfl
  | x :: l, h => by
    simp only [List.all_cons, Bool.and_eq_true, decide_eq_true_eq] at h
    simp [orV, h.1, orV_zero h.2]
theorem or_ev {h : Hd} {l : List Int} (hl : l.length ≤ 1000) (st : St) : callE E0 false (.fn 78 [] []) [lstA h In.av l] st = some (.int .i64 (orV l), st) := by
  rw [callE0 (by decide) (af := A78) rfl rfl]
  obtain ⟨k', ho⟩ := or_loop (h := h) hl { st with low := st.heap.length } l [] 0 rfl rfl
  by_cases hz : l.all (fun x => decide (x = 0)) = true
  · rw [if_pos hz] at ho
    simp [A78, A78_r0, A78_r1, A78_r2, A78_r8, finish, ho, orV_zero hz]
  · rw [if_neg hz] at ho
    simp [A78, A78_r0, A78_r1, A78_r2, A78_r8, finish, ho]
theorem sum_loop {h : Hd} {l : List Int} (hl : l.length ≤ 1000) (hb : ∀ x ∈ l, 0 ≤ x ∧ x ≤ 1000000000) (st : St) : ∀ (b a : List Int) (k c : Int), k = a.length → l = a ++ b → 0 ≤ c → c ≤ 1000000000 * a.length →
    loopC E0 [3, 6, 7, 8] [] A107_l0 { ts := [(3, .v (.int .i64 c)), (6, .v (lstA h In.av l)), (7, .v (.int .i64 l.length)), (8, .v (.int .i64 k))], bs := [] } st
    = some (.exit 0, { ts := [(3, .v (.int .i64 (c + b.sum))), (6, .v (lstA h In.av l)), (7, .v (.int .i64 l.length)), (8, .v (.int .i64 l.length)), (9, .v (.bool false))], bs := [] }, st)
  | [], a, k, c, hk, e, _, _ => by
    simp only [List.append_nil] at e
    subst e hk
    rw [loopC_eq]
    simp [A107_l0, A107_r3]
  | x :: b, a, k, c, hk, e, h0, h1 => by
    subst hk
    have hx := hb x (by simp [e])
    have hlt : a.length < l.length := by rw [e]; simp
    have hd := drop_ints e
    have hw : IntKind.wrap .i64 ((a.length : Int) + 1) = (a.length : Int) + 1 := wrap_small (by omega) (by omega)
    have hw2 : IntKind.wrap .i64 (c + x) = c + x := wrap_small (by omega) (by omega)
    rw [loopC_norm (fr' := { ts := [(3, .v (.int .i64 (c + x))), (6, .v (lstA h In.av l)), (7, .v (.int .i64 l.length)), (8, .v (.int .i64 ((a ++ [x]).length : Int)))], bs := [] }) (st' := st) (by
      simp [A107_l0, A107_r3, A107_r4, A107_r5, A107_r6, hlt, hd, hw, hw2]), sum_loop (h := h) hl hb st b (a ++ [x]) _ (c + x) rfl (by simp [e]) (by omega) (by simp; omega)]
    simp [Int.add_assoc]
theorem sum_ev {h : Hd} {l : List Int} (hl : l.length ≤ 1000) (hb : ∀ x ∈ l, 0 ≤ x ∧ x ≤ 1000000000) (st : St) : callE E0 false (.fn 107 [] []) [lstA h In.av l] st = some (.int .i64 l.sum, st) := by
  rw [callE0 (by decide) (af := A107) rfl rfl]
  have ho := sum_loop (h := h) hl hb { st with low := st.heap.length } l [] 0 0 rfl rfl (by omega) (by simp)
  simp [A107, A107_r0, A107_r1, A107_r2, A107_r7, finish, ho]
@[simp] theorem cheaper_ev (st : St) : callE E0 false (.fn 102 [] []) [] st = some (.agg [.fn 109 [] []], st) := by
  rw [callE0 (by decide) (af := A102) rfl rfl]
  simp [A102, A102_r0, A102_r1, finish]
@[simp] theorem nothing_ev (st : St) : callE E0 false (.fn 104 [] []) [] st = some (.agg [.bool false, .bool false, .bool false, .bool false, .bool false, .bool false, .bool false, .bool false], st) := by
  rw [callE0 (by decide) (af := A104) rfl rfl]
  simp [A104, A104_r0, A104_r1, A104_r2, finish]
@[simp] theorem none_ev (st : St) : callE E0 false (.fn 105 [] []) [] st = some (.agg [.int .i64 (-1), .lst (some true) true 0 []], st) := by
  rw [callE0 (by decide) (af := A105) rfl rfl]
  simp [A105, A105_r0, A105_r1, finish]
def thanV (c n c' n' : Int) : Int := orV [cmpV c c', cmpV n n']
theorem than_ev {c c' : Int} {h h' : Hd} {l l' : List Pp} (st : St) : callE E0 false (.fn 109 [] []) [.agg [.int .i64 c, lstA h Pp.av l], .agg [.int .i64 c', lstA h' Pp.av l']] st = some (.int .i64 (thanV c l.length c' l'.length), st) := by
  rw [callE0 (by decide) (af := A109) rfl rfl]
  have ho := fun s => or_ev (h := ⟨some false, true⟩) (l := [cmpV c c', cmpV l.length l'.length]) (by simp) s
  simp only [lstA, row, In.av, List.length_cons, List.length_nil, List.singleton_append, List.cons_append, List.nil_append] at ho
  simp [A109, A109_r0, A109_r1, regionA_st s109_r1, finish, ho, thanV]
theorem than_lt {c c' n n' : Int} (hn : 0 ≤ n ∧ n ≤ 15) (hn' : 0 ≤ n' ∧ n' ≤ 15) : thanV c n c' n' < 0 ↔ 16 * c + n < 16 * c' + n' := by
  unfold thanV cmpV orV orV orV
  by_cases h1 : c < c'
  · simp [h1]; try omega
  · by_cases h2 : c' < c
    · simp [h1, h2]; try omega
    · have : c = c' := by omega
      subst this
      by_cases h3 : n < n'
      · simp [h3]
      · by_cases h4 : n' < n
        · simp [h3, h4]; try omega
        · simp [h3, h4]
end Go.Proofs.Tryd

namespace Go.Proofs.Tryd
open Go Go.Proofs.AM

section
variable {t : Town} {today : Int} {wh : Hd} {days : List Int} {m : Nat}
/-- What a planner is handed. -/
def wCs (t : Town) (m : Nat) (today : Int) (wh : Hd) (days : List Int) : List AV := t.cs ++ [.map m, .int .i64 today, lstA wh In.av days]
def lastCs : Option Pp → List AV
  | none => [.int .i64 (-1), .int .i64 (-1)]
  | some q => q.av
def endO (t : Town) : Option Pp → Int
  | none => -1000
  | some q => endB t q
def lastOk (t : Town) : Option Pp → Prop
  | none => True
  | some q => paperB t q = true
def canB (t : Town) (today e : Int) (p : Pp) : Bool := decide (noticeOf t p ≤ p.first - today) && decide (e + t.pause + 1 ≤ p.first) && t.held.all fun q => goesB t p q
theorem can1_ev {a b : Nat} {p q : Pp} (hp : paperB t p = true) (hq : paperB t q = true) (hk : t.kinds.all kdB = true) (st : St) (ha : st.heap[a]? = some (.cells 0 none (wCs t m today wh days))) (hb : st.heap[b]? = some (.cells 0 none p.av)) :
    callE E0 false (.fn 110 [] [.ref a 0 0, .ref b 0 0]) [.agg q.av] st = some (.bool (!goesB t p q), st) := by
  rw [callE0 (by decide) (af := A110) rfl rfl]
  have hg := goes_ev t m p q hp hq hk
  simp only [Town.cs, Pp.av, wCs, List.cons_append, List.nil_append] at hg ha hb
  simp [A110, A110_r0, A110_r1, finish, Pp.av, ha, hb, hg]
theorem can_last (g : Good t) (hto : amid today 0 999 = true) {last : Option Pp} (hla : lastOk t last) {p : Pp} (hp : paperB t p = true) (B : List AObj) :
    codeE E0 (.region A106_r1 (some [[], [0], [], [2], [1, 3], [], [5], [6], [7], [], [9], [8, 10], [11], [12], [4, 13], [14], [15], [15], [16, 17, 15], [18, 15, 15], [19], [20, 19], [19], [22, 19], [21, 23, 19], [24, 19, 19], [25], [26, 25], [25], [25], [27, 28, 29, 25, 25], [25, 30, 19], [31, 19], [19, 32, 15], [15, 33]]) [3, 5, 41] [] [])
      { ts := [(3, .v (.ref B.length 0 0)), (4, .loc 4 0), (5, .v (.ref (B.length + 1) 0 0))], bs := [(4, lastCs last)] } { heap := B ++ [.cells 0 none (wCs t m today wh days), .cells 0 none p.av], low := B.length }
    = some (.norm, { ts := [(3, .v (.ref B.length 0 0)), (5, .v (.ref (B.length + 1) 0 0)), (41, .v (.bool (!(decide (noticeOf t p ≤ p.first - today) && decide (endO t last + t.pause + 1 ≤ p.first)))))], bs := [] }, { heap := B ++ [.cells 0 none (wCs t m today wh days), .cells 0 none p.av], low := B.length }) := by
  obtain ⟨kk, e1, e2, n1, n2, k0, k1, f0, f1⟩ := kn_of hp g.kinds
  have hdk := row_get Kd.len e1
  have hto' := amid_iff.1 hto
  have w1 : IntKind.wrap .i64 (p.first - today) = p.first - today := wrap_small (by omega) (by omega)
  have hpa := amid_iff.1 g.pause
  rw [e2]
  by_cases hn : kk.notice ≤ p.first - today
  · have hn' : ¬ p.first - today < kk.notice := by omega
    cases last with
    | none =>
      have h0 : endO t none + t.pause + 1 ≤ p.first := by simp only [endO]; omega
      simp [A106_r1, regionA_st s106_r1, lastCs, wCs, Town.cs, Pp.av, get_app0, get_app, w1, k0, k1, hdk, Kd.av, hn, hn', h0, eqL]
    | some q =>
      have hq : paperB t q = true := hla
      have hqk := hq
      simp only [paperB, Bool.and_eq_true, amid_iff] at hqk
      have hb1 : (q.kind == -1) = false := by simp; omega
      obtain ⟨a1, a2, a3, a4⟩ := end_range hq g.kinds
      have hg := goes_ev t m q p hq hp g.kinds
      simp only [Town.cs, Pp.av, List.cons_append, List.nil_append] at hg
      by_cases h1 : q.first < p.first
      · have hgv : goesB t q p = decide (endO t (some q) + t.pause + 1 ≤ p.first) := by
          unfold goesB
          rw [if_neg (by omega)]
          apply decide_eq_decide.2
          simp only [endO]
          omega
        simp [A106_r1, regionA_st s106_r1, lastCs, wCs, Town.cs, Pp.av, get_app0, get_app, w1, k0, k1, hdk, Kd.av, hn, hn', eqL, hb1, h1, hg, hgv]
      · have h0 : ¬ endO t (some q) + t.pause + 1 ≤ p.first := by simp only [endO]; omega
        simp [A106_r1, regionA_st s106_r1, lastCs, wCs, Town.cs, Pp.av, get_app0, get_app, w1, k0, k1, hdk, Kd.av, hn, hn', eqL, hb1, h1, h0]
  · have hn' : p.first - today < kk.notice := by omega
    simp [A106_r1, regionA_st s106_r1, lastCs, wCs, Town.cs, Pp.av, get_app0, get_app, w1, k0, k1, hdk, Kd.av, hn, hn']
theorem can_ev (g : Good t) (hf : t.Fits) (hto : amid today 0 999 = true) {last : Option Pp} (hla : lastOk t last) {p : Pp} (hp : paperB t p = true) (st : St) : callE E0 false (.fn 106 [] []) [.agg (wCs t m today wh days), .agg (lastCs last), .agg p.av] st = some (.bool (canB t today (endO t last) p), st) := by
  rw [callE0 (by decide) (af := A106) rfl rfl]
  have hl := can_last (m := m) (wh := wh) (days := days) g hto hla hp st.heap
  have hc := contains69_ev (h := t.hh) (g := 110) (cl := [.ref st.heap.length 0 0, .ref (st.heap.length + 1) 0 0]) (pr := fun q => !goesB t p q) (st := { heap := st.heap ++ [.cells 0 none (wCs t m today wh days), .cells 0 none p.av], low := st.heap.length }) hf.h (fun hp d => by simp)
    (fun x hx lo => can1_ev (m := m) (today := today) (wh := wh) (days := days) hp (List.all_eq_true.1 g.held x hx) g.kinds _ (by simp [List.getElem?_append_right]) (by simp [List.getElem?_append_right]))
  have hcb : (lastCs last).length = 2 ∧ ∃ a b, lastCs last = [.int .i64 a, .int .i64 b] := by
    cases last with
    | none => exact ⟨rfl, _, _, rfl⟩
    | some q => exact ⟨rfl, _, _, rfl⟩
  obtain ⟨_, a, b, hab⟩ := hcb
  rw [hab] at hl ⊢
  have hany : (!(t.held.any fun q => !goesB t p q)) = t.held.all fun q => goesB t p q := by rw [List.all_eq_not_any_not]
  unfold canB
  simp only [wCs, Town.cs, Pp.av, List.cons_append, List.nil_append] at hl hc ⊢
  cases hx : (decide (noticeOf t p ≤ p.first - today) && decide (endO t last + t.pause + 1 ≤ p.first)) with
  | false =>
    rw [hx] at hl
    simp [A106, A106_r0, A106_r2, A106_r3, finish, alloc, ↓hl]
  | true =>
    rw [hx] at hl
    simp [A106, A106_r0, A106_r2, A106_r3, finish, alloc, ↓hl, hc, hany]
theorem held_loop (g : Good t) (hf : t.Fits) (hn : days.length ≤ 8) (st : St) : ∀ (b a : List Int) (k : Int), k = a.length → days = a ++ b →
    loopC E0 [1, 2, 3, 7, 8, 9] [1, 2, 3] A101_l0 { ts := [(1, .loc 1 0), (2, .loc 2 0), (3, .loc 3 0), (7, .v (lstA wh In.av days)), (8, .v (.int .i64 days.length)), (9, .v (.int .i64 k))], bs := [(1, wCs t m today wh days), (2, List.replicate 8 (.bool false)), (3, a.map (fun x => AV.bool (covB t t.held x)) ++ List.replicate (8 - a.length) (AV.bool false))] } st
    = some (.exit 0, { ts := [(1, .loc 1 0), (2, .loc 2 0), (3, .loc 3 0), (7, .v (lstA wh In.av days)), (8, .v (.int .i64 days.length)), (9, .v (.int .i64 days.length)), (10, .v (.bool false))], bs := [(1, wCs t m today wh days), (2, List.replicate 8 (.bool false)), (3, days.map (fun x => AV.bool (covB t t.held x)) ++ List.replicate (8 - days.length) (AV.bool false))] }, st)
  | [], a, k, hk, e => by
    simp only [List.append_nil] at e
    subst e hk
    rw [loopC_eq]
    simp [A101_l0, A101_r3]
  | x :: b, a, k, hk, e => by
    subst hk
    have hlt : a.length < days.length := by rw [e]; simp
    have hlt8 : a.length < 8 := by omega
    have hd := drop_ints e
    have hw : IntKind.wrap .i64 ((a.length : Int) + 1) = (a.length : Int) + 1 := wrap_small (by omega) (by omega)
    have hcv := covers_ev (m := m) (h := t.hh) x hf.h (fun p hp => List.all_eq_true.1 g.held p hp) g.kinds
    simp only [Town.cs, List.cons_append, List.nil_append] at hcv
    have hlen : (a.map (fun x => AV.bool (covB t t.held x)) ++ List.replicate (8 - a.length) (AV.bool false)).length = 8 := by simp; omega
    have hsp : (a.map (fun x => AV.bool (covB t t.held x)) ++ List.replicate (8 - a.length) (AV.bool false)).take a.length ++ [.bool (covB t t.held x)] ++ (a.map (fun x => AV.bool (covB t t.held x)) ++ List.replicate (8 - a.length) (AV.bool false)).drop (a.length + 1) = (a ++ [x]).map (fun x => AV.bool (covB t t.held x)) ++ List.replicate (8 - (a ++ [x]).length) (AV.bool false) := by
      rw [List.take_append_of_le_length (by simp), List.take_of_length_le (by simp), List.drop_append, List.drop_of_length_le (by simp)]
      simp
      omega
    rw [← held_loop g hf hn st b (a ++ [x]) _ rfl (by simp [e])]
    rw [← hsp]
    generalize a.map (fun x => AV.bool (covB t t.held x)) ++ List.replicate (8 - a.length) (AV.bool false) = cs at *
    have hlt8' : (a.length : Int) < 8 := by omega
    have hl9 : a.length + 1 ≤ 8 := by omega
    apply loopC_norm
    simp only [List.append_assoc, List.cons_append, List.nil_append]
    simp [storeA, A101_l0, A101_r3, A101_r4, A101_r5, A101_r6, wCs, Town.cs, hlt, hd, hw, hcv, hlen, hlt8, hlt8', hl9]
def freeL (t : Town) (days : List Int) : List AV := days.map (fun x => AV.bool (covB t t.held x)) ++ List.replicate (8 - days.length) (AV.bool false)
theorem held_ev (g : Good t) (hf : t.Fits) (hn : days.length ≤ 8) (st : St) : callE E0 false (.fn 101 [] []) [.agg (wCs t m today wh days)] st = some (.agg (freeL t days), st) := by
  rw [callE0 (by decide) (af := A101) rfl rfl]
  have ho := held_loop (m := m) (today := today) (wh := wh) g hf hn { st with low := st.heap.length } days [] 0 rfl rfl
  have hl : (freeL t days).length = 8 := by simp [freeL]; omega
  have hpl : ∀ (hp : List AObj) (s d : Nat) (refs : Bool), mapS (AM.settle hp s refs d) (freeL t days) = some (freeL t days, []) := fun hp s d refs => mapS_plain (fun c hc => plainA.scal (by
    simp only [freeL, List.mem_append, List.mem_map, List.mem_replicate] at hc
    rcases hc with ⟨x, _, rfl⟩ | ⟨_, rfl⟩ <;> rfl) d)
  rw [show days.map (fun x => AV.bool (covB t t.held x)) ++ List.replicate (8 - days.length) (AV.bool false) = freeL t days from rfl] at ho
  generalize freeL t days = fl at *
  have htk : fl.take 8 = fl := List.take_of_length_le (by omega)
  simp only [wCs, Town.cs, List.cons_append, List.nil_append, List.map_nil, List.length_nil, Nat.sub_zero, List.replicate] at ho
  simp [A101, A101_r0, A101_r1, A101_r2, A101_r7, finish, wCs, Town.cs, ho, hl, htk, hpl]
end
end Go.Proofs.Tryd

namespace Go.Proofs.Tryd
open Go Go.Proofs.AM

attribute [local simp] opsT trOf accOf boxesOf AOp.uses AO.uses objOf heffOf boxOf allPairs befores pairsFrom pairOk AM.ordB hits AX.slot slotsL slotsP AX.slotO Nat.testBit
theorem eqL_free : ∀ (bl : List Bool), eqL (List.replicate bl.length true) (bl.map AV.bool) (List.replicate bl.length (AV.bool false)) = some (bl.all fun b => !b)
  | [] => rfl
  | b :: bl => by
    simp only [List.length_cons, List.replicate_succ, List.map_cons, eqL, eqL_free bl]
    cases b <;> simp
section
variable {t : Town} {today : Int} {wh : Hd} {days : List Int} {m : Nat}
def freeB (t : Town) (days : List Int) : List Bool := days.map (fun x => covB t t.held x) ++ List.replicate (8 - days.length) false
theorem freeL_eq : freeL t days = (freeB t days).map AV.bool := by simp [freeL, freeB]
theorem free_eqs (hn : days.length ≤ 8) : eqL [true, true, true, true, true, true, true, true] (freeL t days) [.bool false, .bool false, .bool false, .bool false, .bool false, .bool false, .bool false, .bool false] = some ((freeB t days).all fun b => !b) := by
  have h := eqL_free (freeB t days)
  have hl : (freeB t days).length = 8 := by simp [freeB]; omega
  rw [hl, ← freeL_eq] at h
  exact h
theorem free_none {a b : List Int} {x : Int} (e : days = a ++ x :: b) (h : ((freeB t days).all fun b => !b) = true) : covB t t.held x = false := by
  have := List.all_eq_true.1 h (covB t t.held x) (by simp [freeB, e])
  simpa using this
theorem free_get {a b : List Int} {x : Int} (e : days = a ++ x :: b) : ∃ r, (freeL t days).drop a.length = .bool (covB t t.held x) :: r := by
  refine ⟨b.map (fun x => AV.bool (covB t t.held x)) ++ List.replicate (8 - days.length) (AV.bool false), ?_⟩
  unfold freeL
  rw [e]
  simp [List.drop_append]
def onF (iw ifr ion iby : Nat) : AV := .fn 103 [] [.ref iw 0 0, .ref ifr 0 0, .ref ion 0 0, .ref iby 0 0]
set_option maxHeartbeats 2000000 in
theorem on_skip (g : Good t) (hf : t.Fits) (hn : days.length ≤ 8) {last : Option Pp} (hla : lastOk t last) (hx0 : ∀ x ∈ days, 0 ≤ x) {H : List AObj} {lo iw ifr ion iby many : Nat} (hlo : lo ≤ H.length) (hiw : H[iw]? = some (.cells 0 none (wCs t m today wh days))) (hif : H[ifr]? = some (.cells 0 none (freeL t days))) : ∀ (b a : List Int) (k : Int), k = a.length → days = a ++ b → (∀ q, last = some q → ∀ x ∈ b, q.first ≤ x) →
    ∃ a' : List Int, days = a' ++ skipD t (endO t last) b ∧ a.length ≤ a'.length ∧ loopC E0 [0, 1, 3, 4, 5, 6, 9, 10] [9, 10] A103_l0 { ts := [(0, .v (.int .i64 k)), (1, .v (.int .i64 many)), (3, .v (.ref iw 0 0)), (4, .v (.ref ifr 0 0)), (5, .v (.ref ion 0 0)), (6, .v (.ref iby 0 0)), (9, .loc 9 0), (10, .loc 10 0)], bs := [(9, lastCs last), (10, [.int .i64 0, .lst (some true) true 0 []])] } { heap := H, low := lo }
    = some (.exit 0, { ts := [(0, .v (.int .i64 a'.length)), (1, .v (.int .i64 many)), (3, .v (.ref iw 0 0)), (4, .v (.ref ifr 0 0)), (5, .v (.ref ion 0 0)), (6, .v (.ref iby 0 0)), (9, .loc 9 0), (10, .loc 10 0), (53, .v (.bool false))], bs := [(9, lastCs last), (10, [.int .i64 0, .lst (some true) true 0 []])] }, { heap := H, low := lo })
  | [], a, k, hk, e, _ => by
    subst hk
    have hm : min lo H.length = lo := Nat.min_eq_left hlo
    have hiw' : iw < H.length := (List.getElem?_eq_some_iff.1 hiw).1
    have hiw2 : ¬ H.length ≤ iw := by omega
    refine ⟨a, by rw [e]; rfl, Nat.le_refl _, ?_⟩
    simp only [List.append_nil] at e
    have hnl : ¬ (a.length : Int) < days.length := by rw [e]; omega
    simp only [wCs, Town.cs, List.cons_append, List.nil_append] at hiw
    rw [loopC_eq]
    simp [A103_l0, A103_r1, regionA, hiw, hnl, hm, hiw2]
  | x :: b, a, k, hk, e, hq => by
    subst hk
    have hm : min lo H.length = lo := Nat.min_eq_left hlo
    have hiw' : iw < H.length := (List.getElem?_eq_some_iff.1 hiw).1
    have hif' : ifr < H.length := (List.getElem?_eq_some_iff.1 hif).1
    have hiw2 : ¬ H.length ≤ iw := by omega
    have hif2 : ¬ H.length ≤ ifr := by omega
    have hlt : (a.length : Int) < days.length := by rw [e]; simp; omega
    have hx00 := hx0 x (by simp [e])
    have hlt8 : (a.length : Int) < 8 := by omega
    have hd := drop_ints e
    have hw : IntKind.wrap .i64 ((a.length : Int) + 1) = (a.length : Int) + 1 := wrap_small (by omega) (by omega)
    obtain ⟨r, hr⟩ := free_get (t := t) e
    have hfe := free_eqs (t := t) hn
    have hl8 : (freeL t days).length = 8 := by simp [freeL]; omega
    have htk : (freeL t days).take 8 = freeL t days := List.take_of_length_le (by omega)
    have step : ∀ c : Bool, c = (decide (x ≤ endO t last) || covB t t.held x) → codeE E0 A103_l0 { ts := [(0, .v (.int .i64 a.length)), (1, .v (.int .i64 many)), (3, .v (.ref iw 0 0)), (4, .v (.ref ifr 0 0)), (5, .v (.ref ion 0 0)), (6, .v (.ref iby 0 0)), (9, .loc 9 0), (10, .loc 10 0)], bs := [(9, lastCs last), (10, [.int .i64 0, .lst (some true) true 0 []])] } { heap := H, low := lo }
        = if c = true then some (.norm, { ts := [(0, .v (.int .i64 ((a ++ [x]).length : Int))), (1, .v (.int .i64 many)), (3, .v (.ref iw 0 0)), (4, .v (.ref ifr 0 0)), (5, .v (.ref ion 0 0)), (6, .v (.ref iby 0 0)), (9, .loc 9 0), (10, .loc 10 0)], bs := [(9, lastCs last), (10, [.int .i64 0, .lst (some true) true 0 []])] }, { heap := H, low := lo })
          else some (.exit 0, { ts := [(0, .v (.int .i64 a.length)), (1, .v (.int .i64 many)), (3, .v (.ref iw 0 0)), (4, .v (.ref ifr 0 0)), (5, .v (.ref ion 0 0)), (6, .v (.ref iby 0 0)), (9, .loc 9 0), (10, .loc 10 0), (53, .v (.bool false))], bs := [(9, lastCs last), (10, [.int .i64 0, .lst (some true) true 0 []])] }, { heap := H, low := lo }) := by
      intro c hc
      have hfv : ((freeB t days).all fun b => !b) = true → covB t t.held x = false := free_none e
      generalize ((freeB t days).all fun b => !b) = fe at hfe hfv
      generalize freeL t days = fl at *
      simp only [wCs, Town.cs, List.cons_append, List.nil_append] at hiw
      cases last with
      | none =>
        simp only [endO] at hc
        cases hcv : covB t t.held x with
        | true =>
          have hfe' : fe = false := by
            cases fe with
            | false => rfl
            | true => rw [hfv rfl] at hcv; cases hcv
          subst hfe'
          rw [hcv] at hc hr
          simp only [Bool.or_true] at hc
          subst hc
          simp [A103_l0, A103_r1, A103_r2, regionA, hiw, hif, hlt, hlt8, hm, hiw2, hif2, lastCs, hl8, htk, hfe, hr, hw]
        | false =>
          rw [hcv] at hc hr
          have h1000 : c = false := by
            have h9 : ¬ x ≤ -1000 := by omega
            rw [hc]
            simp [h9]
          subst h1000
          cases fe <;> simp [A103_l0, A103_r1, A103_r2, regionA, hiw, hif, hlt, hlt8, hm, hiw2, hif2, lastCs, hl8, htk, hfe, hr, hw, eqL]
      | some q =>
        have hpq : paperB t q = true := hla
        have hqk := hpq
        simp only [paperB, Bool.and_eq_true, amid_iff] at hqk
        have hb1 : (q.kind == -1) = false := by simp; omega
        have hen := end_ev t m q hpq g.kinds
        simp only [Town.cs, Pp.av, List.cons_append, List.nil_append] at hen
        have hqx := hq q rfl x (by simp)
        have ham : amid x q.first (endB t q) = decide (x ≤ endB t q) := by simp [amid, hqx]
        simp only [endO] at hc
        cases hcv : covB t t.held x with
        | true =>
          have hfe' : fe = false := by
            cases fe with
            | false => rfl
            | true => rw [hfv rfl] at hcv; cases hcv
          subst hfe'
          rw [hcv] at hc hr
          simp only [Bool.or_true] at hc
          subst hc
          simp [A103_l0, A103_r1, A103_r2, regionA, hiw, hif, hlt, hlt8, hm, hiw2, hif2, lastCs, hl8, htk, hfe, hr, hw]
        | false =>
          rw [hcv] at hc hr
          by_cases hxe : x ≤ endB t q
          · have hct : c = true := by rw [hc]; simp [hxe]
            subst hct
            cases fe <;> simp [A103_l0, A103_r1, A103_r2, regionA, hiw, hif, hlt, hlt8, hm, hiw2, hif2, lastCs, hl8, htk, hfe, hr, hw, eqL, Pp.av, hb1, hen, ham, hxe, hd]
          · have hct : c = false := by rw [hc]; simp [hxe]
            subst hct
            cases fe <;> simp [A103_l0, A103_r1, A103_r2, regionA, hiw, hif, hlt, hlt8, hm, hiw2, hif2, lastCs, hl8, htk, hfe, hr, hw, eqL, Pp.av, hb1, hen, ham, hxe, hd]
    have hst := step _ rfl
    have ih := on_skip g hf hn hla hx0 hlo hiw hif (ion := ion) (iby := iby) (many := many) b (a ++ [x]) _ rfl (by simp [e]) (fun q h y hy => hq q h y (by simp [hy]))
    by_cases hc : (decide (x ≤ endO t last) || covB t t.held x) = true
    · rw [if_pos hc] at hst
      obtain ⟨a', q1, q2, q3⟩ := ih
      refine ⟨a', by simpa [skipD, hc] using q1, by simp at q2; omega, ?_⟩
      exact (loopC_norm hst).trans q3
    · rw [if_neg hc] at hst
      refine ⟨a, by simp only [skipD]; rw [if_neg hc]; exact e, Nat.le_refl _, ?_⟩
      exact loopC_out hst (by simp)
end
end Go.Proofs.Tryd
