/-
  The plain functions of the chapter, and what the smallest ones of the program answer.
-/
import Derived.Test.YtkifeiienlkmcaaDoorLSt
import Derived.IntWalk
set_option linter.all false
namespace Go.Proofs.Tryd
open Go Go.Proofs.AM

def tab0 : List Ent := [⟨23, [], .bool true⟩]
/-- What the two package variables hold. -/
def Gl : Nat → Option (List AV)
  | 0 => some [.fn 128 [] [], .fn 129 [] [], .fn 130 [] [], .fn 131 [] []]
  | 1 => some [.int .i64 (-1), .int .i64 (-1)]
  | _ => none
def E0 : Env := envT fns Gl tab0
theorem tabE0 {f : Nat} (hf : f ≠ 23) (fs cs args : List AV) : E0.tab (.fn f fs cs) args = none := by
  show tabOf tab0 (.fn f fs cs) args = none
  unfold tabOf
  split
  · rename_i h
    cases h
    simp [tabL, tab0, Ne.symm hf]
  · rfl
/-- A call is its code. -/
theorem callE0 {f : Nat} (hf : f ≠ 23) {af : AF} (h : fns f = some af) {fs cs args : List AV} (hn : (fs ++ args ++ cs).length = af.np) (st : St) : callE E0 false (.fn f fs cs) args st =
    (match codeE E0 af.body { ts := zipA 0 (fs ++ args ++ cs), bs := [] } { st with low := st.heap.length } with
    | some (.exit _, _, _) => none
    | some (_, fr, st') => match resL E0 fr st' af.res with
      | some vs => some (finish false st (tupA vs) st')
      | none => none
    | none => none) := by
  rw [callE_eq, tabE0 hf]
  show bodyA E0 false (.fn f fs cs) args st (codeE E0) = _
  unfold bodyA
  have h' : E0.fns f = some af := h
  simp only [h']
  rw [if_pos hn]
  rfl
/-- Is a number from a low one to a high one? -/
def amid (n lo hi : Int) : Bool := decide (lo ≤ n) && decide (n ≤ hi)
@[simp] theorem inside_ev (n lo hi : Int) (st : St) : callE E0 false (.fn 55 [] []) [.int .i64 n, .int .i64 lo, .int .i64 hi] st = some (.bool (amid n lo hi), st) := by
  rw [callE0 (by decide) (af := A55) rfl rfl]
  unfold amid
  by_cases h : lo ≤ n <;> simp [A55, A55_r0, A55_r1, finish, h]
@[simp] theorem amid_ev (n lo hi : Int) (st : St) : callE E0 false (.fn 46 [] []) [.int .i64 n, .int .i64 lo, .int .i64 hi] st = some (.bool (amid n lo hi), st) := by
  rw [callE0 (by decide) (af := A46) rfl rfl]
  unfold amid
  by_cases h : lo ≤ n <;> simp [A46, A46_r0, A46_r1, finish, h]
/-- Is a span right, from a low number to a high one? -/
def span (a b lo hi : Int) : Bool := decide (lo ≤ a) && decide (a ≤ b) && decide (b ≤ hi)
@[simp] theorem spanned_ev (a b lo hi : Int) (st : St) : callE E0 false (.fn 61 [] []) [.agg [.int .i64 a, .int .i64 b], .int .i64 lo, .int .i64 hi] st = some (.bool (span a b lo hi), st) := by
  rw [callE0 (by decide) (af := A61) rfl rfl]
  unfold span
  by_cases h : lo ≤ a
  · by_cases h2 : a ≤ b <;> simp [A61, A61_r0, A61_r1, finish, h, h2]
  · simp [A61, A61_r0, A61_r1, finish, h]
@[simp] theorem legal_ev (a b lo hi : Int) (st : St) : callE E0 false (.fn 65 [] []) [.agg [.int .i64 a, .int .i64 b], .int .i64 lo, .int .i64 hi] st = some (.bool (span a b lo hi), st) := by
  rw [callE0 (by decide) (af := A65) rfl rfl]
  unfold span
  by_cases h : lo ≤ a
  · by_cases h2 : a ≤ b <;> simp [A65, A65_r0, A65_r1, finish, h, h2]
  · simp [A65, A65_r0, A65_r1, finish, h]
@[simp] theorem isDay_ev (n : Int) (st : St) : callE E0 false (.fn 54 [] []) [.int .i64 n] st = some (.bool (amid n 0 999), st) := by
  rw [callE0 (by decide) (af := A54) rfl rfl]
  simp [A54, A54_r0, A54_r1, finish]
@[simp] theorem isDayR_ev (n : Int) (st : St) : callE E0 false (.fn 57 [] []) [.int .i64 n] st = some (.bool (amid n 0 999), st) := by
  rw [callE0 (by decide) (af := A57) rfl rfl]
  simp [A57, A57_r0, A57_r1, finish]
@[simp] theorem isMinute_ev (n : Int) (st : St) : callE E0 false (.fn 58 [] []) [.int .i64 n] st = some (.bool (amid n 0 1439), st) := by
  rw [callE0 (by decide) (af := A58) rfl rfl]
  simp [A58, A58_r0, A58_r1, finish]
end Go.Proofs.Tryd

namespace Go.Proofs.Tryd
open Go Go.Proofs.AM

structure Kd where
  days : Int
  fee : Int
  notice : Int
structure Sp where
  low : Int
  high : Int
structure Pp where
  kind : Int
  first : Int
structure Hd where
  nl : Option Bool
  ex : Bool
def Kd.av (k : Kd) : List AV := [.int .i64 k.days, .int .i64 k.fee, .int .i64 k.notice]
def Sp.av (s : Sp) : List AV := [.int .i64 s.low, .int .i64 s.high]
def Pp.av (p : Pp) : List AV := [.int .i64 p.kind, .int .i64 p.first]
def In.av (n : Int) : List AV := [.int .i64 n]
/-- Cells of a row. -/
def row {α : Type} (f : α → List AV) : List α → List AV
  | [] => []
  | x :: l => f x ++ row f l
/-- A slice that is handed in. -/
def lstA {α : Type} (h : Hd) (f : α → List AV) (l : List α) : AV := .lst h.nl h.ex l.length (row f l)
structure Town where
  kh : Hd
  kinds : List Kd
  pause : Int
  bh : Hd
  barred : List Sp
  forb : Int
  close : Int
  hh : Hd
  held : List Pp
def Town.cs (t : Town) : List AV := [lstA t.kh Kd.av t.kinds, .int .i64 t.pause, lstA t.bh Sp.av t.barred, .int .i64 t.forb, .int .i64 t.close, lstA t.hh Pp.av t.held]

section
variable {α : Type} {f : α → List AV} {h : Hd} {l : List α}
@[simp] theorem lstA_len : lenA (lstA h f l) = some (.int .i64 l.length) := rfl
@[simp] theorem lstA_cells : (lstA h f l).cells = some [lstA h f l] := rfl
@[simp] theorem lstA_iaddr (es : Nat) (j : Int) : iaddrA es (lstA h f l) j = if 0 ≤ j ∧ j < l.length then some (.v (.pl ((row f l).drop (j.toNat * es)))) else none := rfl
theorem row_scal (hf : ∀ x, ∀ c ∈ f x, c.scal = true) : ∀ l : List α, ∀ c ∈ row f l, c.scal = true
  | [], c, hc => by simp [row] at hc
  | x :: l, c, hc => by
    simp only [row, List.mem_append] at hc
    rcases hc with hc | hc
    · exact hf x c hc
    · exact row_scal hf l c hc
theorem row_len {k : Nat} (hf : ∀ x, (f x).length = k) : ∀ l : List α, (row f l).length = l.length * k
  | [] => by simp [row]
  | x :: l => by simp [row, row_len hf l, hf x, Nat.add_mul, Nat.add_comm]
theorem row_append : ∀ (a b : List α), row f (a ++ b) = row f a ++ row f b
  | [], b => rfl
  | x :: a, b => by simp [row, row_append a b]
theorem row_drop {k : Nat} (hf : ∀ x, (f x).length = k) (a b : List α) : (row f (a ++ b)).drop (a.length * k) = row f b := by
  rw [row_append, ← row_len hf a, List.drop_left]
theorem row_take {k : Nat} (hf : ∀ x, (f x).length = k) (a b : List α) : (row f (a ++ b)).take (a.length * k) = row f a := by
  rw [row_append, ← row_len hf a, List.take_left]
theorem row_get {k : Nat} (hf : ∀ x, (f x).length = k) : ∀ {l : List α} {j : Nat} {x : α}, l[j]? = some x → (row f l).drop (j * k) = f x ++ row f (l.drop (j + 1))
  | [], j, x, h => by simp at h
  | y :: l, 0, x, h => by
    simp only [List.getElem?_cons_zero, Option.some.injEq] at h
    subst h
    simp [row]
  | y :: l, j + 1, x, h => by
    simp only [List.getElem?_cons_succ] at h
    have := row_get hf h
    rw [Nat.add_mul, Nat.one_mul, Nat.add_comm, ← List.drop_drop]
    simp only [row]
    rw [← hf y, List.drop_left, hf y, this, List.drop_succ_cons]
theorem slc_hi {k : Nat} (hf : ∀ x, (f x).length = k) (a b : List α) : slcA k (lstA h f (a ++ b)) none (some (a.length : Int)) none = some (lstA ⟨h.nl, h.ex && ((a.length : Int) == ((a ++ b).length : Int))⟩ f a) := by
  have ht := row_take hf a b
  simp [slcA, lstA, ht]
  omega
theorem lstA_plain (hf : ∀ x, ∀ c ∈ f x, c.scal = true) (d : Nat) : plainA (d + 1) (lstA h f l) := fun c hc => plainA.scal (row_scal hf l c hc) d
end
theorem Kd.sc (x : Kd) : ∀ c ∈ Kd.av x, c.scal = true := by simp [Kd.av]
theorem Sp.sc (x : Sp) : ∀ c ∈ Sp.av x, c.scal = true := by simp [Sp.av]
theorem Pp.sc (x : Pp) : ∀ c ∈ Pp.av x, c.scal = true := by simp [Pp.av]
theorem In.sc (x : Int) : ∀ c ∈ In.av x, c.scal = true := by simp [In.av]
section
variable {hp : List AObj} {s d : Nat} {refs : Bool} {h : Hd}
@[simp] theorem settle_K (l : List Kd) : AM.settle hp s refs (d + 1) (lstA h Kd.av l) = some (lstA h Kd.av l, []) := settle_plain (lstA_plain Kd.sc d)
@[simp] theorem settle_S (l : List Sp) : AM.settle hp s refs (d + 1) (lstA h Sp.av l) = some (lstA h Sp.av l, []) := settle_plain (lstA_plain Sp.sc d)
@[simp] theorem settle_P (l : List Pp) : AM.settle hp s refs (d + 1) (lstA h Pp.av l) = some (lstA h Pp.av l, []) := settle_plain (lstA_plain Pp.sc d)
@[simp] theorem settle_I (l : List Int) : AM.settle hp s refs (d + 1) (lstA h In.av l) = some (lstA h In.av l, []) := settle_plain (lstA_plain In.sc d)
end
/-- Small numbers do not wrap. -/
theorem wrap_small {n : Int} (h1 : -9223372036854775808 ≤ n) (h2 : n ≤ 9223372036854775807) : IntKind.wrap .i64 n = n := by
  exact IntWalk.i64_in n ⟨h1, h2⟩
/-! ### Plain functions on towns -/
def paperB (t : Town) (p : Pp) : Bool := amid p.kind 0 (t.kinds.length - 1) && amid p.first 0 999
def kdB (k : Kd) : Bool := amid k.days 1 30 && amid k.fee 0 1000 && amid k.notice 0 30
def barB : Int → List Sp → Bool
  | _, [] => true
  | e, s :: l => span s.low s.high (e + 1) 999 && barB s.high l
def daysOf (t : Town) (p : Pp) : Int := match t.kinds[p.kind.toNat]? with
  | some k => k.days
  | none => 0
/-- The last day that a licence covers. -/
def endB (t : Town) (p : Pp) : Int := p.first + daysOf t p - 1
/-- Do two licences go together? -/
def goesB (t : Town) (p q : Pp) : Bool := if q.first < p.first then decide (t.pause ≤ p.first - endB t q - 1) else decide (t.pause ≤ q.first - endB t p - 1)
def togB (t : Town) : List Pp → List Pp → Bool
  | _, [] => true
  | pre, p :: post => pre.all (fun q => goesB t p q) && togB t (pre ++ [p]) post
def headB (t : Town) : Bool := amid t.kinds.length 1 4 && amid t.pause 0 20 && decide (t.barred.length ≤ 4) && amid t.forb 0 65535 && amid t.close 0 1439 && decide (t.held.length ≤ 4)
def soundB (t : Town) : Bool := headB t && t.kinds.all kdB && barB (-1) t.barred && t.held.all (paperB t)
/-- Is there such a town? -/
def checkB (t : Town) : Bool := soundB t && togB t [] t.held
/-- Lists that are handed in are no longer than any list. -/
structure Town.Fits (t : Town) : Prop where
  k : t.kinds.length ≤ 9223372036854775807
  b : t.barred.length ≤ 9223372036854775807
  h : t.held.length ≤ 9223372036854775807
theorem Kd.len (x : Kd) : (Kd.av x).length = 3 := rfl
theorem Sp.len (x : Sp) : (Sp.av x).length = 2 := rfl
theorem Pp.len (x : Pp) : (Pp.av x).length = 2 := rfl
theorem In.len (x : Int) : (In.av x).length = 1 := rfl
end Go.Proofs.Tryd

namespace Go.Proofs.Tryd
open Go Go.Proofs.AM

theorem isPaper_ev (t : Town) (hf : t.Fits) (p : Pp) (st : St) : callE E0 false (.fn 62 [] []) [.agg t.cs, .agg p.av] st = some (.bool (paperB t p), st) := by
  rw [callE0 (by decide) (af := A62) rfl rfl]
  have hw : IntKind.wrap .i64 ((t.kinds.length : Int) - 1) = t.kinds.length - 1 := wrap_small (by omega) (by have := hf.k; omega)
  unfold paperB
  cases h : amid p.kind 0 (t.kinds.length - 1) <;> simp [A62, A62_r0, A62_r1, finish, Town.cs, Pp.av, hw, h]
theorem opened_ev (t : Town) (st : St) : callE E0 false (.fn 63 [] []) [.agg t.cs] st = some (.agg (t.cs ++ [.map st.heap.length]), { heap := st.heap ++ [.map []], low := min st.low st.heap.length }) := by
  rw [callE0 (by decide) (af := A63) rfl rfl]
  simp [A63, A63_r0, A63_r1, finish, Town.cs, alloc]
theorem amid_iff {n lo hi : Int} : amid n lo hi = true ↔ lo ≤ n ∧ n ≤ hi := by simp [amid]
theorem kd_of {t : Town} {p : Pp} (hp : paperB t p = true) (hk : t.kinds.all kdB = true) : ∃ k, t.kinds[p.kind.toNat]? = some k ∧ kdB k = true ∧ daysOf t p = k.days ∧ 0 ≤ p.kind ∧ p.kind < t.kinds.length ∧ 0 ≤ p.first ∧ p.first ≤ 999 := by
  simp only [paperB, Bool.and_eq_true, amid_iff] at hp
  have hlt : p.kind.toNat < t.kinds.length := by omega
  refine ⟨t.kinds[p.kind.toNat], List.getElem?_eq_getElem hlt, List.all_eq_true.1 hk _ (List.getElem_mem _), ?_, by omega, by omega, by omega, by omega⟩
  simp [daysOf, List.getElem?_eq_getElem hlt]
theorem end_ev (t : Town) (m : Nat) (p : Pp) (hp : paperB t p = true) (hk : t.kinds.all kdB = true) (st : St) : callE E0 false (.fn 94 [] []) [.agg (t.cs ++ [.map m]), .agg p.av] st = some (.int .i64 (endB t p), st) := by
  rw [callE0 (by decide) (af := A94) rfl rfl]
  obtain ⟨k, e1, hkd, e2, h0, h1, h2, h3⟩ := kd_of hp hk
  simp only [kdB, Bool.and_eq_true, amid_iff] at hkd
  have hw1 : IntKind.wrap .i64 (p.first + k.days) = p.first + k.days := wrap_small (by omega) (by omega)
  have hw2 : IntKind.wrap .i64 (p.first + k.days - 1) = p.first + k.days - 1 := wrap_small (by omega) (by omega)
  have hd := row_get Kd.len e1
  simp [A94, A94_r0, A94_r1, regionA_st s94_r1, finish, Town.cs, Pp.av, h0, h1, hd, Kd.av, hw1, hw2, endB, e2]
end Go.Proofs.Tryd

namespace Go.Proofs.Tryd
open Go Go.Proofs.AM

theorem end_range {t : Town} {p : Pp} (hp : paperB t p = true) (hk : t.kinds.all kdB = true) : p.first ≤ endB t p ∧ endB t p ≤ p.first + 29 ∧ 0 ≤ p.first ∧ p.first ≤ 999 := by
  obtain ⟨k, e1, hkd, e2, h0, h1, h2, h3⟩ := kd_of hp hk
  simp only [kdB, Bool.and_eq_true, amid_iff] at hkd
  simp only [endB, e2]
  omega
theorem goes_ev (t : Town) (m : Nat) (p q : Pp) (hp : paperB t p = true) (hq : paperB t q = true) (hk : t.kinds.all kdB = true) (st : St) : callE E0 false (.fn 88 [] []) [.agg (t.cs ++ [.map m]), .agg p.av, .agg q.av] st = some (.bool (goesB t p q), st) := by
  rw [callE0 (by decide) (af := A88) rfl rfl]
  have hep := end_ev t m p hp hk
  have heq := end_ev t m q hq hk
  obtain ⟨a1, a2, a3, a4⟩ := end_range hp hk
  obtain ⟨b1, b2, b3, b4⟩ := end_range hq hk
  have w1 : IntKind.wrap .i64 (p.first - endB t q) = p.first - endB t q := wrap_small (by omega) (by omega)
  have w2 : IntKind.wrap .i64 (p.first - endB t q - 1) = p.first - endB t q - 1 := wrap_small (by omega) (by omega)
  have w3 : IntKind.wrap .i64 (q.first - endB t p) = q.first - endB t p := wrap_small (by omega) (by omega)
  have w4 : IntKind.wrap .i64 (q.first - endB t p - 1) = q.first - endB t p - 1 := wrap_small (by omega) (by omega)
  simp only [Town.cs, Pp.av, List.cons_append, List.nil_append] at hep heq
  by_cases h : q.first < p.first <;> simp [A88, A88_r0, A88_r1, A88_r2, A88_r3, regionA_st s88_r3, finish, Town.cs, Pp.av, goesB, h, hep, heq, w1, w2, w3, w4]
end Go.Proofs.Tryd

namespace Go.Proofs.Tryd
open Go Go.Proofs.AM

section
variable {t : Town} {m : Nat} {h h' : Hd} {l pre : List Pp} {p : Pp} {n : Int}
theorem tog_in (hk : t.kinds.all kdB = true) (hl : l.length ≤ 9223372036854775807) (hp : paperB t p = true) (st : St) : ∀ (b a : List Pp) (k : Int), k = a.length → pre = a ++ b → pre.length ≤ l.length → (∀ q ∈ b, paperB t q = true) →
    loopC E0 [1, 2, 6, 9, 10, 11, 18, 19, 20] [2, 6] A64_l0
      { ts := [(1, .v (lstA h Pp.av l)), (2, .loc 2 0), (6, .loc 6 0), (9, .v (lstA h Pp.av l)), (10, .v (.int .i64 l.length)), (11, .v (.int .i64 n)), (18, .v (lstA h' Pp.av pre)), (19, .v (.int .i64 pre.length)), (20, .v (.int .i64 k))], bs := [(2, t.cs ++ [.map m]), (6, p.av)] } st
    = if b.all (fun q => goesB t p q) = true then some (.exit 2, { ts := [(1, .v (lstA h Pp.av l)), (2, .loc 2 0), (6, .loc 6 0), (9, .v (lstA h Pp.av l)), (10, .v (.int .i64 l.length)), (11, .v (.int .i64 n)), (18, .v (lstA h' Pp.av pre)), (19, .v (.int .i64 pre.length)), (20, .v (.int .i64 pre.length)), (21, .v (.bool false))], bs := [(2, t.cs ++ [.map m]), (6, p.av)] }, st)
      else some (.ret, { ts := [(4, .v (.bool false))], bs := [] }, st)
  | [], a, k, hk0, e, _, _ => by
    simp only [List.append_nil] at e
    subst e hk0
    rw [loopC_eq]
    simp [A64_l0, A64_r5, A64_r6, A64_r7, A64_r8, A64_r9]
  | q :: b, a, k, hk0, e, hle, hall => by
    subst hk0
    have hq := hall q (by simp)
    have hg := goes_ev t m p q hp hq hk
    simp only [Town.cs, Pp.av, List.cons_append, List.nil_append] at hg
    have hlt : a.length < pre.length := by rw [e]; simp
    have hd : (row Pp.av pre).drop (a.length * 2) = Pp.av q ++ row Pp.av b := by rw [e, row_drop Pp.len]; rfl
    have hw : IntKind.wrap .i64 ((a.length : Int) + 1) = (a.length : Int) + 1 := wrap_small (by omega) (by omega)
    have ih := tog_in hk hl hp st b (a ++ [q]) _ rfl (by simp [e]) hle (fun x hx => hall x (by simp [hx]))
    by_cases hgo : goesB t p q = true
    · rw [loopC_norm (fr' := { ts := [(1, .v (lstA h Pp.av l)), (2, .loc 2 0), (6, .loc 6 0), (9, .v (lstA h Pp.av l)), (10, .v (.int .i64 l.length)), (11, .v (.int .i64 n)), (18, .v (lstA h' Pp.av pre)), (19, .v (.int .i64 pre.length)), (20, .v (.int .i64 ((a ++ [q]).length : Int)))], bs := [(2, t.cs ++ [.map m]), (6, p.av)] }) (st' := st) (by
          simp [A64_l0, A64_r5, A64_r6, A64_r7, A64_r8, A64_r9, hlt, hd, hw, Pp.av, Town.cs, hg, hgo]), ih]
      simp [hgo]
    · rw [loopC_eq]
      simp [A64_l0, A64_r5, A64_r6, A64_r7, A64_r8, A64_r9, hlt, hd, hw, Pp.av, Town.cs, hg, hgo]
theorem tog_out (hk : t.kinds.all kdB = true) (hl : l.length ≤ 9223372036854775807) (st : St) : ∀ (b a : List Pp), l = a ++ b → (∀ q ∈ l, paperB t q = true) →
    loopC E0 [1, 2, 9, 10, 11] [2] A64_l1
      { ts := [(1, .v (lstA h Pp.av l)), (2, .loc 2 0), (9, .v (lstA h Pp.av l)), (10, .v (.int .i64 l.length)), (11, .v (.int .i64 a.length))], bs := [(2, t.cs ++ [.map m])] } st
    = if togB t a b = true then some (.exit 0, { ts := [(1, .v (lstA h Pp.av l)), (2, .loc 2 0), (9, .v (lstA h Pp.av l)), (10, .v (.int .i64 l.length)), (11, .v (.int .i64 l.length)), (12, .v (.bool false))], bs := [(2, t.cs ++ [.map m])] }, st)
      else some (.ret, { ts := [(4, .v (.bool false))], bs := [] }, st)
  | [], a, e, _ => by
    simp only [List.append_nil] at e
    subst e
    rw [loopC_eq]
    simp [A64_l1, A64_r2, A64_r3, A64_r4, A64_r10, togB]
  | q :: b, a, e, hall => by
    have hq := hall q (by simp [e])
    have hlt : a.length < l.length := by rw [e]; simp
    have hd : (row Pp.av l).drop (a.length * 2) = Pp.av q ++ row Pp.av b := by rw [e, row_drop Pp.len]; rfl
    have hw : IntKind.wrap .i64 ((a.length : Int) + 1) = (a.length : Int) + 1 := wrap_small (by omega) (by omega)
    obtain ⟨h', hs⟩ : ∃ h', slcA 2 (lstA h Pp.av l) none (some (a.length : Int)) none = some (lstA h' Pp.av a) := ⟨_, by rw [e]; exact slc_hi Pp.len a (q :: b)⟩
    have hin := tog_in (h := h) (h' := h') (l := l) (m := m) (pre := a) (n := a.length) hk hl hq st a [] 0 rfl rfl (by omega) (fun x hx => hall x (by simp [e, hx]))
    have ih := tog_out hk hl st b (a ++ [q]) (by simp [e]) hall
    simp only [Town.cs, Pp.av, List.cons_append, List.nil_append] at hin
    by_cases hgo : a.all (fun x => goesB t q x) = true
    · rw [if_pos hgo] at hin
      rw [loopC_norm (fr' := { ts := [(1, .v (lstA h Pp.av l)), (2, .loc 2 0), (9, .v (lstA h Pp.av l)), (10, .v (.int .i64 l.length)), (11, .v (.int .i64 ((a ++ [q]).length : Int)))], bs := [(2, t.cs ++ [.map m])] }) (st' := st) (by
          simp [A64_l1, A64_r2, A64_r3, A64_r4, A64_r10, hlt, hd, hw, Pp.av, Town.cs, hs, hin]), ih]
      simp only [togB, hgo, Bool.true_and]
    · rw [if_neg hgo] at hin
      rw [loopC_eq]
      simp [A64_l1, A64_r2, A64_r3, A64_r4, A64_r10, hlt, hd, hw, Pp.av, Town.cs, hs, hin, togB, hgo]
end
end Go.Proofs.Tryd

namespace Go.Proofs.Tryd
open Go Go.Proofs.AM

theorem together_ev (t : Town) (m : Nat) (h : Hd) (l : List Pp) (hk : t.kinds.all kdB = true) (hl : l.length ≤ 9223372036854775807) (hall : ∀ q ∈ l, paperB t q = true) (st : St) :
    callE E0 false (.fn 64 [] []) [.agg (t.cs ++ [.map m]), lstA h Pp.av l] st = some (.bool (togB t [] l), st) := by
  rw [callE0 (by decide) (af := A64) rfl rfl]
  have ho := tog_out (m := m) (h := h) hk hl { st with low := st.heap.length } l [] rfl hall
  simp only [Town.cs, List.cons_append, List.nil_append, List.length_nil] at ho
  cases hb : togB t [] l with
  | true =>
    rw [if_pos hb] at ho
    simp [A64, A64_r0, A64_r1, A64_r11, finish, Town.cs]
    rw [show ((0 : Nat) : Int) = 0 from rfl] at ho
    simp [ho]
  | false =>
    rw [if_neg (by simp [hb])] at ho
    simp [A64, A64_r0, A64_r1, A64_r11, finish, Town.cs]
    rw [show ((0 : Nat) : Int) = 0 from rfl] at ho
    simp [ho]
section
variable {t : Town}
theorem check_l0 (hf : t.Fits) (st : St) : ∀ (b a : List Kd) (k : Int) (ok : Bool), k = a.length → t.kinds = a ++ b →
    loopC E0 [1, 3, 43, 44, 45] [1] A16_l0 { ts := [(1, .loc 1 0), (3, .v (.bool ok)), (43, .v (lstA t.kh Kd.av t.kinds)), (44, .v (.int .i64 t.kinds.length)), (45, .v (.int .i64 k))], bs := [(1, t.cs)] } st
    = some (.exit 0, { ts := [(1, .loc 1 0), (3, .v (.bool (ok && b.all kdB))), (43, .v (lstA t.kh Kd.av t.kinds)), (44, .v (.int .i64 t.kinds.length)), (45, .v (.int .i64 t.kinds.length)), (46, .v (.bool false))], bs := [(1, t.cs)] }, st)
  | [], a, k, ok, hk, e => by
    simp only [List.append_nil] at e
    subst hk
    rw [loopC_eq]
    simp [A16_l0, A16_r3, e]
  | x :: b, a, k, ok, hk, e => by
    subst hk
    have hlt : a.length < t.kinds.length := by rw [e]; simp
    have hd : (row Kd.av t.kinds).drop (a.length * 3) = Kd.av x ++ row Kd.av b := by rw [e, row_drop Kd.len]; rfl
    have hw : IntKind.wrap .i64 ((a.length : Int) + 1) = (a.length : Int) + 1 := wrap_small (by omega) (by have := hf.k; omega)
    have ih := check_l0 hf st b (a ++ [x]) _ (ok && kdB x) rfl (by simp [e])
    rw [loopC_norm (fr' := { ts := [(1, .loc 1 0), (3, .v (.bool (ok && kdB x))), (43, .v (lstA t.kh Kd.av t.kinds)), (44, .v (.int .i64 t.kinds.length)), (45, .v (.int .i64 ((a ++ [x]).length : Int)))], bs := [(1, t.cs)] }) (st' := st) (by
      cases ok with
      | false => simp [A16_l0, A16_r3, A16_r4, A16_r5, A16_r6, hlt, hd, hw, Kd.av, Town.cs]
      | true =>
        unfold kdB
        cases h1 : amid x.days 1 30 with
        | false => simp [A16_l0, A16_r3, A16_r4, A16_r5, A16_r6, hlt, hd, hw, Kd.av, Town.cs, h1]
        | true => cases h2 : amid x.fee 0 1000 <;> simp [A16_l0, A16_r3, A16_r4, A16_r5, A16_r6, hlt, hd, hw, Kd.av, Town.cs, h1, h2]), ih]
    simp [Bool.and_assoc]
theorem check_l1 (hf : t.Fits) (st : St) : ∀ (b a : List Sp) (k : Int) (ok : Bool) (e0 : Int), k = a.length → t.barred = a ++ b → (ok = true → -1 ≤ e0 ∧ e0 ≤ 999) →
    ∃ e1, loopC E0 [1, 3, 6, 67, 68, 69] [1] A16_l1 { ts := [(1, .loc 1 0), (3, .v (.bool ok)), (6, .v (.int .i64 e0)), (67, .v (lstA t.bh Sp.av t.barred)), (68, .v (.int .i64 t.barred.length)), (69, .v (.int .i64 k))], bs := [(1, t.cs)] } st
    = some (.exit 2, { ts := [(1, .loc 1 0), (3, .v (.bool (ok && barB e0 b))), (6, .v (.int .i64 e1)), (67, .v (lstA t.bh Sp.av t.barred)), (68, .v (.int .i64 t.barred.length)), (69, .v (.int .i64 t.barred.length)), (70, .v (.bool false))], bs := [(1, t.cs)] }, st)
  | [], a, k, ok, e0, hk, e, _ => by
    simp only [List.append_nil] at e
    subst hk
    refine ⟨e0, ?_⟩
    rw [loopC_eq]
    simp [A16_l1, A16_r9, e, barB]
  | x :: b, a, k, ok, e0, hk, e, hr => by
    subst hk
    have hlt : a.length < t.barred.length := by rw [e]; simp
    have hd : (row Sp.av t.barred).drop (a.length * 2) = Sp.av x ++ row Sp.av b := by rw [e, row_drop Sp.len]; rfl
    have hw : IntKind.wrap .i64 ((a.length : Int) + 1) = (a.length : Int) + 1 := wrap_small (by omega) (by have := hf.b; omega)
    have hw2 : ok = true → IntKind.wrap .i64 (e0 + 1) = e0 + 1 := fun ho => wrap_small (by have := hr ho; omega) (by have := hr ho; omega)
    obtain ⟨e1, ih⟩ := check_l1 hf st b (a ++ [x]) _ (ok && span x.low x.high (e0 + 1) 999) x.high rfl (by simp [e]) (fun ho => by
      simp only [Bool.and_eq_true, span, decide_eq_true_eq] at ho
      have := hr ho.1
      omega)
    refine ⟨e1, ?_⟩
    rw [loopC_norm (fr' := { ts := [(1, .loc 1 0), (3, .v (.bool (ok && span x.low x.high (e0 + 1) 999))), (6, .v (.int .i64 x.high)), (67, .v (lstA t.bh Sp.av t.barred)), (68, .v (.int .i64 t.barred.length)), (69, .v (.int .i64 ((a ++ [x]).length : Int)))], bs := [(1, t.cs)] }) (st' := st) (by
      cases ok with
      | false => simp [A16_l1, A16_r9, A16_r10, A16_r11, A16_r12, A16_r13, hlt, hd, hw, Sp.av, Town.cs]
      | true => simp [A16_l1, A16_r9, A16_r10, A16_r11, A16_r12, A16_r13, hlt, hd, hw, hw2 rfl, Sp.av, Town.cs]), ih]
    simp [Bool.and_assoc, barB]
theorem check_l2 (hf : t.Fits) (st : St) : ∀ (b a : List Pp) (k : Int) (ok : Bool), k = a.length → t.held = a ++ b →
    loopC E0 [1, 3, 84, 85, 86] [1] A16_l2 { ts := [(1, .loc 1 0), (3, .v (.bool ok)), (84, .v (lstA t.hh Pp.av t.held)), (85, .v (.int .i64 t.held.length)), (86, .v (.int .i64 k))], bs := [(1, t.cs)] } st
    = some (.exit 4, { ts := [(1, .loc 1 0), (3, .v (.bool (ok && b.all (paperB t)))), (84, .v (lstA t.hh Pp.av t.held)), (85, .v (.int .i64 t.held.length)), (86, .v (.int .i64 t.held.length)), (87, .v (.bool false))], bs := [(1, t.cs)] }, st)
  | [], a, k, ok, hk, e => by
    simp only [List.append_nil] at e
    subst hk
    rw [loopC_eq]
    simp [A16_l2, A16_r15, e]
  | x :: b, a, k, ok, hk, e => by
    subst hk
    have hlt : a.length < t.held.length := by rw [e]; simp
    have hd : (row Pp.av t.held).drop (a.length * 2) = Pp.av x ++ row Pp.av b := by rw [e, row_drop Pp.len]; rfl
    have hw : IntKind.wrap .i64 ((a.length : Int) + 1) = (a.length : Int) + 1 := wrap_small (by omega) (by have := hf.h; omega)
    have hp := isPaper_ev t hf x
    simp only [Town.cs, Pp.av] at hp
    have ih := check_l2 hf st b (a ++ [x]) _ (ok && paperB t x) rfl (by simp [e])
    rw [loopC_norm (fr' := { ts := [(1, .loc 1 0), (3, .v (.bool (ok && paperB t x))), (84, .v (lstA t.hh Pp.av t.held)), (85, .v (.int .i64 t.held.length)), (86, .v (.int .i64 ((a ++ [x]).length : Int)))], bs := [(1, t.cs)] }) (st' := st) (by
      cases ok with
      | false => simp [A16_l2, A16_r15, A16_r16, A16_r17, A16_r18, hlt, hd, hw, Pp.av, Town.cs]
      | true => simp [A16_l2, A16_r15, A16_r16, A16_r17, A16_r18, hlt, hd, hw, Pp.av, Town.cs, hp]), ih]
    simp [Bool.and_assoc]
end
end Go.Proofs.Tryd

namespace Go.Proofs.Tryd
open Go Go.Proofs.AM

section
variable {t : Town}
theorem check_r1 (st : St) : codeE E0 (.region A16_r1 none [1, 3] [1]) { ts := [(1, .loc 1 0)], bs := [(1, t.cs)] } st = some (.norm, { ts := [(1, .loc 1 0), (3, .v (.bool (headB t)))], bs := [(1, t.cs)] }, st) := by
  unfold headB
  cases h1 : amid t.kinds.length 1 4 with
  | false => simp [A16_r1, Town.cs, h1]
  | true =>
  cases h2 : amid t.pause 0 20 with
  | false => simp [A16_r1, Town.cs, h1, h2]
  | true =>
  cases h3 : decide (t.barred.length ≤ 4) with
  | false =>
    have h3' : ¬ (t.barred.length : Int) ≤ 4 := by simp at h3; omega
    simp [A16_r1, Town.cs, h1, h2, h3']
  | true =>
  have h3' : (t.barred.length : Int) ≤ 4 := by simp at h3; omega
  have h6 : decide ((t.held.length : Int) ≤ 4) = decide (t.held.length ≤ 4) := by apply decide_eq_decide.2; omega
  cases h4 : amid t.forb 0 65535 with
  | false => simp [A16_r1, Town.cs, h1, h2, h3', h4]
  | true => cases h5 : amid t.close 0 1439 <;> simp [A16_r1, Town.cs, h1, h2, h3', h4, h5, h6]
theorem check_ev (hf : t.Fits) (st : St) : callE E0 false (.fn 16 [] []) [.agg t.cs] st = some (.int .i64 (if checkB t = true then 0 else 50), st) := by
  rw [callE0 (by decide) (af := A16) rfl rfl]
  have r1 := check_r1 (t := t) { st with low := st.heap.length }
  have l0 := check_l0 hf { st with low := st.heap.length } t.kinds [] 0 (headB t) rfl rfl
  obtain ⟨e1, l1⟩ := check_l1 hf { st with low := st.heap.length } t.barred [] 0 (headB t && t.kinds.all kdB) (-1) rfl rfl (by omega)
  have l2 := check_l2 hf { st with low := st.heap.length } t.held [] 0 (headB t && t.kinds.all kdB && barB (-1) t.barred) rfl rfl
  have hso : soundB t = (headB t && t.kinds.all kdB && barB (-1) t.barred && t.held.all (paperB t)) := rfl
  rw [← hso] at l2
  unfold checkB
  simp only [Town.cs] at r1 l0 l1 l2
  obtain ⟨f, q1, q2, q3⟩ := region_inv r1
  simp only at q2 q3
  cases hs : soundB t with
  | false =>
    rw [hs] at l2
    simp [A16, A16_r0, A16_r2, A16_r7, A16_r8, A16_r14, A16_r19, A16_r20, A16_r21, regionA_st s16_r19, finish, Town.cs, q1, ↓q2, ↓q3, l0, l1, l2]
  | true =>
    rw [hs] at l2
    simp only [soundB, Bool.and_eq_true] at hs
    have hall : ∀ q ∈ t.held, paperB t q = true := fun q hq => List.all_eq_true.1 hs.2 q hq
    have ho := opened_ev t
    have ht := fun m st => together_ev t m t.hh t.held hs.1.1.2 hf.h hall st
    simp only [Town.cs, List.cons_append, List.nil_append] at ho ht
    cases htb : togB t [] t.held <;> simp [A16, A16_r0, A16_r2, A16_r7, A16_r8, A16_r14, A16_r19, A16_r20, A16_r21, regionA_st s16_r19, finish, Town.cs, q1, ↓q2, ↓q3, l0, l1, l2, ho, ht, htb]
end
end Go.Proofs.Tryd

namespace Go.Proofs.Tryd
open Go Go.Proofs.AM

/-- No town. -/
def zero7 : List AV := [.lst (some true) true 0 [], .int .i64 0, .lst (some true) true 0 [], .int .i64 0, .int .i64 0, .lst (some true) true 0 [], .nilm]
section
variable {t : Town}
theorem asked_bad (hf : t.Fits) (hc : checkB t = false) (b : Bool) (st : St) : callE E0 false (.fn 53 [] []) [.agg t.cs, .bool b] st = some (.tup [.agg zero7, .int .i64 50], st) := by
  rw [callE0 (by decide) (af := A53) rfl rfl]
  have hch := check_ev hf
  simp only [Town.cs, hc] at hch
  simp [A53, A53_r0, A53_r1, A53_r2, A53_r3, A53_r4, A53_r5, A53_r6, finish, Town.cs, hch, zero7]
theorem asked_no (hf : t.Fits) (hc : checkB t = true) (st : St) : callE E0 false (.fn 53 [] []) [.agg t.cs, .bool false] st = some (.tup [.agg zero7, .int .i64 51], st) := by
  rw [callE0 (by decide) (af := A53) rfl rfl]
  have hch := check_ev hf
  simp only [Town.cs, hc] at hch
  simp [A53, A53_r0, A53_r1, A53_r2, A53_r3, A53_r4, A53_r5, A53_r6, finish, Town.cs, hch, zero7]
theorem asked_ok (hf : t.Fits) (hc : checkB t = true) (st : St) : callE E0 false (.fn 53 [] []) [.agg t.cs, .bool true] st = some (.tup [.agg (t.cs ++ [.map st.heap.length]), .int .i64 0], { heap := st.heap ++ [.map []], low := min st.low st.heap.length }) := by
  rw [callE0 (by decide) (af := A53) rfl rfl]
  have hch := check_ev hf
  have ho := opened_ev t
  simp only [Town.cs, hc, List.cons_append, List.nil_append] at hch ho
  simp [A53, A53_r0, A53_r1, A53_r2, A53_r3, A53_r4, A53_r5, A53_r6, finish, Town.cs, hch, ho]
end
end Go.Proofs.Tryd

namespace Go.Proofs.Tryd
open Go Go.Proofs.AM

def overN (t : Town) (b lo hi : Int) : Int := (if b + lo ≤ t.close then 1 else 0) + (if b + hi ≤ t.close then 1 else 0)
section
variable {t : Town} {b lo hi : Int}
theorem over_loop {m : Nat} (h1 : amid b 0 1439 = true) (h2 : span lo hi 0 1439 = true) (st : St) : loopC E0 [1, 8, 10, 31, 32, 33] [8] A21_l0
      { ts := [(1, .v (.int .i64 b)), (8, .loc 8 0), (10, .v (.int .i64 0)), (31, .v (.lst (some false) true 2 [.int .i64 lo, .int .i64 hi])), (32, .v (.int .i64 2)), (33, .v (.int .i64 0))], bs := [(8, t.cs ++ [.map m])] } st
    = some (.exit 0, { ts := [(1, .v (.int .i64 b)), (8, .loc 8 0), (10, .v (.int .i64 (overN t b lo hi))), (31, .v (.lst (some false) true 2 [.int .i64 lo, .int .i64 hi])), (32, .v (.int .i64 2)), (33, .v (.int .i64 2)), (34, .v (.bool false))], bs := [(8, t.cs ++ [.map m])] }, st) := by
  simp only [amid, span, Bool.and_eq_true, decide_eq_true_eq] at h1 h2
  have w1 : IntKind.wrap .i64 (b + lo) = b + lo := wrap_small (by omega) (by omega)
  have w2 : IntKind.wrap .i64 (b + hi) = b + hi := wrap_small (by omega) (by omega)
  have w3 : IntKind.wrap .i64 1 = 1 := by decide
  have w4 : IntKind.wrap .i64 2 = 2 := by decide
  rw [loopC_norm (fr' := { ts := [(1, .v (.int .i64 b)), (8, .loc 8 0), (10, .v (.int .i64 (if b + lo ≤ t.close then 1 else 0))), (31, .v (.lst (some false) true 2 [.int .i64 lo, .int .i64 hi])), (32, .v (.int .i64 2)), (33, .v (.int .i64 1))], bs := [(8, t.cs ++ [.map m])] }) (st' := st) (by
      by_cases c : b + lo ≤ t.close <;> simp [A21_l0, A21_r6, A21_r7, A21_r8, A21_r9, A21_r10, Town.cs, w1, w3, c]),
    loopC_norm (fr' := { ts := [(1, .v (.int .i64 b)), (8, .loc 8 0), (10, .v (.int .i64 (overN t b lo hi))), (31, .v (.lst (some false) true 2 [.int .i64 lo, .int .i64 hi])), (32, .v (.int .i64 2)), (33, .v (.int .i64 2))], bs := [(8, t.cs ++ [.map m])] }) (st' := st) (by
      unfold overN
      by_cases c1 : b + lo ≤ t.close <;> by_cases c : b + hi ≤ t.close <;> simp [A21_l0, A21_r6, A21_r7, A21_r8, A21_r9, A21_r10, Town.cs, w2, w3, w4, c, c1]),
    loopC_eq]
  simp [A21_l0, A21_r6, A21_r7, A21_r8, A21_r9, A21_r10]
theorem over_bad (hf : t.Fits) (hc : checkB t = false) (st : St) : callE E0 false (.fn 21 [] []) [.agg t.cs, .int .i64 b, .agg [.int .i64 lo, .int .i64 hi]] st = some (.tup [.int .i64 0, .int .i64 50], st) := by
  rw [callE0 (by decide) (af := A21) rfl rfl]
  have ha := asked_bad hf hc
  simp only [Town.cs, zero7] at ha
  cases h1 : amid b 0 1439 <;> cases h2 : span lo hi 0 1439 <;> simp [A21, A21_r0, A21_r1, A21_r2, A21_r3, regionA_st s21_r1, finish, Town.cs, ha, h1, h2]
theorem over_no (hf : t.Fits) (hc : checkB t = true) (h : (amid b 0 1439 && span lo hi 0 1439) = false) (st : St) : callE E0 false (.fn 21 [] []) [.agg t.cs, .int .i64 b, .agg [.int .i64 lo, .int .i64 hi]] st = some (.tup [.int .i64 0, .int .i64 51], st) := by
  rw [callE0 (by decide) (af := A21) rfl rfl]
  have ha := asked_no hf hc
  simp only [Town.cs, zero7] at ha
  cases h1 : amid b 0 1439 <;> cases h2 : span lo hi 0 1439 <;> simp [h1, h2] at h <;> simp [A21, A21_r0, A21_r1, A21_r2, A21_r3, regionA_st s21_r1, finish, Town.cs, ha, h1, h2]
theorem over_ok (hf : t.Fits) (hc : checkB t = true) (h1 : amid b 0 1439 = true) (h2 : span lo hi 0 1439 = true) (st : St) : callE E0 false (.fn 21 [] []) [.agg t.cs, .int .i64 b, .agg [.int .i64 lo, .int .i64 hi]] st = some (.tup [.int .i64 (overN t b lo hi), .int .i64 0], st) := by
  rw [callE0 (by decide) (af := A21) rfl rfl]
  have ha := asked_ok hf hc
  have hl := fun m => over_loop (t := t) (m := m) h1 h2
  simp only [Town.cs, List.cons_append, List.nil_append] at ha hl
  simp [A21, A21_r0, A21_r1, A21_r2, A21_r3, A21_r4, A21_r5, A21_r11, regionA_st s21_r1, finish, Town.cs, ha, h1, h2, hl]
end
end Go.Proofs.Tryd

namespace Go.Proofs.Tryd
open Go Go.Proofs.AM

def turnI (x n : Int) : Int := if x.tmod n < 0 then x.tmod n + n else x.tmod n
theorem turnI_range {x n : Int} (hn : 1 ≤ n) : 0 ≤ turnI x n ∧ turnI x n < n := by
  have h1 := Int.tmod_lt_of_pos x (show 0 < n by omega)
  have h2 : -n < x.tmod n := Int.lt_tmod_of_pos x (show 0 < n by omega)
  unfold turnI
  split <;> omega
theorem turn_ev {x n : Int} (hn : 1 ≤ n) (hm : n ≤ 9223372036854775807) (st : St) : callE E0 false (.fn 35 [] []) [.int .i64 x, .int .i64 n] st = some (.int .i64 (turnI x n), st) := by
  rw [callE0 (by decide) (af := A35) rfl rfl]
  have h1 := Int.tmod_lt_of_pos x (show 0 < n by omega)
  have h2 : -n < x.tmod n := Int.lt_tmod_of_pos x (show 0 < n by omega)
  have hw : IntKind.wrap .i64 (x.tmod n + n) = x.tmod n + n ∨ 0 ≤ x.tmod n := by
    rcases Int.lt_or_le (x.tmod n) 0 with h | h
    · exact .inl (wrap_small (by omega) (by omega))
    · exact .inr h
  have hn' : ¬ n < 1 := by omega
  have hn0 : n ≠ 0 := by omega
  unfold turnI
  by_cases h : x.tmod n < 0
  · have hw' : IntKind.wrap .i64 (x.tmod n + n) = x.tmod n + n := by omega
    simp [A35, A35_r0, A35_r1, A35_r2, A35_r3, A35_r4, A35_r5, A35_r6, finish, h, hn', hn0, hw']
  · simp [A35, A35_r0, A35_r1, A35_r2, A35_r3, A35_r4, A35_r5, A35_r6, finish, h, hn', hn0]
@[simp] theorem S_ev (a b : Int) (st : St) : callE E0 false (.fn 40 [] []) [.int .i64 a, .int .i64 b] st = some (.agg [.int .i64 a, .int .i64 b], st) := by
  rw [callE0 (by decide) (af := A40) rfl rfl]
  simp [A40, A40_r0, A40_r1, finish]
theorem empty_ev (a b : Int) (st : St) : callE E0 false (.fn 83 [] []) [.agg [.int .i64 a, .int .i64 b]] st = some (.bool (decide (b < a)), st) := by
  rw [callE0 (by decide) (af := A83) rfl rfl]
  simp [A83, A83_r0, A83_r1, finish]
theorem choose_ev {a b n : Int} (h : a ≤ b) (ha : 0 ≤ a) (hb : b ≤ 1000000) (st : St) : callE E0 false (.fn 41 [] []) [.agg [.int .i64 a, .int .i64 b], .int .i64 n] st = some (.int .i64 (a + turnI n (b - a + 1)), st) := by
  rw [callE0 (by decide) (af := A41) rfl rfl]
  have ht := fun st => turn_ev (x := n) (n := b - a + 1) (by omega) (by omega) st
  have hr := turnI_range (x := n) (n := b - a + 1) (by omega)
  have w1 : IntKind.wrap .i64 (b - a) = b - a := wrap_small (by omega) (by omega)
  have w2 : IntKind.wrap .i64 (b - a + 1) = b - a + 1 := wrap_small (by omega) (by omega)
  have w3 : IntKind.wrap .i64 (a + turnI n (b - a + 1)) = a + turnI n (b - a + 1) := wrap_small (by omega) (by omega)
  have h' : ¬ b < a := by omega
  simp [A41, A41_r0, A41_r1, A41_r2, A41_r3, regionA_st s41_r3, finish, empty_ev, ht, w1, w2, w3, h']
section
variable {t : Town}
theorem papers_loop (hf : t.Fits) {h : Hd} {l : List Pp} (hl : l.length ≤ 9223372036854775807) (st : St) (hlo : st.low ≤ st.heap.length) : ∀ (b a : List Pp) (k : Int), k = a.length → l = a ++ b →
    loopC E0 [1, 2, 5] [2] A82_l0 { ts := [(1, .v (lstA h Pp.av l)), (2, .loc 2 0), (5, .v (.int .i64 k))], bs := [(2, t.cs)] } st
    = if b.all (paperB t) = true then some (.exit 0, { ts := [(1, .v (lstA h Pp.av l)), (2, .loc 2 0), (5, .v (.int .i64 l.length)), (9, .v (.bool false))], bs := [(2, t.cs)] }, st)
      else some (.ret, { ts := [(4, .v (.bool false))], bs := [] }, st)
  | [], a, k, hk, e => by
    simp only [List.append_nil] at e
    subst e hk
    rw [loopC_eq]
    simp [A82_l0, A82_r2]
  | x :: b, a, k, hk, e => by
    subst hk
    have hlt : a.length < l.length := by rw [e]; simp
    have hd : (row Pp.av l).drop (a.length * 2) = Pp.av x ++ row Pp.av b := by rw [e, row_drop Pp.len]; rfl
    have hw : IntKind.wrap .i64 ((a.length : Int) + 1) = (a.length : Int) + 1 := wrap_small (by omega) (by omega)
    have hw1 : IntKind.wrap .i64 ((t.kinds.length : Int) - 1) = t.kinds.length - 1 := wrap_small (by omega) (by have := hf.k; omega)
    have hm : min st.low st.heap.length = st.low := Nat.min_eq_left hlo
    have ih := papers_loop hf (h := h) hl st hlo b (a ++ [x]) _ rfl (by simp [e])
    cases hp : paperB t x with
    | true =>
      simp only [paperB, Bool.and_eq_true] at hp
      rw [loopC_norm (fr' := { ts := [(1, .v (lstA h Pp.av l)), (2, .loc 2 0), (5, .v (.int .i64 ((a ++ [x]).length : Int)))], bs := [(2, t.cs)] }) (st' := st) (by
        simp [A82_l0, A82_r2, A82_r3, A82_r4, A82_r5, regionA_st s82_r4, hm, hlt, hd, hw, hw1, Pp.av, Town.cs, hp.1, hp.2]), ih]
      simp [paperB, hp.1, hp.2]
    | false =>
      rw [loopC_eq]
      unfold paperB at hp
      cases h1 : amid x.kind 0 (t.kinds.length - 1) with
      | false => simp [A82_l0, A82_r2, A82_r3, A82_r4, A82_r5, regionA_st s82_r4, hm, hlt, hd, hw, hw1, Pp.av, Town.cs, h1, paperB]
      | true =>
        rw [h1] at hp
        simp only [Bool.true_and] at hp
        simp [A82_l0, A82_r2, A82_r3, A82_r4, A82_r5, regionA_st s82_r4, hm, hlt, hd, hw, hw1, Pp.av, Town.cs, h1, hp, paperB]
theorem papers_ev (hf : t.Fits) {h : Hd} {l : List Pp} (hl : l.length ≤ 9223372036854775807) (st : St) : callE E0 false (.fn 82 [] []) [.agg t.cs, lstA h Pp.av l] st = some (.bool (l.all (paperB t)), st) := by
  rw [callE0 (by decide) (af := A82) rfl rfl]
  have ho := papers_loop hf (h := h) hl { st with low := st.heap.length } (Nat.le_refl _) l [] 0 rfl rfl
  simp only [Town.cs] at ho
  cases hb : l.all (paperB t) with
  | true =>
    rw [if_pos hb] at ho
    simp [A82, A82_r0, A82_r1, A82_r6, finish, Town.cs, ho]
  | false =>
    rw [if_neg (by simp [hb])] at ho
    simp [A82, A82_r0, A82_r1, A82_r6, finish, Town.cs, ho]
end
end Go.Proofs.Tryd

namespace Go.Proofs.Tryd
open Go Go.Proofs.AM

section
variable {t : Town}
theorem barB_all : ∀ {l : List Sp} {e : Int}, -1 ≤ e → barB e l = true → ∀ s ∈ l, span s.low s.high 0 999 = true
  | [], _, _, _, s, hs => by simp at hs
  | x :: l, e, he, h, s, hs => by
    simp only [barB, Bool.and_eq_true] at h
    have hx := h.1
    simp only [span, Bool.and_eq_true, decide_eq_true_eq] at hx
    rcases List.mem_cons.1 hs with rfl | hs
    · simp only [span, Bool.and_eq_true, decide_eq_true_eq]
      omega
    · exact barB_all (by omega) h.2 s hs
theorem sound_l0 (hf : t.Fits) (hk : t.kinds.all kdB = true) (st : St) : ∀ (b a : List Kd) (k : Int), k = a.length → t.kinds = a ++ b →
    loopC E0 [1, 3, 4] [1] A36_l0 { ts := [(1, .loc 1 0), (3, .v (.bool true)), (4, .v (.int .i64 k))], bs := [(1, t.cs)] } st
    = some (.exit 0, { ts := [(1, .loc 1 0), (3, .v (.bool true)), (4, .v (.int .i64 t.kinds.length)), (50, .v (.bool false))], bs := [(1, t.cs)] }, st)
  | [], a, k, hk, e => by
    simp only [List.append_nil] at e
    subst hk
    rw [loopC_eq]
    simp [A36_l0, A36_r3, Town.cs, e]
  | x :: b, a, k, hk0, e => by
    subst hk0
    have hlt : a.length < t.kinds.length := by rw [e]; simp
    have hd : (row Kd.av t.kinds).drop (a.length * 3) = Kd.av x ++ row Kd.av b := by rw [e, row_drop Kd.len]; rfl
    have hw : IntKind.wrap .i64 ((a.length : Int) + 1) = (a.length : Int) + 1 := wrap_small (by omega) (by have := hf.k; omega)
    have hx := List.all_eq_true.1 hk x (by rw [e]; simp)
    simp only [kdB, Bool.and_eq_true] at hx
    rw [loopC_norm (fr' := { ts := [(1, .loc 1 0), (3, .v (.bool true)), (4, .v (.int .i64 ((a ++ [x]).length : Int)))], bs := [(1, t.cs)] }) (st' := st) (by
      simp [A36_l0, A36_r3, A36_r4, A36_r5, A36_r6, hlt, hd, hw, Kd.av, Town.cs, hx.1.1, hx.1.2, hx.2]), sound_l0 hf hk st b (a ++ [x]) _ rfl (by simp [e])]
theorem sound_l1 (hf : t.Fits) (hb : ∀ s ∈ t.barred, span s.low s.high 0 999 = true) (st : St) : ∀ (b a : List Sp) (k : Int), k = a.length → t.barred = a ++ b →
    loopC E0 [1, 3, 6] [1] A36_l1 { ts := [(1, .loc 1 0), (3, .v (.bool true)), (6, .v (.int .i64 k))], bs := [(1, t.cs)] } st
    = some (.exit 2, { ts := [(1, .loc 1 0), (3, .v (.bool true)), (6, .v (.int .i64 t.barred.length)), (78, .v (.bool false))], bs := [(1, t.cs)] }, st)
  | [], a, k, hk, e => by
    simp only [List.append_nil] at e
    subst hk
    rw [loopC_eq]
    simp [A36_l1, A36_r8, Town.cs, e]
  | x :: b, a, k, hk0, e => by
    subst hk0
    have hlt : a.length < t.barred.length := by rw [e]; simp
    have hd : (row Sp.av t.barred).drop (a.length * 2) = Sp.av x ++ row Sp.av b := by rw [e, row_drop Sp.len]; rfl
    have hw : IntKind.wrap .i64 ((a.length : Int) + 1) = (a.length : Int) + 1 := wrap_small (by omega) (by have := hf.b; omega)
    have hx := hb x (by rw [e]; simp)
    rw [loopC_norm (fr' := { ts := [(1, .loc 1 0), (3, .v (.bool true)), (6, .v (.int .i64 ((a ++ [x]).length : Int)))], bs := [(1, t.cs)] }) (st' := st) (by
      simp [A36_l1, A36_r8, A36_r9, A36_r10, hlt, hd, hw, Sp.av, Town.cs, hx]), sound_l1 hf hb st b (a ++ [x]) _ rfl (by simp [e])]
/-- What a town that passes is like. -/
structure Good (t : Town) : Prop where
  n : amid t.kinds.length 1 4 = true
  pause : amid t.pause 0 20 = true
  nb : t.barred.length ≤ 4
  forb : amid t.forb 0 65535 = true
  close : amid t.close 0 1439 = true
  nh : t.held.length ≤ 4
  kinds : t.kinds.all kdB = true
  barred : barB (-1) t.barred = true
  held : t.held.all (paperB t) = true
  tog : togB t [] t.held = true
theorem good_of (h : checkB t = true) : Good t := by
  simp only [checkB, soundB, headB, Bool.and_eq_true, decide_eq_true_eq] at h
  exact ⟨h.1.1.1.1.1.1.1.1.1, h.1.1.1.1.1.1.1.1.2, h.1.1.1.1.1.1.1.2, h.1.1.1.1.1.1.2, h.1.1.1.1.1.2, h.1.1.1.1.2, h.1.1.1.2, h.1.1.2, h.1.2, h.2⟩
theorem sound_ev (hf : t.Fits) (st : St) : callE E0 false (.fn 36 [] []) [.agg t.cs] st = some (.bool (checkB t), st) := by
  rw [callE0 (by decide) (af := A36) rfl rfl]
  have hch := check_ev hf
  simp only [Town.cs] at hch
  cases hc : checkB t with
  | false =>
    simp only [hc] at hch
    simp [A36, A36_r0, A36_r1, A36_r2, A36_r7, A36_r11, finish, Town.cs, hch, loopC_eq, A36_l0, A36_r3, A36_l1, A36_r8]
  | true =>
    simp only [hc] at hch
    obtain ⟨g1, g2, g3, g4, g5, g6, g7, g8, g9, g10⟩ := good_of hc
    have l0 := sound_l0 hf g7 { st with low := st.heap.length } t.kinds [] 0 rfl rfl
    have l1 := sound_l1 hf (barB_all (by omega) g8) { st with low := st.heap.length } t.barred [] 0 rfl rfl
    have hp := papers_ev hf (h := t.hh) hf.h
    have h3 : (t.barred.length : Int) ≤ 4 := by omega
    have h6 : (t.held.length : Int) ≤ 4 := by omega
    simp only [Town.cs, g9] at l0 l1 hp
    simp [A36, A36_r0, A36_r1, A36_r2, A36_r7, A36_r11, finish, Town.cs, hch, g1, g2, g4, g5, h3, h6, l0, l1, hp]
end
end Go.Proofs.Tryd

namespace Go.Proofs.Tryd
open Go Go.Proofs.AM

@[simp] theorem stamped_ev (st : St) : callE E0 false (.fn 23 [] []) [] st = some (.bool true, st) := by
  rw [callE_eq]
  rfl
section
variable {t : Town}
theorem overLaw_ev (hf : t.Fits) (n0 n1 n2 n3 : Int) (st : St) : callE E0 false (.fn 8 [] []) [.agg t.cs, .agg [.int .i64 n0, .int .i64 n1, .int .i64 n2, .int .i64 n3]] st = some (.bool true, st) := by
  rw [callE0 (by decide) (af := A8) rfl rfl]
  have t0 := fun st => turn_ev (x := n0) (n := 1440) (by omega) (by omega) st
  have t1 := fun st => turn_ev (x := n1) (n := 1440) (by omega) (by omega) st
  have t2 := fun st => turn_ev (x := n2) (n := 90) (by omega) (by omega) st
  have r0 := turnI_range (x := n0) (n := 1440) (by omega)
  have r1 := turnI_range (x := n1) (n := 1440) (by omega)
  have r2 := turnI_range (x := n2) (n := 90) (by omega)
  generalize turnI n0 1440 = b at t0 r0
  generalize turnI n1 1440 = lo at t1 r1
  generalize turnI n2 90 = d at t2 r2
  have w1 : IntKind.wrap .i64 (lo + d) = lo + d := wrap_small (by omega) (by omega)
  obtain ⟨hi, hhi, h1, h2⟩ : ∃ hi, (if lo + d < 1439 then lo + d else 1439) = hi ∧ lo ≤ hi ∧ hi ≤ 1439 := ⟨_, rfl, by split <;> omega, by split <;> omega⟩
  have hs := sound_ev hf
  have hso := fun st => sound_ev hf st
  simp only [Town.cs] at hso
  cases hc : checkB t with
  | false =>
    have ho := fun st => over_bad hf hc (b := b) (lo := lo) (hi := hi) st
    simp only [Town.cs, hc] at ho hso
    simp [A8, A8_r0, A8_r1, A8_r2, A8_r3, A8_r4, A8_r5, regionA_st s8_r1, finish, Town.cs, t0, t1, t2, w1, hhi, ho, hso]
  | true =>
    have hb : amid b 0 1439 = true := amid_iff.2 (by omega)
    have hsp : span lo hi 0 1439 = true := by simp [span]; omega
    have ho := fun st => over_ok hf hc hb hsp st
    have hch := fun st => choose_ev (a := lo) (b := hi) (n := n3) h1 (by omega) (by omega) st
    have r3 := turnI_range (x := n3) (n := hi - lo + 1) (by omega)
    generalize turnI n3 (hi - lo + 1) = y at hch r3
    have hsp2 : span (lo + y) (lo + y) 0 1439 = true := by simp [span]; omega
    have ho2 := fun st => over_ok hf hc hb hsp2 st
    have w2 : IntKind.wrap .i64 (b + (lo + y)) = b + (lo + y) := wrap_small (by omega) (by omega)
    have w3 : IntKind.wrap .i64 (b + hi) = b + hi := wrap_small (by omega) (by omega)
    simp only [Town.cs, hc] at ho ho2 hso
    by_cases c2 : b + hi ≤ t.close
    · have c1 : b + lo ≤ t.close := by omega
      have c3 : b + (lo + y) ≤ t.close := by omega
      have e1 : overN t b lo hi = 2 := by simp [overN, c1, c2]
      have e2 : overN t b (lo + y) (lo + y) = 2 := by simp [overN, c3]
      simp [A8, A8_r0, A8_r1, A8_r2, A8_r3, A8_r4, A8_r5, A8_r6, A8_r7, A8_r8, A8_r9, regionA_st s8_r1, regionA_st s8_r8, finish, Town.cs, t0, t1, t2, w1, hhi, ho, ho2, hso, hch, w2, w3, e1, e2, c2, c3]
    · by_cases c3 : b + (lo + y) ≤ t.close
      · have c1 : b + lo ≤ t.close := by omega
        have e1 : overN t b lo hi = 1 := by simp [overN, c1, c2]
        have e2 : overN t b (lo + y) (lo + y) = 2 := by simp [overN, c3]
        simp [A8, A8_r0, A8_r1, A8_r2, A8_r3, A8_r4, A8_r5, A8_r6, A8_r7, A8_r8, A8_r9, regionA_st s8_r1, regionA_st s8_r8, finish, Town.cs, t0, t1, t2, w1, hhi, ho, ho2, hso, hch, w2, w3, e1, e2, c2, c3]
      · have e2 : overN t b (lo + y) (lo + y) = 0 := by simp [overN, c3]
        by_cases c1 : b + lo ≤ t.close
        · have e1 : overN t b lo hi = 1 := by simp [overN, c1, c2]
          simp [A8, A8_r0, A8_r1, A8_r2, A8_r3, A8_r4, A8_r5, A8_r6, A8_r7, A8_r8, A8_r9, regionA_st s8_r1, regionA_st s8_r8, finish, Town.cs, t0, t1, t2, w1, hhi, ho, ho2, hso, hch, w2, w3, e1, e2, c2, c3]
        · have e1 : overN t b lo hi = 0 := by simp [overN, c1, c2]
          simp [A8, A8_r0, A8_r1, A8_r2, A8_r3, A8_r4, A8_r5, A8_r6, A8_r7, A8_r8, A8_r9, regionA_st s8_r1, regionA_st s8_r8, finish, Town.cs, t0, t1, t2, w1, hhi, ho, ho2, hso, hch, w2, w3, e1, e2, c2, c3]
end
end Go.Proofs.Tryd
