/-
  The plain functions of the chapter, and what the smallest ones of the program answer.
-/
import Derived.Test.YtkifeiienlkmcaaDoorLSt
import Derived.IntWalk
set_option linter.all false
namespace Go.Proofs.Tryd
open Go Go.Proofs.AM

def tab0 : List Ent := [⟨23, [], .bool true⟩]
/-- What the two package variables hold. -/
def Gl : Nat → Option (List AV)
  | 0 => some [.fn 128 [] [], .fn 129 [] [], .fn 130 [] [], .fn 131 [] []]
  | 1 => some [.int .i64 (-1), .int .i64 (-1)]
  | _ => none
def E0 : Env := envT fns Gl tab0
theorem tabE0 {f : Nat} (hf : f ≠ 23) (fs cs args : List AV) : E0.tab (.fn f fs cs) args = none := by
  show tabOf tab0 (.fn f fs cs) args = none
  unfold tabOf
  split
  · rename_i h
    cases h
    simp [tabL, tab0, Ne.symm hf]
  · rfl
/-- A call is its code. -/
theorem callE0 {f : Nat} (hf : f ≠ 23) {af : AF} (h : fns f = some af) {fs cs args : List AV} (hn : (fs ++ args ++ cs).length = af.np) (st : St) : callE E0 false (.fn f fs cs) args st =
    (match codeE E0 af.body { ts := zipA 0 (fs ++ args ++ cs), bs := [] } { st with low := st.heap.length } with
    | some (.exit _, _, _) => none
    | some (_, fr, st') => match resL E0 fr st' af.res with
      | some vs => some (finish false st (tupA vs) st')
      | none => none
    | none => none) := by
  rw [callE_eq, tabE0 hf]
  show bodyA E0 false (.fn f fs cs) args st (codeE E0) = _
  unfold bodyA
  have h' : E0.fns f = some af := h
  simp only [h']
  rw [if_pos hn]
  rfl
/-- Is a number from a low one to a high one? -/
def amid (n lo hi : Int) : Bool := decide (lo ≤ n) && decide (n ≤ hi)
@[simp] theorem inside_ev (n lo hi : Int) (st : St) : callE E0 false (.fn 55 [] []) [.int .i64 n, .int .i64 lo, .int .i64 hi] st = some (.bool (amid n lo hi), st) := by
  rw [callE0 (by decide) (af := A55) rfl rfl]
  unfold amid
  by_cases h : lo ≤ n <;> simp [A55, A55_r0, A55_r1, finish, h]
@[simp] theorem amid_ev (n lo hi : Int) (st : St) : callE E0 false (.fn 46 [] []) [.int .i64 n, .int .i64 lo, .int .i64 hi] st = some (.bool (amid n lo hi), st) := by
  rw [callE0 (by decide) (af := A46) rfl rfl]
  unfold amid
  by_cases h : lo ≤ n <;> simp [A46, A46_r0, A46_r1, finish, h]
/-- Is a span right, from a low number to a high one? -/
def span (a b lo hi : Int) : Bool := decide (lo ≤ a) && decide (a ≤ b) && decide (b ≤ hi)
@[simp] theorem spanned_ev (a b lo hi : Int) (st : St) : callE E0 false (.fn 61 [] []) [.agg [.int .i64 a, .int .i64 b], .int .i64 lo, .int .i64 hi] st = some (.bool (span a b lo hi), st) := by
  rw [callE0 (by decide) (af := A61) rfl rfl]
  unfold span
  by_cases h : lo ≤ a
  · by_cases h2 : a ≤ b <;> simp [A61, A61_r0, A61_r1, finish, h, h2]
  · simp [A61, A61_r0, A61_r1, finish, h]
@[simp] theorem legal_ev (a b lo hi : Int) (st : St) : callE E0 false (.fn 65 [] []) [.agg [.int .i64 a, .int .i64 b], .int .i64 lo, .int .i64 hi] st = some (.bool (span a b lo hi), st) := by
  rw [callE0 (by decide) (af := A65) rfl rfl]
  unfold span
  by_cases h : lo ≤ a
  · by_cases h2 : a ≤ b <;> simp [A65, A65_r0, A65_r1, finish, h, h2]
  · simp [A65, A65_r0, A65_r1, finish, h]
@[simp] theorem isDay_ev (n : Int) (st : St) : callE E0 false (.fn 54 [] []) [.int .i64 n] st = some (.bool (amid n 0 999), st) := by
  rw [callE0 (by decide) (af := A54) rfl rfl]
  simp [A54, A54_r0, A54_r1, finish]
@[simp] theorem isDayR_ev (n : Int) (st : St) : callE E0 false (.fn 57 [] []) [.int .i64 n] st = some (.bool (amid n 0 999), st) := by
  rw [callE0 (by decide) (af := A57) rfl rfl]
  simp [A57, A57_r0, A57_r1, finish]
@[simp] theorem isMinute_ev (n : Int) (st : St) : callE E0 false (.fn 58 [] []) [.int .i64 n] st = some (.bool (amid n 0 1439), st) := by
  rw [callE0 (by decide) (af := A58) rfl rfl]
  simp [A58, A58_r0, A58_r1, finish]
end Go.Proofs.Tryd


namespace Go.Proofs.Tryd
open Go Go.Proofs.AM

structure Kd where
  days : Int
  fee : Int
  notice : Int
structure Sp where
  low : Int
  high : Int
structure Pp where
  kind : Int
  first : Int
structure Hd where
  nl : Option Bool
  ex : Bool
def Kd.av (k : Kd) : List AV := [.int .i64 k.days, .int .i64 k.fee, .int .i64 k.notice]
def Sp.av (s : Sp) : List AV := [.int .i64 s.low, .int .i64 s.high]
def Pp.av (p : Pp) : List AV := [.int .i64 p.kind, .int .i64 p.first]
def In.av (n : Int) : List AV := [.int .i64 n]
/-- Cells of a row. -/
def row {α : Type} (f : α → List AV) : List α → List AV
  | [] => []
  | x :: l => f x ++ row f l
/-- A slice that is handed in. -/
def lstA {α : Type} (h : Hd) (f : α → List AV) (l : List α) : AV := .lst h.nl h.ex l.length (row f l)
structure Town where
  kh : Hd
  kinds : List Kd
  pause : Int
  bh : Hd
  barred : List Sp
  forb : Int
  close : Int
  hh : Hd
  held : List Pp
def Town.cs (t : Town) : List AV := [lstA t.kh Kd.av t.kinds, .int .i64 t.pause, lstA t.bh Sp.av t.barred, .int .i64 t.forb, .int .i64 t.close, lstA t.hh Pp.av t.held]

section
variable {α : Type} {f : α → List AV} {h : Hd} {l : List α}
@[simp] theorem lstA_len : lenA (lstA h f l) = some (.int .i64 l.length) := rfl
@[simp] theorem lstA_cells : (lstA h f l).cells = some [lstA h f l] := rfl
@[simp] theorem lstA_iaddr (es : Nat) (j : Int) : iaddrA es (lstA h f l) j = if 0 ≤ j ∧ j < l.length then some (.v (.pl ((row f l).drop (j.toNat * es)))) else none := rfl
theorem row_scal (hf : ∀ x, ∀ c ∈ f x, c.scal = true) : ∀ l : List α, ∀ c ∈ row f l, c.scal = true
  | [], c, hc => by simp [row] at hc
  | x :: l, c, hc => by
    simp only [row, List.mem_append] at hc
    rcases hc with hc | hc
    · exact hf x c hc
    · exact row_scal hf l c hc
theorem row_len {k : Nat} (hf : ∀ x, (f x).length = k) : ∀ l : List α, (row f l).length = l.length * k
  | [] => by simp [row]
  | x :: l => by simp [row, row_len hf l, hf x, Nat.add_mul, Nat.add_comm]
theorem row_append : ∀ (a b : List α), row f (a ++ b) = row f a ++ row f b
  | [], b => rfl
  | x :: a, b => by simp [row, row_append a b]
theorem row_drop {k : Nat} (hf : ∀ x, (f x).length = k) (a b : List α) : (row f (a ++ b)).drop (a.length * k) = row f b := by
  rw [row_append, ← row_len hf a, List.drop_left]
theorem row_take {k : Nat} (hf : ∀ x, (f x).length = k) (a b : List α) : (row f (a ++ b)).take (a.length * k) = row f a := by
  rw [row_append, ← row_len hf a, List.take_left]
theorem row_get {k : Nat} (hf : ∀ x, (f x).length = k) : ∀ {l : List α} {j : Nat} {x : α}, l[j]? = some x → (row f l).drop (j * k) = f x ++ row f (l.drop (j + 1))
  | [], j, x, h => by simp at h
  | y :: l, 0, x, h => by
    simp only [List.getElem?_cons_zero, Option.some.injEq] at h
    subst h
    simp [row]
  | y :: l, j + 1, x, h => by
    simp only [List.getElem?_cons_succ] at h
    have := row_get hf h
    rw [Nat.add_mul, Nat.one_mul, Nat.add_comm, ← List.drop_drop]
    simp only [row]
    rw [← hf y, List.drop_left, hf y, this, List.drop_succ_cons]
theorem slc_hi {k : Nat} (hf : ∀ x, (f x).length = k) (a b : List α) : slcA k (lstA h f (a ++ b)) none (some (a.length : Int)) none = some (lstA ⟨h.nl, h.ex && ((a.length : Int) == ((a ++ b).length : Int))⟩ f a) := by
  have ht := row_take hf a b
  simp [slcA, lstA, ht]
  omega
theorem lstA_plain (hf : ∀ x, ∀ c ∈ f x, c.scal = true) (d : Nat) : plainA (d + 1) (lstA h f l) := fun c hc => plainA.scal (row_scal hf l c hc) d
end
theorem Kd.sc (x : Kd) : ∀ c ∈ Kd.av x, c.scal = true := by simp [Kd.av]
theorem Sp.sc (x : Sp) : ∀ c ∈ Sp.av x, c.scal = true := by simp [Sp.av]
theorem Pp.sc (x : Pp) : ∀ c ∈ Pp.av x, c.scal = true := by simp [Pp.av]
theorem In.sc (x : Int) : ∀ c ∈ In.av x, c.scal = true := by simp [In.av]
section
variable {hp : List AObj} {s d : Nat} {refs : Bool} {h : Hd}
@[simp] theorem settle_K (l : List Kd) : AM.settle hp s refs (d + 1) (lstA h Kd.av l) = some (lstA h Kd.av l, []) := settle_plain (lstA_plain Kd.sc d)
@[simp] theorem settle_S (l : List Sp) : AM.settle hp s refs (d + 1) (lstA h Sp.av l) = some (lstA h Sp.av l, []) := settle_plain (lstA_plain Sp.sc d)
@[simp] theorem settle_P (l : List Pp) : AM.settle hp s refs (d + 1) (lstA h Pp.av l) = some (lstA h Pp.av l, []) := settle_plain (lstA_plain Pp.sc d)
@[simp] theorem settle_I (l : List Int) : AM.settle hp s refs (d + 1) (lstA h In.av l) = some (lstA h In.av l, []) := settle_plain (lstA_plain In.sc d)
end
/-- Small numbers do not wrap. -/
theorem wrap_small {n : Int} (h1 : -9223372036854775808 ≤ n) (h2 : n ≤ 9223372036854775807) : IntKind.wrap .i64 n = n := by
  exact IntWalk.i64_in n ⟨h1, h2⟩
/-! ### Plain functions on towns -/
def paperB (t : Town) (p : Pp) : Bool := amid p.kind 0 (t.kinds.length - 1) && amid p.first 0 999
def kdB (k : Kd) : Bool := amid k.days 1 30 && amid k.fee 0 1000 && amid k.notice 0 30
def barB : Int → List Sp → Bool
  | _, [] => true
  | e, s :: l => span s.low s.high (e + 1) 999 && barB s.high l
def daysOf (t : Town) (p : Pp) : Int := match t.kinds[p.kind.toNat]? with
  | some k => k.days
  | none => 0
/-- The last day that a licence covers. -/
def endB (t : Town) (p : Pp) : Int := p.first + daysOf t p - 1
/-- Do two licences go together? -/
def goesB (t : Town) (p q : Pp) : Bool := if q.first < p.first then decide (t.pause ≤ p.first - endB t q - 1) else decide (t.pause ≤ q.first - endB t p - 1)
def togB (t : Town) : List Pp → List Pp → Bool
  | _, [] => true
  | pre, p :: post => pre.all (fun q => goesB t p q) && togB t (pre ++ [p]) post
def headB (t : Town) : Bool := amid t.kinds.length 1 4 && amid t.pause 0 20 && decide (t.barred.length ≤ 4) && amid t.forb 0 65535 && amid t.close 0 1439 && decide (t.held.length ≤ 4)
def soundB (t : Town) : Bool := headB t && t.kinds.all kdB && barB (-1) t.barred && t.held.all (paperB t)
/-- Is there such a town? -/
def checkB (t : Town) : Bool := soundB t && togB t [] t.held
/-- Lists that are handed in are no longer than any list. -/
structure Town.Fits (t : Town) : Prop where
  k : t.kinds.length ≤ 9223372036854775807
  b : t.barred.length ≤ 9223372036854775807
  h : t.held.length ≤ 9223372036854775807
theorem Kd.len (x : Kd) : (Kd.av x).length = 3 := rfl
theorem Sp.len (x : Sp) : (Sp.av x).length = 2 := rfl
theorem Pp.len (x : Pp) : (Pp.av x).length = 2 := rfl
theorem In.len (x : Int) : (In.av x).length = 1 := rfl
end Go.Proofs.Tryd


namespace Go.Proofs.Tryd
open Go Go.Proofs.AM

theorem isPaper_ev (t : Town) (hf : t.Fits) (p : Pp) (st : St) : callE E0 false (.fn 62 [] []) [.agg t.cs, .agg p.av] st = some (.bool (paperB t p), st) := by
  rw [callE0 (by decide) (af := A62) rfl rfl]
  have hw : IntKind.wrap .i64 ((t.kinds.length : Int) - 1) = t.kinds.length - 1 := wrap_small (by omega) (by have := hf.k; omega)
  unfold paperB
  cases h : amid p.kind 0 (t.kinds.length - 1) <;> simp [A62, A62_r0, A62_r1, finish, Town.cs, Pp.av, hw, h]
theorem opened_ev (t : Town) (st : St) : callE E0 false (.fn 63 [] []) [.agg t.cs] st = some (.agg (t.cs ++ [.map st.heap.length]), { heap := st.heap ++ [.map []], low := min st.low st.heap.length }) := by
  rw [callE0 (by decide) (af := A63) rfl rfl]
  simp [A63, A63_r0, A63_r1, finish, Town.cs, alloc]
theorem amid_iff {n lo hi : Int} : amid n lo hi = true ↔ lo ≤ n ∧ n ≤ hi := by simp [amid]
theorem kd_of {t : Town} {p : Pp} (hp : paperB t p = true) (hk : t.kinds.all kdB = true) : ∃ k, t.kinds[p.kind.toNat]? = some k ∧ kdB k = true ∧ daysOf t p = k.days ∧ 0 ≤ p.kind ∧ p.kind < t.kinds.length ∧ 0 ≤ p.first ∧ p.first ≤ 999 := by
  simp only [paperB, Bool.and_eq_true, amid_iff] at hp
  have hlt : p.kind.toNat < t.kinds.length := by omega
  refine ⟨t.kinds[p.kind.toNat], List.getElem?_eq_getElem hlt, List.all_eq_true.1 hk _ (List.getElem_mem _), ?_, by omega, by omega, by omega, by omega⟩
  simp [daysOf, List.getElem?_eq_getElem hlt]
theorem end_ev (t : Town) (m : Nat) (p : Pp) (hp : paperB t p = true) (hk : t.kinds.all kdB = true) (st : St) : callE E0 false (.fn 94 [] []) [.agg (t.cs ++ [.map m]), .agg p.av] st = some (.int .i64 (endB t p), st) := by
  rw [callE0 (by decide) (af := A94) rfl rfl]
  obtain ⟨k, e1, hkd, e2, h0, h1, h2, h3⟩ := kd_of hp hk
  simp only [kdB, Bool.and_eq_true, amid_iff] at hkd
  have hw1 : IntKind.wrap .i64 (p.first + k.days) = p.first + k.days := wrap_small (by omega) (by omega)
  have hw2 : IntKind.wrap .i64 (p.first + k.days - 1) = p.first + k.days - 1 := wrap_small (by omega) (by omega)
  have hd := row_get Kd.len e1
  simp [A94, A94_r0, A94_r1, regionA_st s94_r1, finish, Town.cs, Pp.av, h0, h1, hd, Kd.av, hw1, hw2, endB, e2]
end Go.Proofs.Tryd


namespace Go.Proofs.Tryd
open Go Go.Proofs.AM

theorem end_range {t : Town} {p : Pp} (hp : paperB t p = true) (hk : t.kinds.all kdB = true) : p.first ≤ endB t p ∧ endB t p ≤ p.first + 29 ∧ 0 ≤ p.first ∧ p.first ≤ 999 := by
  obtain ⟨k, e1, hkd, e2, h0, h1, h2, h3⟩ := kd_of hp hk
  simp only [kdB, Bool.and_eq_true, amid_iff] at hkd
  simp only [endB, e2]
  omega
theorem goes_ev (t : Town) (m : Nat) (p q : Pp) (hp : paperB t p = true) (hq : paperB t q = true) (hk : t.kinds.all kdB = true) (st : St) : callE E0 false (.fn 88 [] []) [.agg (t.cs ++ [.map m]), .agg p.av, .agg q.av] st = some (.bool (goesB t p q), st) := by
  rw [callE0 (by decide) (af := A88) rfl rfl]
  have hep := end_ev t m p hp hk
  have heq := end_ev t m q hq hk
  obtain ⟨a1, a2, a3, a4⟩ := end_range hp hk
  obtain ⟨b1, b2, b3, b4⟩ := end_range hq hk
  have w1 : IntKind.wrap .i64 (p.first - endB t q) = p.first - endB t q := wrap_small (by omega) (by omega)
  have w2 : IntKind.wrap .i64 (p.first - endB t q - 1) = p.first - endB t q - 1 := wrap_small (by omega) (by omega)
  have w3 : IntKind.wrap .i64 (q.first - endB t p) = q.first - endB t p := wrap_small (by omega) (by omega)
  have w4 : IntKind.wrap .i64 (q.first - endB t p - 1) = q.first - endB t p - 1 := wrap_small (by omega) (by omega)
  simp only [Town.cs, Pp.av, List.cons_append, List.nil_append] at hep heq
  by_cases h : q.first < p.first <;> simp [A88, A88_r0, A88_r1, A88_r2, A88_r3, regionA_st s88_r3, finish, Town.cs, Pp.av, goesB, h, hep, heq, w1, w2, w3, w4]
end Go.Proofs.Tryd


namespace Go.Proofs.Tryd
open Go Go.Proofs.AM

section
variable {t : Town} {m : Nat} {h h' : Hd} {l pre : List Pp} {p : Pp} {n : Int}
theorem tog_in (hk : t.kinds.all kdB = true) (hl : l.length ≤ 9223372036854775807) (hp : paperB t p = true) (st : St) : ∀ (b a : List Pp) (k : Int), k = a.length → pre = a ++ b → pre.length ≤ l.length → (∀ q ∈ b, paperB t q = true) →
    loopC E0 [1, 2, 6, 9, 10, 11, 18, 19, 20] [2, 6] A64_l0
      { ts := [(1, .v (lstA h Pp.av l)), (2, .loc 2 0), (6, .loc 6 0), (9, .v (lstA h Pp.av l)), (10, .v (.int .i64 l.length)), (11, .v (.int .i64 n)), (18, .v (lstA h' Pp.av pre)), (19, .v (.int .i64 pre.length)), (20, .v (.int .i64 k))], bs := [(2, t.cs ++ [.map m]), (6, p.av)] } st
    = if b.all (fun q => goesB t p q) = true then some (.exit 2, { ts := [(1, .v (lstA h Pp.av l)), (2, .loc 2 0), (6, .loc 6 0), (9, .v (lstA h Pp.av l)), (10, .v (.int .i64 l.length)), (11, .v (.int .i64 n)), (18, .v (lstA h' Pp.av pre)), (19, .v (.int .i64 pre.length)), (20, .v (.int .i64 pre.length)), (21, .v (.bool false))], bs := [(2, t.cs ++ [.map m]), (6, p.av)] }, st)
      else some (.ret, { ts := [(4, .v (.bool false))], bs := [] }, st)
  | [], a, k, hk0, e, _, _ => by
    simp only [List.append_nil] at e
    subst e hk0
    rw [loopC_eq]
    simp [A64_l0, A64_r5, A64_r6, A64_r7, A64_r8, A64_r9]
  | q :: b, a, k, hk0, e, hle, hall => by
    subst hk0
    have hq := hall q (by simp)
    have hg := goes_ev t m p q hp hq hk
    simp only [Town.cs, Pp.av, List.cons_append, List.nil_append] at hg
    have hlt : a.length < pre.length := by rw [e]; simp
    have hd : (row Pp.av pre).drop (a.length * 2) = Pp.av q ++ row Pp.av b := by rw [e, row_drop Pp.len]; rfl
    have hw : IntKind.wrap .i64 ((a.length : Int) + 1) = (a.length : Int) + 1 := wrap_small (by omega) (by omega)
    have ih := tog_in hk hl hp st b (a ++ [q]) _ rfl (by simp [e]) hle (fun x hx => hall x (by simp [hx]))
    by_cases hgo : goesB t p q = true
    · rw [loopC_norm (fr' := { ts := [(1, .v (lstA h Pp.av l)), (2, .loc 2 0), (6, .loc 6 0), (9, .v (lstA h Pp.av l)), (10, .v (.int .i64 l.length)), (11, .v (.int .i64 n)), (18, .v (lstA h' Pp.av pre)), (19, .v (.int .i64 pre.length)), (20, .v (.int .i64 ((a ++ [q]).length : Int)))], bs := [(2, t.cs ++ [.map m]), (6, p.av)] }) (st' := st) (by
          simp [A64_l0, A64_r5, A64_r6, A64_r7, A64_r8, A64_r9, hlt, hd, hw, Pp.av, Town.cs, hg, hgo]), ih]
      simp [hgo]
    · rw [loopC_eq]
      simp [A64_l0, A64_r5, A64_r6, A64_r7, A64_r8, A64_r9, hlt, hd, hw, Pp.av, Town.cs, hg, hgo]
theorem tog_out (hk : t.kinds.all kdB = true) (hl : l.length ≤ 9223372036854775807) (st : St) : ∀ (b a : List Pp), l = a ++ b → (∀ q ∈ l, paperB t q = true) →
    loopC E0 [1, 2, 9, 10, 11] [2] A64_l1
      { ts := [(1, .v (lstA h Pp.av l)), (2, .loc 2 0), (9, .v (lstA h Pp.av l)), (10, .v (.int .i64 l.length)), (11, .v (.int .i64 a.length))], bs := [(2, t.cs ++ [.map m])] } st
    = if togB t a b = true then some (.exit 0, { ts := [(1, .v (lstA h Pp.av l)), (2, .loc 2 0), (9, .v (lstA h Pp.av l)), (10, .v (.int .i64 l.length)), (11, .v (.int .i64 l.length)), (12, .v (.bool false))], bs := [(2, t.cs ++ [.map m])] }, st)
      else some (.ret, { ts := [(4, .v (.bool false))], bs := [] }, st)
  | [], a, e, _ => by
    simp only [List.append_nil] at e
    subst e
    rw [loopC_eq]
    simp [A64_l1, A64_r2, A64_r3, A64_r4, A64_r10, togB]
  | q :: b, a, e, hall => by
    have hq := hall q (by simp [e])
    have hlt : a.length < l.length := by rw [e]; simp
    have hd : (row Pp.av l).drop (a.length * 2) = Pp.av q ++ row Pp.av b := by rw [e, row_drop Pp.len]; rfl
    have hw : IntKind.wrap .i64 ((a.length : Int) + 1) = (a.length : Int) + 1 := wrap_small (by omega) (by omega)
    obtain ⟨h', hs⟩ : ∃ h', slcA 2 (lstA h Pp.av l) none (some (a.length : Int)) none = some (lstA h' Pp.av a) := ⟨_, by rw [e]; exact slc_hi Pp.len a (q :: b)⟩
    have hin := tog_in (h := h) (h' := h') (l := l) (m := m) (pre := a) (n := a.length) hk hl hq st a [] 0 rfl rfl (by omega) (fun x hx => hall x (by simp [e, hx]))
    have ih := tog_out hk hl st b (a ++ [q]) (by simp [e]) hall
    simp only [Town.cs, Pp.av, List.cons_append, List.nil_append] at hin
    by_cases hgo : a.all (fun x => goesB t q x) = true
    · rw [if_pos hgo] at hin
      rw [loopC_norm (fr' := { ts := [(1, .v (lstA h Pp.av l)), (2, .loc 2 0), (9, .v (lstA h Pp.av l)), (10, .v (.int .i64 l.length)), (11, .v (.int .i64 ((a ++ [q]).length : Int)))], bs := [(2, t.cs ++ [.map m])] }) (st' := st) (by
          simp [A64_l1, A64_r2, A64_r3, A64_r4, A64_r10, hlt, hd, hw, Pp.av, Town.cs, hs, hin]), ih]
      simp only [togB, hgo, Bool.true_and]
    · rw [if_neg hgo] at hin
      rw [loopC_eq]
      simp [A64_l1, A64_r2, A64_r3, A64_r4, A64_r10, hlt, hd, hw, Pp.av, Town.cs, hs, hin, togB, hgo]
end
end Go.Proofs.Tryd


namespace Go.Proofs.Tryd
open Go Go.Proofs.AM

theorem together_ev (t : Town) (m : Nat) (h : Hd) (l : List Pp) (hk : t.kinds.all kdB = true) (hl : l.length ≤ 9223372036854775807) (hall : ∀ q ∈ l, paperB t q = true) (st : St) :
    callE E0 false (.fn 64 [] []) [.agg (t.cs ++ [.map m]), lstA h Pp.av l] st = some (.bool (togB t [] l), st) := by
  rw [callE0 (by decide) (af := A64) rfl rfl]
  have ho := tog_out (m := m) (h := h) hk hl { st with low := st.heap.length } l [] rfl hall
  simp only [Town.cs, List.cons_append, List.nil_append, List.length_nil] at ho
  cases hb : togB t [] l with
  | true =>
    rw [if_pos hb] at ho
    simp [A64, A64_r0, A64_r1, A64_r11, finish, Town.cs]
    rw [show ((0 : Nat) : Int) = 0 from rfl] at ho
    simp [ho]
  | false =>
    rw [if_neg (by simp [hb])] at ho
    simp [A64, A64_r0, A64_r1, A64_r11, finish, Town.cs]
    rw [show ((0 : Nat) : Int) = 0 from rfl] at ho
    simp [ho]
section
variable {t : Town}
theorem check_l0 (hf : t.Fits) (st : St) : ∀ (b a : List Kd) (k : Int) (ok : Bool), k = a.length → t.kinds = a ++ b →
    loopC E0 [1, 3, 43, 44, 45] [1] A16_l0 { ts := [(1, .loc 1 0), (3, .v (.bool ok)), (43, .v (lstA t.kh Kd.av t.kinds)), (44, .v (.int .i64 t.kinds.length)), (45, .v (.int .i64 k))], bs := [(1, t.cs)] } st
    = some (.exit 0, { ts := [(1, .loc 1 0), (3, .v (.bool (ok && b.all kdB))), (43, .v (lstA t.kh Kd.av t.kinds)), (44, .v (.int .i64 t.kinds.length)), (45, .v (.int .i64 t.kinds.length)), (46, .v (.bool false))], bs := [(1, t.cs)] }, st)
  | [], a, k, ok, hk, e => by
    simp only [List.append_nil] at e
    subst hk
    rw [loopC_eq]
    simp [A16_l0, A16_r3, e]
  | x :: b, a, k, ok, hk, e => by
    subst hk
    have hlt : a.length < t.kinds.length := by rw [e]; simp
    have hd : (row Kd.av t.kinds).drop (a.length * 3) = Kd.av x ++ row Kd.av b := by rw [e, row_drop Kd.len]; rfl
    have hw : IntKind.wrap .i64 ((a.length : Int) + 1) = (a.length : Int) + 1 := wrap_small (by omega) (by have := hf.k; omega)
    have ih := check_l0 hf st b (a ++ [x]) _ (ok && kdB x) rfl (by simp [e])
    rw [loopC_norm (fr' := { ts := [(1, .loc 1 0), (3, .v (.bool (ok && kdB x))), (43, .v (lstA t.kh Kd.av t.kinds)), (44, .v (.int .i64 t.kinds.length)), (45, .v (.int .i64 ((a ++ [x]).length : Int)))], bs := [(1, t.cs)] }) (st' := st) (by
      cases ok with
      | false => simp [A16_l0, A16_r3, A16_r4, A16_r5, A16_r6, hlt, hd, hw, Kd.av, Town.cs]
      | true =>
        unfold kdB
        cases h1 : amid x.days 1 30 with
        | false => simp [A16_l0, A16_r3, A16_r4, A16_r5, A16_r6, hlt, hd, hw, Kd.av, Town.cs, h1]
        | true => cases h2 : amid x.fee 0 1000 <;> simp [A16_l0, A16_r3, A16_r4, A16_r5, A16_r6, hlt, hd, hw, Kd.av, Town.cs, h1, h2]), ih]
    simp [Bool.and_assoc]
theorem check_l1 (hf : t.Fits) (st : St) : ∀ (b a : List Sp) (k : Int) (ok : Bool) (e0 : Int), k = a.length → t.barred = a ++ b → (ok = true → -1 ≤ e0 ∧ e0 ≤ 999) →
    ∃ e1, loopC E0 [1, 3, 6, 67, 68, 69] [1] A16_l1 { ts := [(1, .loc 1 0), (3, .v (.bool ok)), (6, .v (.int .i64 e0)), (67, .v (lstA t.bh Sp.av t.barred)), (68, .v (.int .i64 t.barred.length)), (69, .v (.int .i64 k))], bs := [(1, t.cs)] } st
    = some (.exit 2, { ts := [(1, .loc 1 0), (3, .v (.bool (ok && barB e0 b))), (6, .v (.int .i64 e1)), (67, .v (lstA t.bh Sp.av t.barred)), (68, .v (.int .i64 t.barred.length)), (69, .v (.int .i64 t.barred.length)), (70, .v (.bool false))], bs := [(1, t.cs)] }, st)
  | [], a, k, ok, e0, hk, e, _ => by
    simp only [List.append_nil] at e
    subst hk
    refine ⟨e0, ?_⟩
    rw [loopC_eq]
    simp [A16_l1, A16_r9, e, barB]
  | x :: b, a, k, ok, e0, hk, e, hr => by
    subst hk
    have hlt : a.length < t.barred.length := by rw [e]; simp
    have hd : (row Sp.av t.barred).drop (a.length * 2) = Sp.av x ++ row Sp.av b := by rw [e, row_drop Sp.len]; rfl
    have hw : IntKind.wrap .i64 ((a.length : Int) + 1) = (a.length : Int) + 1 := wrap_small (by omega) (by have := hf.b; omega)
    have hw2 : ok = true → IntKind.wrap .i64 (e0 + 1) = e0 + 1 := fun ho => wrap_small (by have := hr ho; omega) (by have := hr ho; omega)
    obtain ⟨e1, ih⟩ := check_l1 hf st b (a ++ [x]) _ (ok && span x.low x.high (e0 + 1) 999) x.high rfl (by simp [e]) (fun ho => by
      simp only [Bool.and_eq_true, span, decide_eq_true_eq] at ho
      have := hr ho.1
      omega)
    refine ⟨e1, ?_⟩
    rw [loopC_norm (fr' := { ts := [(1, .loc 1 0), (3, .v (.bool (ok && span x.low x.high (e0 + 1) 999))), (6, .v (.int .i64 x.high)), (67, .v (lstA t.bh Sp.av t.barred)), (68, .v (.int .i64 t.barred.length)), (69, .v (.int .i64 ((a ++ [x]).length : Int)))], bs := [(1, t.cs)] }) (st' := st) (by
      cases ok with
      | false => simp [A16_l1, A16_r9, A16_r10, A16_r11, A16_r12, A16_r13, hlt, hd, hw, Sp.av, Town.cs]
      | true => simp [A16_l1, A16_r9, A16_r10, A16_r11, A16_r12, A16_r13, hlt, hd, hw, hw2 rfl, Sp.av, Town.cs]), ih]
    simp [Bool.and_assoc, barB]
theorem check_l2 (hf : t.Fits) (st : St) : ∀ (b a : List Pp) (k : Int) (ok : Bool), k = a.length → t.held = a ++ b →
    loopC E0 [1, 3, 84, 85, 86] [1] A16_l2 { ts := [(1, .loc 1 0), (3, .v (.bool ok)), (84, .v (lstA t.hh Pp.av t.held)), (85, .v (.int .i64 t.held.length)), (86, .v (.int .i64 k))], bs := [(1, t.cs)] } st
    = some (.exit 4, { ts := [(1, .loc 1 0), (3, .v (.bool (ok && b.all (paperB t)))), (84, .v (lstA t.hh Pp.av t.held)), (85, .v (.int .i64 t.held.length)), (86, .v (.int .i64 t.held.length)), (87, .v (.bool false))], bs := [(1, t.cs)] }, st)
  | [], a, k, ok, hk, e => by
    simp only [List.append_nil] at e
    subst hk
    rw [loopC_eq]
    simp [A16_l2, A16_r15, e]
  | x :: b, a, k, ok, hk, e => by
    subst hk
    have hlt : a.length < t.held.length := by rw [e]; simp
    have hd : (row Pp.av t.held).drop (a.length * 2) = Pp.av x ++ row Pp.av b := by rw [e, row_drop Pp.len]; rfl
    have hw : IntKind.wrap .i64 ((a.length : Int) + 1) = (a.length : Int) + 1 := wrap_small (by omega) (by have := hf.h; omega)
    have hp := isPaper_ev t hf x
    simp only [Town.cs, Pp.av] at hp
    have ih := check_l2 hf st b (a ++ [x]) _ (ok && paperB t x) rfl (by simp [e])
    rw [loopC_norm (fr' := { ts := [(1, .loc 1 0), (3, .v (.bool (ok && paperB t x))), (84, .v (lstA t.hh Pp.av t.held)), (85, .v (.int .i64 t.held.length)), (86, .v (.int .i64 ((a ++ [x]).length : Int)))], bs := [(1, t.cs)] }) (st' := st) (by
      cases ok with
      | false => simp [A16_l2, A16_r15, A16_r16, A16_r17, A16_r18, hlt, hd, hw, Pp.av, Town.cs]
      | true => simp [A16_l2, A16_r15, A16_r16, A16_r17, A16_r18, hlt, hd, hw, Pp.av, Town.cs, hp]), ih]
    simp [Bool.and_assoc]
end
end Go.Proofs.Tryd


namespace Go.Proofs.Tryd
open Go Go.Proofs.AM

section
variable {t : Town}
theorem check_r1 (st : St) : codeE E0 (.region A16_r1 none [1, 3] [1]) { ts := [(1, .loc 1 0)], bs := [(1, t.cs)] } st = some (.norm, { ts := [(1, .loc 1 0), (3, .v (.bool (headB t)))], bs := [(1, t.cs)] }, st) := by
  unfold headB
  cases h1 : amid t.kinds.length 1 4 with
  | false => simp [A16_r1, Town.cs, h1]
  | true =>
  cases h2 : amid t.pause 0 20 with
  | false => simp [A16_r1, Town.cs, h1, h2]
  | true =>
  cases h3 : decide (t.barred.length ≤ 4) with
  | false =>
    have h3' : ¬ (t.barred.length : Int) ≤ 4 := by simp at h3; omega
    simp [A16_r1, Town.cs, h1, h2, h3']
  | true =>
  have h3' : (t.barred.length : Int) ≤ 4 := by simp at h3; omega
  have h6 : decide ((t.held.length : Int) ≤ 4) = decide (t.held.length ≤ 4) := by apply decide_eq_decide.2; omega
  cases h4 : amid t.forb 0 65535 with
  | false => simp [A16_r1, Town.cs, h1, h2, h3', h4]
  | true => cases h5 : amid t.close 0 1439 <;> simp [A16_r1, Town.cs, h1, h2, h3', h4, h5, h6]
theorem check_ev (hf : t.Fits) (st : St) : callE E0 false (.fn 16 [] []) [.agg t.cs] st = some (.int .i64 (if checkB t = true then 0 else 50), st) := by
  rw [callE0 (by decide) (af := A16) rfl rfl]
  have r1 := check_r1 (t := t) { st with low := st.heap.length }
  have l0 := check_l0 hf { st with low := st.heap.length } t.kinds [] 0 (headB t) rfl rfl
  obtain ⟨e1, l1⟩ := check_l1 hf { st with low := st.heap.length } t.barred [] 0 (headB t && t.kinds.all kdB) (-1) rfl rfl (by omega)
  have l2 := check_l2 hf { st with low := st.heap.length } t.held [] 0 (headB t && t.kinds.all kdB && barB (-1) t.barred) rfl rfl
  have hso : soundB t = (headB t && t.kinds.all kdB && barB (-1) t.barred && t.held.all (paperB t)) := rfl
  rw [← hso] at l2
  unfold checkB
  simp only [Town.cs] at r1 l0 l1 l2
  obtain ⟨f, q1, q2, q3⟩ := region_inv r1
  simp only at q2 q3
  cases hs : soundB t with
  | false =>
    rw [hs] at l2
    simp [A16, A16_r0, A16_r2, A16_r7, A16_r8, A16_r14, A16_r19, A16_r20, A16_r21, regionA_st s16_r19, finish, Town.cs, q1, ↓q2, ↓q3, l0, l1, l2]
  | true =>
    rw [hs] at l2
    simp only [soundB, Bool.and_eq_true] at hs
    have hall : ∀ q ∈ t.held, paperB t q = true := fun q hq => List.all_eq_true.1 hs.2 q hq
    have ho := opened_ev t
    have ht := fun m st => together_ev t m t.hh t.held hs.1.1.2 hf.h hall st
    simp only [Town.cs, List.cons_append, List.nil_append] at ho ht
    cases htb : togB t [] t.held <;> simp [A16, A16_r0, A16_r2, A16_r7, A16_r8, A16_r14, A16_r19, A16_r20, A16_r21, regionA_st s16_r19, finish, Town.cs, q1, ↓q2, ↓q3, l0, l1, l2, ho, ht, htb]
end
end Go.Proofs.Tryd


namespace Go.Proofs.Tryd
open Go Go.Proofs.AM

section
variable {t : Town}
theorem asked_ok (hf : t.Fits) (hc : checkB t = true) (st : St) : callE E0 false (.fn 53 [] []) [.agg t.cs, .bool true] st = some (.tup [.agg (t.cs ++ [.map st.heap.length]), .int .i64 0], { heap := st.heap ++ [.map []], low := min st.low st.heap.length }) := by
  rw [callE0 (by decide) (af := A53) rfl rfl]
  have hch := check_ev hf
  have ho := opened_ev t
  simp only [Town.cs, hc, List.cons_append, List.nil_append] at hch ho
  simp [A53, A53_r0, A53_r1, A53_r2, A53_r3, A53_r4, A53_r5, A53_r6, finish, Town.cs, hch, ho]
end
end Go.Proofs.Tryd


namespace Go.Proofs.Tryd
open Go Go.Proofs.AM

section
variable {t : Town} {b lo hi : Int}
end
end Go.Proofs.Tryd


namespace Go.Proofs.Tryd
open Go Go.Proofs.AM

def turnI (x n : Int) : Int := if x.tmod n < 0 then x.tmod n + n else x.tmod n
theorem turnI_range {x n : Int} (hn : 1 ≤ n) : 0 ≤ turnI x n ∧ turnI x n < n := by
  have h1 := Int.tmod_lt_of_pos x (show 0 < n by omega)
  have h2 : -n < x.tmod n := Int.lt_tmod_of_pos x (show 0 < n by omega)
  unfold turnI
  split <;> omega
theorem turn_ev {x n : Int} (hn : 1 ≤ n) (hm : n ≤ 9223372036854775807) (st : St) : callE E0 false (.fn 35 [] []) [.int .i64 x, .int .i64 n] st = some (.int .i64 (turnI x n), st) := by
  rw [callE0 (by decide) (af := A35) rfl rfl]
  have h1 := Int.tmod_lt_of_pos x (show 0 < n by omega)
  have h2 : -n < x.tmod n := Int.lt_tmod_of_pos x (show 0 < n by omega)
  have hw : IntKind.wrap .i64 (x.tmod n + n) = x.tmod n + n ∨ 0 ≤ x.tmod n := by
    rcases Int.lt_or_le (x.tmod n) 0 with h | h
    · exact .inl (wrap_small (by omega) (by omega))
    · exact .inr h
  have hn' : ¬ n < 1 := by omega
  have hn0 : n ≠ 0 := by omega
  unfold turnI
  by_cases h : x.tmod n < 0
  · have hw' : IntKind.wrap .i64 (x.tmod n + n) = x.tmod n + n := by omega
    simp [A35, A35_r0, A35_r1, A35_r2, A35_r3, A35_r4, A35_r5, A35_r6, finish, h, hn', hn0, hw']
  · simp [A35, A35_r0, A35_r1, A35_r2, A35_r3, A35_r4, A35_r5, A35_r6, finish, h, hn', hn0]
@[simp] theorem S_ev (a b : Int) (st : St) : callE E0 false (.fn 40 [] []) [.int .i64 a, .int .i64 b] st = some (.agg [.int .i64 a, .int .i64 b], st) := by
  rw [callE0 (by decide) (af := A40) rfl rfl]
  simp [A40, A40_r0, A40_r1, finish]
section
variable {t : Town}
theorem papers_loop (hf : t.Fits) {h : Hd} {l : List Pp} (hl : l.length ≤ 9223372036854775807) (st : St) (hlo : st.low ≤ st.heap.length) : ∀ (b a : List Pp) (k : Int), k = a.length → l = a ++ b →
    loopC E0 [1, 2, 5] [2] A82_l0 { ts := [(1, .v (lstA h Pp.av l)), (2, .loc 2 0), (5, .v (.int .i64 k))], bs := [(2, t.cs)] } st
    = if b.all (paperB t) = true then some (.exit 0, { ts := [(1, .v (lstA h Pp.av l)), (2, .loc 2 0), (5, .v (.int .i64 l.length)), (9, .v (.bool false))], bs := [(2, t.cs)] }, st)
      else some (.ret, { ts := [(4, .v (.bool false))], bs := [] }, st)
  | [], a, k, hk, e => by
    simp only [List.append_nil] at e
    subst e hk
    rw [loopC_eq]
    simp [A82_l0, A82_r2]
  | x :: b, a, k, hk, e => by
    subst hk
    have hlt : a.length < l.length := by rw [e]; simp
    have hd : (row Pp.av l).drop (a.length * 2) = Pp.av x ++ row Pp.av b := by rw [e, row_drop Pp.len]; rfl
    have hw : IntKind.wrap .i64 ((a.length : Int) + 1) = (a.length : Int) + 1 := wrap_small (by omega) (by omega)
    have hw1 : IntKind.wrap .i64 ((t.kinds.length : Int) - 1) = t.kinds.length - 1 := wrap_small (by omega) (by have := hf.k; omega)
    have hm : min st.low st.heap.length = st.low := Nat.min_eq_left hlo
    have ih := papers_loop hf (h := h) hl st hlo b (a ++ [x]) _ rfl (by simp [e])
    cases hp : paperB t x with
    | true =>
      simp only [paperB, Bool.and_eq_true] at hp
      rw [loopC_norm (fr' := { ts := [(1, .v (lstA h Pp.av l)), (2, .loc 2 0), (5, .v (.int .i64 ((a ++ [x]).length : Int)))], bs := [(2, t.cs)] }) (st' := st) (by
        simp [A82_l0, A82_r2, A82_r3, A82_r4, A82_r5, regionA_st s82_r4, hm, hlt, hd, hw, hw1, Pp.av, Town.cs, hp.1, hp.2]), ih]
      simp [paperB, hp.1, hp.2]
    | false =>
      rw [loopC_eq]
      unfold paperB at hp
      cases h1 : amid x.kind 0 (t.kinds.length - 1) with
      | false => simp [A82_l0, A82_r2, A82_r3, A82_r4, A82_r5, regionA_st s82_r4, hm, hlt, hd, hw, hw1, Pp.av, Town.cs, h1, paperB]
      | true =>
        rw [h1] at hp
        simp only [Bool.true_and] at hp
        simp [A82_l0, A82_r2, A82_r3, A82_r4, A82_r5, regionA_st s82_r4, hm, hlt, hd, hw, hw1, Pp.av, Town.cs, h1, hp, paperB]
theorem papers_ev (hf : t.Fits) {h : Hd} {l : List Pp} (hl : l.length ≤ 9223372036854775807) (st : St) : callE E0 false (.fn 82 [] []) [.agg t.cs, lstA h Pp.av l] st = some (.bool (l.all (paperB t)), st) := by
  rw [callE0 (by decide) (af := A82) rfl rfl]
  have ho := papers_loop hf (h := h) hl { st with low := st.heap.length } (Nat.le_refl _) l [] 0 rfl rfl
  simp only [Town.cs] at ho
  cases hb : l.all (paperB t) with
  | true =>
    rw [if_pos hb] at ho
    simp [A82, A82_r0, A82_r1, A82_r6, finish, Town.cs, ho]
  | false =>
    rw [if_neg (by simp [hb])] at ho
    simp [A82, A82_r0, A82_r1, A82_r6, finish, Town.cs, ho]
end
end Go.Proofs.Tryd


namespace Go.Proofs.Tryd
open Go Go.Proofs.AM

section
variable {t : Town}
theorem barB_all : ∀ {l : List Sp} {e : Int}, -1 ≤ e → barB e l = true → ∀ s ∈ l, span s.low s.high 0 999 = true
  | [], _, _, _, s, hs => by simp at hs
  | x :: l, e, he, h, s, hs => by
    simp only [barB, Bool.and_eq_true] at h
    have hx := h.1
    simp only [span, Bool.and_eq_true, decide_eq_true_eq] at hx
    rcases List.mem_cons.1 hs with rfl | hs
    · simp only [span, Bool.and_eq_true, decide_eq_true_eq]
      omega
    · exact barB_all (by omega) h.2 s hs
theorem sound_l0 (hf : t.Fits) (hk : t.kinds.all kdB = true) (st : St) : ∀ (b a : List Kd) (k : Int), k = a.length → t.kinds = a ++ b →
    loopC E0 [1, 3, 4] [1] A36_l0 { ts := [(1, .loc 1 0), (3, .v (.bool true)), (4, .v (.int .i64 k))], bs := [(1, t.cs)] } st
    = some (.exit 0, { ts := [(1, .loc 1 0), (3, .v (.bool true)), (4, .v (.int .i64 t.kinds.length)), (50, .v (.bool false))], bs := [(1, t.cs)] }, st)
  | [], a, k, hk, e => by
    simp only [List.append_nil] at e
    subst hk
    rw [loopC_eq]
    simp [A36_l0, A36_r3, Town.cs, e]
  | x :: b, a, k, hk0, e => by
    subst hk0
    have hlt : a.length < t.kinds.length := by rw [e]; simp
    have hd : (row Kd.av t.kinds).drop (a.length * 3) = Kd.av x ++ row Kd.av b := by rw [e, row_drop Kd.len]; rfl
    have hw : IntKind.wrap .i64 ((a.length : Int) + 1) = (a.length : Int) + 1 := wrap_small (by omega) (by have := hf.k; omega)
    have hx := List.all_eq_true.1 hk x (by rw [e]; simp)
    simp only [kdB, Bool.and_eq_true] at hx
    rw [loopC_norm (fr' := { ts := [(1, .loc 1 0), (3, .v (.bool true)), (4, .v (.int .i64 ((a ++ [x]).length : Int)))], bs := [(1, t.cs)] }) (st' := st) (by
      simp [A36_l0, A36_r3, A36_r4, A36_r5, A36_r6, hlt, hd, hw, Kd.av, Town.cs, hx.1.1, hx.1.2, hx.2]), sound_l0 hf hk st b (a ++ [x]) _ rfl (by simp [e])]
theorem sound_l1 (hf : t.Fits) (hb : ∀ s ∈ t.barred, span s.low s.high 0 999 = true) (st : St) : ∀ (b a : List Sp) (k : Int), k = a.length → t.barred = a ++ b →
    loopC E0 [1, 3, 6] [1] A36_l1 { ts := [(1, .loc 1 0), (3, .v (.bool true)), (6, .v (.int .i64 k))], bs := [(1, t.cs)] } st
    = some (.exit 2, { ts := [(1, .loc 1 0), (3, .v (.bool true)), (6, .v (.int .i64 t.barred.length)), (78, .v (.bool false))], bs := [(1, t.cs)] }, st)
  | [], a, k, hk, e => by
    simp only [List.append_nil] at e
    subst hk
    rw [loopC_eq]
    simp [A36_l1, A36_r8, Town.cs, e]
  | x :: b, a, k, hk0, e => by
    subst hk0
    have hlt : a.length < t.barred.length := by rw [e]; simp
    have hd : (row Sp.av t.barred).drop (a.length * 2) = Sp.av x ++ row Sp.av b := by rw [e, row_drop Sp.len]; rfl
    have hw : IntKind.wrap .i64 ((a.length : Int) + 1) = (a.length : Int) + 1 := wrap_small (by omega) (by have := hf.b; omega)
    have hx := hb x (by rw [e]; simp)
    rw [loopC_norm (fr' := { ts := [(1, .loc 1 0), (3, .v (.bool true)), (6, .v (.int .i64 ((a ++ [x]).length : Int)))], bs := [(1, t.cs)] }) (st' := st) (by
      simp [A36_l1, A36_r8, A36_r9, A36_r10, hlt, hd, hw, Sp.av, Town.cs, hx]), sound_l1 hf hb st b (a ++ [x]) _ rfl (by simp [e])]
/-- What a town that passes is like. -/
structure Good (t : Town) : Prop where
  n : amid t.kinds.length 1 4 = true
  pause : amid t.pause 0 20 = true
  nb : t.barred.length ≤ 4
  forb : amid t.forb 0 65535 = true
  close : amid t.close 0 1439 = true
  nh : t.held.length ≤ 4
  kinds : t.kinds.all kdB = true
  barred : barB (-1) t.barred = true
  held : t.held.all (paperB t) = true
  tog : togB t [] t.held = true
theorem good_of (h : checkB t = true) : Good t := by
  simp only [checkB, soundB, headB, Bool.and_eq_true, decide_eq_true_eq] at h
  exact ⟨h.1.1.1.1.1.1.1.1.1, h.1.1.1.1.1.1.1.1.2, h.1.1.1.1.1.1.1.2, h.1.1.1.1.1.1.2, h.1.1.1.1.1.2, h.1.1.1.1.2, h.1.1.1.2, h.1.1.2, h.1.2, h.2⟩
theorem sound_ev (hf : t.Fits) (st : St) : callE E0 false (.fn 36 [] []) [.agg t.cs] st = some (.bool (checkB t), st) := by
  rw [callE0 (by decide) (af := A36) rfl rfl]
  have hch := check_ev hf
  simp only [Town.cs] at hch
  cases hc : checkB t with
  | false =>
    simp only [hc] at hch
    simp [A36, A36_r0, A36_r1, A36_r2, A36_r7, A36_r11, finish, Town.cs, hch, loopC_eq, A36_l0, A36_r3, A36_l1, A36_r8]
  | true =>
    simp only [hc] at hch
    obtain ⟨g1, g2, g3, g4, g5, g6, g7, g8, g9, g10⟩ := good_of hc
    have l0 := sound_l0 hf g7 { st with low := st.heap.length } t.kinds [] 0 rfl rfl
    have l1 := sound_l1 hf (barB_all (by omega) g8) { st with low := st.heap.length } t.barred [] 0 rfl rfl
    have hp := papers_ev hf (h := t.hh) hf.h
    have h3 : (t.barred.length : Int) ≤ 4 := by omega
    have h6 : (t.held.length : Int) ≤ 4 := by omega
    simp only [Town.cs, g9] at l0 l1 hp
    simp [A36, A36_r0, A36_r1, A36_r2, A36_r7, A36_r11, finish, Town.cs, hch, g1, g2, g4, g5, h3, h6, l0, l1, hp]
end
end Go.Proofs.Tryd


namespace Go.Proofs.Tryd
open Go Go.Proofs.AM

@[simp] theorem stamped_ev (st : St) : callE E0 false (.fn 23 [] []) [] st = some (.bool true, st) := by
  rw [callE_eq]
  rfl
section
variable {t : Town}
end
end Go.Proofs.Tryd


namespace Go.Proofs.Tryd
open Go Go.Proofs.AM

attribute [local simp] opsT trOf accOf boxesOf AOp.uses AO.uses objOf heffOf boxOf allPairs befores pairsFrom pairOk ordB hits AX.slot slotsL slotsP AX.slotO Nat.testBit
section
variable {t : Town}
theorem covers1_ev {m a b : Nat} {day : Int} {p : Pp} (hp : paperB t p = true) (hk : t.kinds.all kdB = true) (st : St) (ha : st.heap[a]? = some (.cells 0 none [.int .i64 day])) (hb : st.heap[b]? = some (.cells 0 none (t.cs ++ [.map m]))) :
    callE E0 false (.fn 93 [] [.ref a 0 0, .ref b 0 0]) [.agg p.av] st = some (.bool (amid day p.first (endB t p)), st) := by
  rw [callE0 (by decide) (af := A93) rfl rfl]
  have he := end_ev t m p hp hk
  have h1 : a < st.heap.length := (List.getElem?_eq_some_iff.1 ha).1
  have h2 : b < st.heap.length := (List.getElem?_eq_some_iff.1 hb).1
  have h1' : ¬ st.heap.length ≤ a := by omega
  have h2' : ¬ st.heap.length ≤ b := by omega
  simp only [Town.cs, Pp.av, List.cons_append, List.nil_append] at he hb
  simp [A93, A93_r0, A93_r1, regionA, finish, Town.cs, Pp.av, ha, hb, he, h1', h2']
end

section
variable {g : Nat} {cl : List AV} {h : Hd} {l : List Pp} {pr : Pp → Bool} {st : St}
theorem idx92_loop (hl : l.length ≤ 9223372036854775807) (hcl : ∀ hp d, mapS (AM.settle hp 0 true (d + 1)) cl = some (cl, [])) (hg : ∀ x ∈ l, callE E0 false (.fn g [] cl) [.agg x.av] st = some (.bool (pr x), st)) : ∀ (b a : List Pp) (k : Int), k = a.length → l = a ++ b →
    (b.any pr = true → ∃ n : Int, 0 ≤ n ∧ loopC E0 [0, 1, 7, 8] [] A92_l0 { ts := [(0, .v (lstA h Pp.av l)), (1, .v (.fn g [] cl)), (7, .v (.int .i64 l.length)), (8, .v (.int .i64 k))], bs := [] } st = some (.ret, { ts := [(4, .v (.int .i64 n))], bs := [] }, st)) ∧
    (b.any pr = false → loopC E0 [0, 1, 7, 8] [] A92_l0 { ts := [(0, .v (lstA h Pp.av l)), (1, .v (.fn g [] cl)), (7, .v (.int .i64 l.length)), (8, .v (.int .i64 k))], bs := [] } st = some (.exit 0, { ts := [(0, .v (lstA h Pp.av l)), (1, .v (.fn g [] cl)), (7, .v (.int .i64 l.length)), (8, .v (.int .i64 l.length)), (9, .v (.bool false))], bs := [] }, st))
  | [], a, k, hk, e => by
    simp only [List.append_nil] at e
    subst e hk
    refine ⟨fun h => by simp at h, fun _ => ?_⟩
    rw [loopC_eq]
    simp [A92_l0, A92_r2]
  | x :: b, a, k, hk, e => by
    subst hk
    have hlt : a.length < l.length := by rw [e]; simp
    have hd : (row Pp.av l).drop (a.length * 2) = Pp.av x ++ row Pp.av b := by rw [e, row_drop Pp.len]; rfl
    have hw : IntKind.wrap .i64 ((a.length : Int) + 1) = (a.length : Int) + 1 := wrap_small (by omega) (by omega)
    have hgx := hg x (by rw [e]; simp)
    simp only [Pp.av] at hgx
    cases hp : pr x with
    | true =>
      rw [hp] at hgx
      refine ⟨fun _ => ⟨a.length, by omega, ?_⟩, fun h => by simp [hp] at h⟩
      rw [loopC_eq]
      simp [A92_l0, A92_r2, A92_r3, A92_r4, A92_r5, A92_r6, hlt, hd, hw, Pp.av, hcl, hgx]
    | false =>
      rw [hp] at hgx
      rw [loopC_norm (fr' := { ts := [(0, .v (lstA h Pp.av l)), (1, .v (.fn g [] cl)), (7, .v (.int .i64 l.length)), (8, .v (.int .i64 ((a ++ [x]).length : Int)))], bs := [] }) (st' := st) (by
        simp [A92_l0, A92_r2, A92_r3, A92_r4, A92_r5, A92_r6, hlt, hd, hw, Pp.av, hcl, hgx])]
      have ih := idx92_loop hl hcl hg b (a ++ [x]) _ rfl (by simp [e])
      exact ⟨fun h => ih.1 (by simpa [hp] using h), fun h => ih.2 (by simpa [hp] using h)⟩
theorem contains69_ev (hl : l.length ≤ 9223372036854775807) (hcl : ∀ hp d, mapS (AM.settle hp 0 true (d + 1)) cl = some (cl, [])) (hg : ∀ x ∈ l, ∀ lo, callE E0 false (.fn g [] cl) [.agg x.av] { st with low := lo } = some (.bool (pr x), { st with low := lo })) :
    callE E0 false (.fn 69 [] []) [lstA h Pp.av l, .fn g [] cl] st = some (.bool (l.any pr), st) := by
  have hidx : ∃ n : Int, decide (0 ≤ n) = l.any pr ∧ ∀ lo, callE E0 false (.fn 92 [] []) [lstA h Pp.av l, .fn g [] cl] { st with low := lo } = some (.int .i64 n, { st with low := lo }) := by
    have hlp := idx92_loop (h := h) (st := { st with low := st.heap.length }) hl hcl (fun x hx => hg x hx _) l [] 0 rfl rfl
    cases ha : l.any pr with
    | true =>
      obtain ⟨n, hn, hlp⟩ := hlp.1 ha
      refine ⟨n, by simpa using hn, fun lo => ?_⟩
      rw [callE0 (by decide) (af := A92) rfl rfl]
      simp [A92, A92_r0, A92_r1, A92_r7, finish, hlp]
    | false =>
      have hlp := hlp.2 ha
      refine ⟨-1, by simp, fun lo => ?_⟩
      rw [callE0 (by decide) (af := A92) rfl rfl]
      simp [A92, A92_r0, A92_r1, A92_r7, finish, hlp]
  obtain ⟨n, hn, hidx⟩ := hidx
  rw [callE0 (by decide) (af := A69) rfl rfl]
  simp [A69, A69_r0, A69_r1, finish, hcl, hidx, hn]
end

section
variable {g : Nat} {cl : List AV} {h : Hd} {l : List Sp} {pr : Sp → Bool} {st : St}
theorem idx100_loop (hl : l.length ≤ 9223372036854775807) (hcl : ∀ hp d, mapS (AM.settle hp 0 true (d + 1)) cl = some (cl, [])) (hg : ∀ x ∈ l, callE E0 false (.fn g [] cl) [.agg x.av] st = some (.bool (pr x), st)) : ∀ (b a : List Sp) (k : Int), k = a.length → l = a ++ b →
    (b.any pr = true → ∃ n : Int, 0 ≤ n ∧ loopC E0 [0, 1, 7, 8] [] A100_l0 { ts := [(0, .v (lstA h Sp.av l)), (1, .v (.fn g [] cl)), (7, .v (.int .i64 l.length)), (8, .v (.int .i64 k))], bs := [] } st = some (.ret, { ts := [(4, .v (.int .i64 n))], bs := [] }, st)) ∧
    (b.any pr = false → loopC E0 [0, 1, 7, 8] [] A100_l0 { ts := [(0, .v (lstA h Sp.av l)), (1, .v (.fn g [] cl)), (7, .v (.int .i64 l.length)), (8, .v (.int .i64 k))], bs := [] } st = some (.exit 0, { ts := [(0, .v (lstA h Sp.av l)), (1, .v (.fn g [] cl)), (7, .v (.int .i64 l.length)), (8, .v (.int .i64 l.length)), (9, .v (.bool false))], bs := [] }, st))
  | [], a, k, hk, e => by
    simp only [List.append_nil] at e
    subst e hk
    refine ⟨fun h => by simp at h, fun _ => ?_⟩
    rw [loopC_eq]
    simp [A100_l0, A100_r2]
  | x :: b, a, k, hk, e => by
    subst hk
    have hlt : a.length < l.length := by rw [e]; simp
    have hd : (row Sp.av l).drop (a.length * 2) = Sp.av x ++ row Sp.av b := by rw [e, row_drop Sp.len]; rfl
    have hw : IntKind.wrap .i64 ((a.length : Int) + 1) = (a.length : Int) + 1 := wrap_small (by omega) (by omega)
    have hgx := hg x (by rw [e]; simp)
    simp only [Sp.av] at hgx
    cases hp : pr x with
    | true =>
      rw [hp] at hgx
      refine ⟨fun _ => ⟨a.length, by omega, ?_⟩, fun h => by simp [hp] at h⟩
      rw [loopC_eq]
      simp [A100_l0, A100_r2, A100_r3, A100_r4, A100_r5, A100_r6, hlt, hd, hw, Sp.av, hcl, hgx]
    | false =>
      rw [hp] at hgx
      rw [loopC_norm (fr' := { ts := [(0, .v (lstA h Sp.av l)), (1, .v (.fn g [] cl)), (7, .v (.int .i64 l.length)), (8, .v (.int .i64 ((a ++ [x]).length : Int)))], bs := [] }) (st' := st) (by
        simp [A100_l0, A100_r2, A100_r3, A100_r4, A100_r5, A100_r6, hlt, hd, hw, Sp.av, hcl, hgx])]
      have ih := idx100_loop hl hcl hg b (a ++ [x]) _ rfl (by simp [e])
      exact ⟨fun h => ih.1 (by simpa [hp] using h), fun h => ih.2 (by simpa [hp] using h)⟩
theorem contains95_ev (hl : l.length ≤ 9223372036854775807) (hcl : ∀ hp d, mapS (AM.settle hp 0 true (d + 1)) cl = some (cl, [])) (hg : ∀ x ∈ l, ∀ lo, callE E0 false (.fn g [] cl) [.agg x.av] { st with low := lo } = some (.bool (pr x), { st with low := lo })) :
    callE E0 false (.fn 95 [] []) [lstA h Sp.av l, .fn g [] cl] st = some (.bool (l.any pr), st) := by
  have hidx : ∃ n : Int, decide (0 ≤ n) = l.any pr ∧ ∀ lo, callE E0 false (.fn 100 [] []) [lstA h Sp.av l, .fn g [] cl] { st with low := lo } = some (.int .i64 n, { st with low := lo }) := by
    have hlp := idx100_loop (h := h) (st := { st with low := st.heap.length }) hl hcl (fun x hx => hg x hx _) l [] 0 rfl rfl
    cases ha : l.any pr with
    | true =>
      obtain ⟨n, hn, hlp⟩ := hlp.1 ha
      refine ⟨n, by simpa using hn, fun lo => ?_⟩
      rw [callE0 (by decide) (af := A100) rfl rfl]
      simp [A100, A100_r0, A100_r1, A100_r7, finish, hlp]
    | false =>
      have hlp := hlp.2 ha
      refine ⟨-1, by simp, fun lo => ?_⟩
      rw [callE0 (by decide) (af := A100) rfl rfl]
      simp [A100, A100_r0, A100_r1, A100_r7, finish, hlp]
  obtain ⟨n, hn, hidx⟩ := hidx
  rw [callE0 (by decide) (af := A95) rfl rfl]
  simp [A95, A95_r0, A95_r1, finish, hcl, hidx, hn]
end

section
variable {g : Nat} {cl : List AV} {h : Hd} {l : List Int} {pr : Int → Bool} {st : St}
end
end Go.Proofs.Tryd


namespace Go.Proofs.Tryd
open Go Go.Proofs.AM

def covB (t : Town) (l : List Pp) (day : Int) : Bool := l.any fun p => amid day p.first (endB t p)
def barredB (t : Town) (day : Int) : Bool := t.barred.any fun s => amid day s.low s.high
section
variable {t : Town}
theorem covers_ev {m : Nat} {h : Hd} {l : List Pp} (day : Int) (hl : l.length ≤ 9223372036854775807) (hall : ∀ p ∈ l, paperB t p = true) (hk : t.kinds.all kdB = true) (st : St) :
    callE E0 false (.fn 72 [] []) [.agg (t.cs ++ [.map m]), lstA h Pp.av l, .int .i64 day] st = some (.bool (covB t l day), st) := by
  rw [callE0 (by decide) (af := A72) rfl rfl]
  have hc := contains69_ev (h := h) (g := 93) (cl := [.ref (st.heap.length + 1) 0 0, .ref st.heap.length 0 0]) (pr := fun p => amid day p.first (endB t p)) (st := { heap := st.heap ++ [.cells 0 none (t.cs ++ [.map m]), .cells 0 none [.int .i64 day]], low := st.heap.length }) hl (fun hp d => by simp)
    (fun x hx lo => covers1_ev (m := m) (hall x hx) hk _ (by simp [List.getElem?_append_right]) (by simp))
  simp only [Town.cs, List.cons_append, List.nil_append] at hc
  simp [A72, A72_r0, A72_r1, finish, Town.cs, alloc, hc, covB]
theorem isBarred1_ev {a : Nat} {day : Int} {s : Sp} (st : St) (ha : st.heap[a]? = some (.cells 0 none [.int .i64 day])) :
    callE E0 false (.fn 96 [] [.ref a 0 0]) [.agg s.av] st = some (.bool (amid day s.low s.high), st) := by
  rw [callE0 (by decide) (af := A96) rfl rfl]
  simp [A96, A96_r0, A96_r1, finish, Sp.av, ha]
theorem isBarred_ev {m : Nat} (hf : t.Fits) (day : Int) (st : St) : callE E0 false (.fn 73 [] []) [.agg (t.cs ++ [.map m]), .int .i64 day] st = some (.bool (barredB t day), st) := by
  rw [callE0 (by decide) (af := A73) rfl rfl]
  have hc := contains95_ev (h := t.bh) (l := t.barred) (g := 96) (cl := [.ref st.heap.length 0 0]) (pr := fun s => amid day s.low s.high) (st := { heap := st.heap ++ [.cells 0 none [.int .i64 day]], low := st.heap.length }) hf.b (fun hp d => by simp)
    (fun x hx lo => isBarred1_ev _ (by simp))
  simp [A73, A73_r0, A73_r1, finish, Town.cs, alloc, hc, barredB]
end
end Go.Proofs.Tryd


namespace Go.Proofs.Tryd
open Go Go.Proofs.AM

def shrI (x i : Int) : Int := x.fdiv (2 ^ (min i.toNat 64))
def and1 (y : Int) : Int := IntKind.wrap .i64 (BitVec.ofInt 64 y &&& BitVec.ofInt 64 1).toNat
/-- Is a bit of a number set? -/
def bitB (x i : Int) : Bool := and1 (shrI x i) == 1
section
variable {t : Town} {m : Nat} {day film minute : Int}
end
end Go.Proofs.Tryd


namespace Go.Proofs.Tryd
open Go Go.Proofs.AM

@[simp] theorem glob0 : E0.glob 0 = some [.fn 128 [] [], .fn 129 [] [], .fn 130 [] [], .fn 131 [] []] := rfl
@[simp] theorem glob1 : E0.glob 1 = some [.int .i64 (-1), .int .i64 (-1)] := rfl
section
variable {t : Town} {day film minute : Int}
end
end Go.Proofs.Tryd


namespace Go.Proofs.Tryd
open Go Go.Proofs.AM

section
variable {α : Type} (B l : List α) (k : Nat) (x : α)
theorem get_app : (B ++ l)[B.length + k]? = l[k]? := by simp [List.getElem?_append_right]
theorem get_app0 : (B ++ l)[B.length]? = l[0]? := by simp [List.getElem?_append_right]
theorem set_app : (B ++ l).set (B.length + k) x = B ++ l.set k x := by simp [List.set_append_right]
theorem set_app0 : (B ++ l).set B.length x = B ++ l.set 0 x := by simp [List.set_append_right]
end
section
variable {t : Town} {lo hi : Int}
end
end Go.Proofs.Tryd


namespace Go.Proofs.Tryd
open Go Go.Proofs.AM

def dat : List Int → List AObj
  | [] => []
  | o :: os => [.cells os.length (some (3, 1)) (row In.av (o :: os))]
section
variable {t : Town} {lo hi : Int}
theorem isBarredM_ev {m : Nat} (hf : t.Fits) (day : Int) (st : St) : callE E0 false (.fn 73 [.agg (t.cs ++ [.map m])] []) [.int .i64 day] st = some (.bool (barredB t day), st) := by
  have h := isBarred_ev (m := m) hf day st
  rw [callE0 (by decide) (af := A73) rfl rfl] at h ⊢
  exact h
end
end Go.Proofs.Tryd


namespace Go.Proofs.Tryd
open Go Go.Proofs.AM

attribute [local simp] opsT trOf accOf boxesOf AOp.uses AO.uses objOf heffOf boxOf allPairs befores pairsFrom pairOk ordB hits AX.slot slotsL slotsP AX.slotO Nat.testBit
section
variable {t : Town} {lo hi : Int}
theorem slc3 (id ver n : Nat) : slcA 1 (.sl 1 id ver 0 (n + 1) none) none (some ((n : Int) + 1)) (some ((n : Int) + 1)) = some (.sl 1 id ver 0 (n + 1) (some (n + 1))) := by
  have h : ¬ ((n : Int) + 1 = 0) := by omega
  have h2 : ((n : Int) + 1).toNat = n + 1 := by omega
  have h3 : (0 : Int) ≤ n + 1 := by omega
  simp [slcA, h, h2, h3]
theorem slc0 : slcA 1 (.lst (some true) true 0 []) none (some 0) (some 0) = some (.lst (some true) true 0 []) := by simp [slcA]
def daysV (l : List Int) : AV := lstA ⟨some l.isEmpty, true⟩ In.av l
end
end Go.Proofs.Tryd


namespace Go.Proofs.Tryd
open Go Go.Proofs.AM

attribute [local simp] opsT trOf accOf boxesOf AOp.uses AO.uses objOf heffOf boxOf allPairs befores pairsFrom pairOk ordB hits AX.slot slotsL slotsP AX.slotO Nat.testBit
section
variable {t : Town}
end
end Go.Proofs.Tryd


namespace Go.Proofs.Tryd
open Go Go.Proofs.AM

section
variable {t : Town}
end
end Go.Proofs.Tryd


namespace Go.Proofs.Tryd
open Go Go.Proofs.AM

attribute [local simp] opsT trOf accOf boxesOf AOp.uses AO.uses objOf heffOf boxOf allPairs befores pairsFrom pairOk ordB hits AX.slot slotsL slotsP AX.slotO Nat.testBit
section
variable {t : Town}
section
variable {day film minute : Int}
end
section
variable {b lo hi : Int}
end
end
end Go.Proofs.Tryd


namespace Go.Proofs.Tryd
open Go Go.Proofs.AM

def outR (N : Nat) : List Int → AV
  | [] => .lst (some true) true 0 []
  | _ :: os => .sl 1 N os.length 0 (os.length + 1) none
section
variable {t : Town} {lo hi : Int}
end
end Go.Proofs.Tryd


namespace Go.Proofs.Tryd
open Go Go.Proofs.AM

section
variable {t : Town}
end
end Go.Proofs.Tryd


namespace Go.Proofs.Tryd
open Go Go.Proofs.AM

/-- Do numbers rise, from behind one on, to 999? -/
def riseB : Int → List Int → Bool
  | _, [] => true
  | e, n :: l => amid n (e + 1) 999 && riseB n l
def wantB (l : List Int) : Bool := decide (l.length ≤ 8) && riseB (-1) l
theorem drop_ints {a b l : List Int} {x : Int} (e : l = a ++ x :: b) : (row In.av l).drop a.length = .int .i64 x :: row In.av b := by
  have := row_drop In.len a (x :: b)
  rw [Nat.mul_one, ← e] at this
  exact this
theorem want_loop {h : Hd} {l : List Int} (hl : l.length ≤ 9223372036854775807) (st : St) : ∀ (b a : List Int) (k : Int) (ok : Bool) (e0 : Int), k = a.length → l = a ++ b → (ok = true → -1 ≤ e0 ∧ e0 ≤ 999) →
    ∃ e1, loopC E0 [3, 4, 10, 11, 12] [] A71_l0 { ts := [(3, .v (.bool ok)), (4, .v (.int .i64 e0)), (10, .v (lstA h In.av l)), (11, .v (.int .i64 l.length)), (12, .v (.int .i64 k))], bs := [] } st
    = some (.exit 0, { ts := [(3, .v (.bool (ok && riseB e0 b))), (4, .v (.int .i64 e1)), (10, .v (lstA h In.av l)), (11, .v (.int .i64 l.length)), (12, .v (.int .i64 l.length)), (13, .v (.bool false))], bs := [] }, st)
  | [], a, k, ok, e0, hk, e, _ => by
    simp only [List.append_nil] at e
    subst e hk
    refine ⟨e0, ?_⟩
    rw [loopC_eq]
    simp [A71_l0, A71_r3, riseB]
  | x :: b, a, k, ok, e0, hk, e, hr => by
    subst hk
    have hlt : a.length < l.length := by rw [e]; simp
    have hd := drop_ints e
    have hw : IntKind.wrap .i64 ((a.length : Int) + 1) = (a.length : Int) + 1 := wrap_small (by omega) (by omega)
    have hw2 : ok = true → IntKind.wrap .i64 (e0 + 1) = e0 + 1 := fun ho => wrap_small (by have := hr ho; omega) (by have := hr ho; omega)
    obtain ⟨e1, ih⟩ := want_loop (h := h) hl st b (a ++ [x]) _ (ok && amid x (e0 + 1) 999) x rfl (by simp [e]) (fun ho => by
      simp only [Bool.and_eq_true, amid_iff] at ho
      have := hr ho.1
      omega)
    refine ⟨e1, ?_⟩
    rw [loopC_norm (fr' := { ts := [(3, .v (.bool (ok && amid x (e0 + 1) 999))), (4, .v (.int .i64 x)), (10, .v (lstA h In.av l)), (11, .v (.int .i64 l.length)), (12, .v (.int .i64 ((a ++ [x]).length : Int)))], bs := [] }) (st' := st) (by
      cases ok with
      | false => simp [A71_l0, A71_r3, A71_r4, A71_r5, A71_r6, A71_r7, hlt, hd, hw]
      | true => simp [A71_l0, A71_r3, A71_r4, A71_r5, A71_r6, A71_r7, hlt, hd, hw, hw2 rfl]), ih]
    simp [Bool.and_assoc, riseB]
theorem areWanted_ev {h : Hd} {l : List Int} (hl : l.length ≤ 9223372036854775807) (st : St) : callE E0 false (.fn 71 [] []) [lstA h In.av l] st = some (.bool (wantB l), st) := by
  rw [callE0 (by decide) (af := A71) rfl rfl]
  obtain ⟨e1, ho⟩ := want_loop (h := h) hl { st with low := st.heap.length } l [] 0 (decide (l.length ≤ 8)) (-1) rfl rfl (by omega)
  have hd : decide ((l.length : Int) ≤ 8) = decide (l.length ≤ 8) := by apply decide_eq_decide.2; omega
  simp [A71, A71_r0, A71_r1, A71_r2, A71_r8, finish, hd, ho, wantB]
theorem rises_loop {h : Hd} {l : List Int} (hl : l.length ≤ 9223372036854775807) (st : St) : ∀ (b a : List Int) (k : Int) (e0 : Int), k = a.length → l = a ++ b → -1 ≤ e0 → e0 ≤ 999 →
    ∃ e1, loopC E0 [0, 1, 5, 6] [] A42_l0 { ts := [(0, .v (lstA h In.av l)), (1, .v (.int .i64 1000)), (5, .v (.int .i64 e0)), (6, .v (.int .i64 k))], bs := [] } st
    = if riseB e0 b = true then some (.exit 0, { ts := [(0, .v (lstA h In.av l)), (1, .v (.int .i64 1000)), (5, .v (.int .i64 e1)), (6, .v (.int .i64 l.length)), (10, .v (.bool false))], bs := [] }, st)
      else some (.ret, { ts := [(4, .v (.bool false))], bs := [] }, st)
  | [], a, k, e0, hk, e, _, _ => by
    simp only [List.append_nil] at e
    subst e hk
    refine ⟨e0, ?_⟩
    rw [loopC_eq]
    simp [A42_l0, A42_r3, riseB]
  | x :: b, a, k, e0, hk, e, h1, h2 => by
    subst hk
    have hlt : a.length < l.length := by rw [e]; simp
    have hd := drop_ints e
    have hw : IntKind.wrap .i64 ((a.length : Int) + 1) = (a.length : Int) + 1 := wrap_small (by omega) (by omega)
    have hw2 : IntKind.wrap .i64 (e0 + 1) = e0 + 1 := wrap_small (by omega) (by omega)
    have hw3 : IntKind.wrap .i64 999 = 999 := by decide
    cases hc : amid x (e0 + 1) 999 with
    | true =>
      have hx := amid_iff.1 hc
      obtain ⟨e1, ih⟩ := rises_loop (h := h) hl st b (a ++ [x]) _ x rfl (by simp [e]) (by omega) (by omega)
      refine ⟨e1, ?_⟩
      rw [loopC_norm (fr' := { ts := [(0, .v (lstA h In.av l)), (1, .v (.int .i64 1000)), (5, .v (.int .i64 x)), (6, .v (.int .i64 ((a ++ [x]).length : Int)))], bs := [] }) (st' := st) (by
        simp [A42_l0, A42_r3, A42_r4, A42_r5, A42_r6, A42_r7, hlt, hd, hw, hw2, hw3, hc]), ih]
      simp [riseB, hc]
    | false =>
      refine ⟨e0, ?_⟩
      rw [loopC_eq]
      simp [A42_l0, A42_r3, A42_r4, A42_r5, A42_r6, A42_r7, hlt, hd, hw, hw2, hw3, hc, riseB]
theorem rises_ev {h : Hd} {l : List Int} (hl : l.length ≤ 9223372036854775807) (st : St) : callE E0 false (.fn 42 [] []) [lstA h In.av l, .int .i64 1000] st = some (.bool (riseB (-1) l), st) := by
  rw [callE0 (by decide) (af := A42) rfl rfl]
  obtain ⟨e1, ho⟩ := rises_loop (h := h) hl { st with low := st.heap.length } l [] 0 (-1) rfl rfl (by omega) (by omega)
  cases hb : riseB (-1) l with
  | true =>
    rw [if_pos hb] at ho
    simp [A42, A42_r0, A42_r1, A42_r2, A42_r8, finish, ho]
  | false =>
    rw [if_neg (by simp [hb])] at ho
    simp [A42, A42_r0, A42_r1, A42_r2, A42_r8, finish, ho]
end Go.Proofs.Tryd


namespace Go.Proofs.Tryd
open Go Go.Proofs.AM

def noticeOf (t : Town) (p : Pp) : Int := match t.kinds[p.kind.toNat]? with
  | some k => k.notice
  | none => 0
def ordB (pr : Option Int) (p : Pp) : Bool := match pr with
  | none => true
  | some f => decide (f ≤ p.first)
def stepB (t : Town) (today : Int) (pr : Option Int) (p : Pp) : Bool := paperB t p && ordB pr p && decide (noticeOf t p ≤ p.first - today)
def goB (t : Town) (today : Int) : Option Int → List Pp → Bool
  | _, [] => true
  | pr, p :: l => stepB t today pr p && goB t today (some p.first) l
/-- What stands before, of a row of licences. -/
def Prev (a : List Pp) (pr : Option Int) : Prop := (a = [] ∧ pr = none) ∨ ∃ a' q, a = a' ++ [q] ∧ pr = some q.first
section
variable {t : Town}
theorem kn_of {p : Pp} (hp : paperB t p = true) (hk : t.kinds.all kdB = true) : ∃ k, t.kinds[p.kind.toNat]? = some k ∧ noticeOf t p = k.notice ∧ 0 ≤ k.notice ∧ k.notice ≤ 30 ∧ 0 ≤ p.kind ∧ p.kind < t.kinds.length ∧ 0 ≤ p.first ∧ p.first ≤ 999 := by
  obtain ⟨k, e1, hkd, e2, h0, h1, h2, h3⟩ := kd_of hp hk
  simp only [kdB, Bool.and_eq_true, amid_iff] at hkd
  exact ⟨k, e1, by simp [noticeOf, e1], hkd.2.1, hkd.2.2, h0, h1, h2, h3⟩
theorem isPlan_loop (hf : t.Fits) (hk : t.kinds.all kdB = true) {m : Nat} {today : Int} (ht : amid today 0 999 = true) {h : Hd} {l : List Pp} (hl : l.length ≤ 9223372036854775807) (st : St) (hlo : st.low ≤ st.heap.length) : ∀ (b a : List Pp) (k : Int) (pr : Option Int), k = a.length → l = a ++ b → Prev a pr →
    loopC E0 [1, 2, 3, 8, 25, 26, 27] [3, 8] A24_l0 { ts := [(1, .v (.int .i64 today)), (2, .v (lstA h Pp.av l)), (3, .loc 3 0), (8, .loc 8 0), (25, .v (lstA h Pp.av l)), (26, .v (.int .i64 l.length)), (27, .v (.int .i64 k))], bs := [(3, t.cs), (8, t.cs ++ [.map m])] } st
    = if goB t today pr b = true then some (.exit 0, { ts := [(1, .v (.int .i64 today)), (2, .v (lstA h Pp.av l)), (3, .loc 3 0), (8, .loc 8 0), (25, .v (lstA h Pp.av l)), (26, .v (.int .i64 l.length)), (27, .v (.int .i64 l.length)), (28, .v (.bool false))], bs := [(3, t.cs), (8, t.cs ++ [.map m])] }, st)
      else some (.ret, { ts := [(6, .v (.bool false)), (7, .v (.int .i64 0))], bs := [] }, st)
  | [], a, k, pr, hk0, e, _ => by
    simp only [List.append_nil] at e
    subst e hk0
    rw [loopC_eq]
    simp [A24_l0, A24_r7, goB]
  | p :: b, a, k, pr, hk0, e, hpr => by
    subst hk0
    have hlt : a.length < l.length := by rw [e]; simp
    have hd : (row Pp.av l).drop (a.length * 2) = Pp.av p ++ row Pp.av b := by rw [e, row_drop Pp.len]; rfl
    have hw : IntKind.wrap .i64 ((a.length : Int) + 1) = (a.length : Int) + 1 := wrap_small (by omega) (by omega)
    have hm : min st.low st.heap.length = st.low := Nat.min_eq_left hlo
    have hip := isPaper_ev t hf p
    have htd := amid_iff.1 ht
    simp only [Town.cs, Pp.av] at hip
    have ih := isPlan_loop hf hk (m := m) ht (h := h) hl st hlo b (a ++ [p]) _ (some p.first) rfl (by simp [e]) (.inr ⟨a, p, rfl, rfl⟩)
    cases hp : paperB t p with
    | false =>
      rw [loopC_eq]
      simp [A24_l0, A24_r7, A24_r8, A24_r9, A24_r10, A24_r11, regionA_st s24_r9, hm, hlt, hd, hw, Pp.av, Town.cs, hip, hp, goB, stepB]
    | true =>
      obtain ⟨kk, e1, e2, n1, n2, k0, k1, f0, f1⟩ := kn_of hp hk
      have hdk := row_get Kd.len e1
      have w1 : IntKind.wrap .i64 (p.first - today) = p.first - today := wrap_small (by omega) (by omega)
      rcases hpr with ⟨rfl, rfl⟩ | ⟨a', q, rfl, rfl⟩
      · by_cases hn : p.first - today < kk.notice
        · rw [loopC_eq]
          have hn' : ¬ kk.notice ≤ p.first - today := by omega
          simp only [List.length_nil, Nat.zero_mul, List.drop_zero] at hd hlt
          simp [A24_l0, A24_r7, A24_r8, A24_r9, A24_r10, A24_r11, regionA_st s24_r9, hm, hlt, hd, Pp.av, Town.cs, hip, hp, goB, stepB, ordB, e2, hn, hn', k0, k1, hdk, Kd.av, w1]
        · have hn' : kk.notice ≤ p.first - today := by omega
          have h1w : IntKind.wrap .i64 1 = 1 := by decide
          simp only [List.length_nil, Nat.zero_mul, List.drop_zero] at hd hlt
          rw [loopC_norm (fr' := { ts := [(1, .v (.int .i64 today)), (2, .v (lstA h Pp.av l)), (3, .loc 3 0), (8, .loc 8 0), (25, .v (lstA h Pp.av l)), (26, .v (.int .i64 l.length)), (27, .v (.int .i64 (([] ++ [p] : List Pp).length : Int)))], bs := [(3, t.cs), (8, t.cs ++ [.map m])] }) (st' := st) (by
            simp [A24_l0, A24_r7, A24_r8, A24_r9, A24_r10, A24_r11, regionA_st s24_r9, hm, hlt, hd, Pp.av, Town.cs, hip, hp, hn, k0, k1, hdk, Kd.av, w1, h1w]), ih]
          simp [goB, stepB, ordB, hp, e2, hn']
      · have hpos : (0 : Int) < (a'.length : Int) + 1 := by omega
        have w2 : IntKind.wrap .i64 ((a'.length : Int) + 1 - 1) = a'.length := by rw [wrap_small (by omega) (by simp at hlt; omega)]; omega
        have w3 : IntKind.wrap .i64 (a'.length : Int) = a'.length := wrap_small (by omega) (by simp at hlt; omega)
        have hlt' : a'.length < l.length := by simp at hlt; omega
        have hlt2 : a'.length + 1 < l.length := by simpa using hlt
        have hd2 : (row Pp.av l).drop (a'.length * 2) = Pp.av q ++ row Pp.av (p :: b) := by
          have : l = a' ++ (q :: p :: b) := by rw [e]; simp
          rw [this, row_drop Pp.len]; rfl
        simp only [List.length_append, List.length_singleton] at hd hw
        have hpn : ¬ (a'.length : Int) + 1 ≤ 0 := by omega
        have hlt3 : (a'.length : Int) + 1 < l.length := by omega
        have hT : ((a'.length : Int) + 1).toNat = a'.length + 1 := by omega
        have h0 : (0 : Int) ≤ (a'.length : Int) + 1 := by omega
        have hw5 : IntKind.wrap .i64 ((a'.length : Int) + 1 + 1) = (a'.length : Int) + 2 := by rw [wrap_small (by omega) (by omega)]; omega
        by_cases ho : p.first < q.first
        · have ho' : ¬ q.first ≤ p.first := by omega
          rw [loopC_eq]
          simp [A24_l0, A24_r7, A24_r8, A24_r9, A24_r10, A24_r11, regionA_st s24_r9, hm, hlt', hlt3, hT, h0, hd, hd2, hw, Pp.av, Town.cs, hip, hp, goB, stepB, ordB, hpos, hpn, w2, w3, ho, ho']
        · have ho' : q.first ≤ p.first := by omega
          by_cases hn : p.first - today < kk.notice
          · rw [loopC_eq]
            have hn' : ¬ kk.notice ≤ p.first - today := by omega
            simp [A24_l0, A24_r7, A24_r8, A24_r9, A24_r10, A24_r11, regionA_st s24_r9, hm, hlt', hlt3, hT, h0, hd, hd2, hw, Pp.av, Town.cs, hip, hp, goB, stepB, ordB, hpos, hpn, w2, w3, ho, ho', e2, hn, hn', k0, k1, hdk, Kd.av, w1]
          · have hn' : kk.notice ≤ p.first - today := by omega
            rw [loopC_norm (fr' := { ts := [(1, .v (.int .i64 today)), (2, .v (lstA h Pp.av l)), (3, .loc 3 0), (8, .loc 8 0), (25, .v (lstA h Pp.av l)), (26, .v (.int .i64 l.length)), (27, .v (.int .i64 ((a' ++ [q] ++ [p] : List Pp).length : Int)))], bs := [(3, t.cs), (8, t.cs ++ [.map m])] }) (st' := st) (by
              simp [A24_l0, A24_r7, A24_r8, A24_r9, A24_r10, A24_r11, regionA_st s24_r9, hm, hlt', hlt3, hT, h0, hd, hd2, hw, Pp.av, Town.cs, hip, hp, hpos, hpn, w2, w3, ho, hn, k0, k1, hdk, Kd.av, w1, hw5]), ih]
            simp [goB, stepB, ordB, hp, e2, hn', ho']
end
end Go.Proofs.Tryd


namespace Go.Proofs.Tryd
open Go Go.Proofs.AM

def planB (t : Town) (today : Int) (plan : List Pp) : Bool := decide (plan.length ≤ 8) && goB t today none plan && togB t [] (t.held ++ plan)
theorem slc_full {α : Type} {f : α → List AV} {k : Nat} (hf : ∀ x, (f x).length = k) {h : Hd} (l : List α) : slcA k (lstA h f l) none (some (l.length : Int)) (some (l.length : Int)) = some (lstA ⟨h.nl, true⟩ f l) := by
  have e := row_len hf l
  have ht : (row f l).take (l.length * k) = row f l := List.take_of_length_le (Nat.le_of_eq e)
  simp [slcA, lstA, ht]
section
variable {nl : Option Bool} {h : Hd} {a b : List Pp} {q : Pp}
theorem appP_nil (x : AV) (hx : x = lstA ⟨nl, true⟩ Pp.av a) (st : St) : appA 2 55 16 x (lstA h Pp.av []) st = some (x, st) := by
  subst hx
  simp [appA, sliceCells, lstA, row]
theorem appP_ev (hn : a.length + b.length ≤ 1000) (st : St) : appA 2 55 16 (lstA ⟨nl, true⟩ Pp.av a) (lstA h Pp.av (q :: b)) st = some (.sl 2 st.heap.length 0 0 (a ++ q :: b).length none, { heap := st.heap ++ [.cells 0 (some (55, 2)) (row Pp.av (a ++ q :: b))], low := st.low }) := by
  have e1 := row_len Pp.len (q :: b)
  have e2 := row_len Pp.len a
  simp only [List.length_cons] at e1
  have e3 : row Pp.av (a ++ q :: b) = row Pp.av a ++ row Pp.av (q :: b) := row_append _ _
  have h1 : (a.length + (b.length + 1)) * 16 ≤ room := by unfold room; omega
  have h2 : a.length + (b.length + 1) ≤ room := by unfold room; omega
  simp [appA, sliceCells, lstA, alloc, e1, e2, e3, h1, h2]
end
section
variable {t : Town} {today : Int} {h : Hd} {plan : List Pp}
theorem goB_all : ∀ {l : List Pp} {pr : Option Int}, goB t today pr l = true → ∀ p ∈ l, paperB t p = true
  | [], _, _, p, hp => by simp at hp
  | x :: l, pr, hg, p, hp => by
    simp only [goB, stepB, Bool.and_eq_true] at hg
    rcases List.mem_cons.1 hp with rfl | hp
    · exact hg.1.1.1
    · exact goB_all hg.2 p hp
theorem isPlan_ok (hf : t.Fits) (hc : checkB t = true) (ht : amid today 0 999 = true) (hl : plan.length ≤ 9223372036854775807) (st : St) : callE E0 false (.fn 24 [] []) [.agg t.cs, .int .i64 today, lstA h Pp.av plan] st = some (.tup [.bool (planB t today plan), .int .i64 0], st) := by
  rw [callE0 (by decide) (af := A24) rfl rfl]
  have g := good_of hc
  have ha := asked_ok hf hc
  have hlo := fun (m : Nat) (s : St) (hs : s.low ≤ s.heap.length) => isPlan_loop (t := t) hf g.kinds (m := m) (today := today) ht (h := h) hl s hs plan [] 0 none rfl rfl (.inl ⟨rfl, rfl⟩)
  have hlo := hlo st.heap.length { heap := st.heap ++ [.map []], low := st.heap.length } (by simp)
  have hsl := slc_full Pp.len (h := t.hh) t.held
  simp only [Town.cs, List.cons_append, List.nil_append] at ha hlo
  unfold planB
  by_cases h8 : (plan.length : Int) ≤ 8
  · have h8' : ¬ (8 : Int) < plan.length := by omega
    have h8'' : plan.length ≤ 8 := by omega
    cases hg : goB t today none plan with
    | false =>
      rw [hg] at hlo
      simp [A24, A24_r0, A24_r1, A24_r2, A24_r3, A24_r4, A24_r5, A24_r6, regionA_st s24_r1, finish, Town.cs, ha, ht, h8', h8'', hlo]
    | true =>
      rw [hg] at hlo
      have hall := goB_all hg
      cases plan with
      | nil =>
        have htg := together_ev t st.heap.length ⟨t.hh.nl, true⟩ t.held g.kinds hf.h (fun q hq => List.all_eq_true.1 g.held q hq)
        have hap := fun s => appP_nil (nl := t.hh.nl) (h := h) (a := t.held) (lstA ⟨t.hh.nl, true⟩ Pp.av t.held) rfl s
        simp only [Town.cs, List.cons_append, List.nil_append] at htg
        simp at hlo
        simp [A24, A24_r0, A24_r1, A24_r2, A24_r3, A24_r4, A24_r5, A24_r6, A24_r12, regionA_st s24_r1, regionA_st s24_r12, finish, Town.cs, ha, ht, hlo, hsl, hap, htg]
      | cons q b =>
        have htg : ∀ s, callE E0 false (.fn 64 [] []) [.agg (t.cs ++ [.map st.heap.length]), .lst (some false) false (t.held ++ q :: b).length (row Pp.av (t.held ++ q :: b))] s = some (.bool (togB t [] (t.held ++ q :: b)), s) := fun s => together_ev t st.heap.length ⟨some false, false⟩ (t.held ++ q :: b) g.kinds (by have := g.nh; simp at h8'' ⊢; omega) (fun x hx => by
          rcases List.mem_append.1 hx with hx | hx
          · exact List.all_eq_true.1 g.held x hx
          · exact hall x hx) s
        have hap := fun s => appP_ev (nl := t.hh.nl) (h := h) (a := t.held) (q := q) (b := b) (by have := g.nh; simp at h8''; omega) s
        have e1 := row_len Pp.len (t.held ++ q :: b)
        have e2 : ∀ (hp : List AObj) (s d : Nat) (refs : Bool), mapS (AM.settle hp s refs d) (row Pp.av (t.held ++ q :: b)) = some (row Pp.av (t.held ++ q :: b), []) := fun hp s d refs => mapS_plain (fun c hc => plainA.scal (row_scal Pp.sc _ c hc) d)
        have e3 : (row Pp.av (t.held ++ q :: b)).take ((t.held ++ q :: b).length * 2) = row Pp.av (t.held ++ q :: b) := List.take_of_length_le (Nat.le_of_eq e1)
        simp only [Town.cs, List.cons_append, List.nil_append, List.length_append, List.length_cons] at htg e1 e3
        have h7 : b.length ≤ 7 := by simp at h8''; omega
        simp only [List.length_cons, Int.natCast_add, Int.cast_ofNat_Int] at h8' hlo
        simp [A24, A24_r0, A24_r1, A24_r2, A24_r3, A24_r4, A24_r5, A24_r6, A24_r12, regionA_st s24_r1, regionA_st s24_r12, finish, Town.cs, ha, ht, h8', hlo, hsl, hap, htg, e1, e2, e3, get_app, set_app, frz1, h7]
  · have h8' : (8 : Int) < plan.length := by omega
    have h8'' : ¬ plan.length ≤ 8 := by omega
    simp [A24, A24_r0, A24_r1, A24_r2, A24_r3, A24_r4, A24_r5, regionA_st s24_r1, finish, Town.cs, ha, ht, h8', h8'']
end
end Go.Proofs.Tryd


namespace Go.Proofs.Tryd
open Go Go.Proofs.AM

section
variable {t : Town}
end
section
variable {t : Town} {today : Int} {h : Hd} {plan : List Pp}
end
end Go.Proofs.Tryd


namespace Go.Proofs.Tryd
open Go Go.Proofs.AM

def lackB (t : Town) (all : List Pp) (d : Int) : Bool := !covB t all d || barredB t d
def stL (B : List AObj) (lo : Nat) (outs : List Int) : St := { heap := B ++ dat outs, low := lo }
theorem appL_ev (B : List AObj) (lo : Nat) (hlo : lo ≤ B.length) (outs : List Int) (d : Int) (hb : outs.length ≤ 1000) : appA 1 3 8 (outR B.length outs) (.lst (some false) true 1 [.int .i64 d]) (stL B lo outs) = some (outR B.length (outs ++ [d]), stL B lo (outs ++ [d])) := by
  have hm : min lo B.length = lo := Nat.min_eq_left hlo
  cases outs with
  | nil => simp [appA, sliceCells, outR, stL, dat, alloc, room, row, In.av]
  | cons o os =>
    have hl : (row In.av (o :: os)).length = os.length + 1 := by rw [row_len In.len]; simp
    have ha : row In.av (o :: (os ++ [d])) = row In.av (o :: os) ++ [.int .i64 d] := by rw [← List.cons_append, row_append]; rfl
    simp only [List.length_cons] at hb
    have h1 : (os.length + 1 + 1) * 8 ≤ room := by unfold room; omega
    have h2 : os.length + 1 + 1 ≤ room := by unfold room; omega
    simp [appA, sliceCells, outR, stL, dat, mods, h1, h2, hl, ha, get_app0, set_app0, hm]
section
variable {t : Town}
theorem lacking1_ev (hf : t.Fits) {a : Nat} {p : Pp} (st : St) (ha : st.heap[a]? = some (.cells 0 none t.cs)) : callE E0 false (.fn 70 [] [.ref a 0 0]) [.agg p.av] st = some (.bool (!paperB t p), st) := by
  rw [callE0 (by decide) (af := A70) rfl rfl]
  have hp := isPaper_ev t hf p
  simp only [Town.cs, Pp.av] at hp ha
  simp [A70, A70_r0, A70_r1, finish, Town.cs, Pp.av, ha, hp]
theorem lack_loop (hf : t.Fits) (g : Good t) {m : Nat} {all : List Pp} {ha hw : Hd} {av : AV} {L : List Nat} {B : Bool → List AObj} {n0 lo : Nat} {wanted : List Int}
    (hall : ∀ p ∈ all, paperB t p = true) (hal : all.length ≤ 9223372036854775807) (hwl : wanted.length ≤ 8) (hlo : lo ≤ n0) (hB : ∀ z, (B z).length = n0)
    (hs : ∀ z outs, AM.settle (B z ++ dat outs) 0 true 8 av = some (lstA ha Pp.av all, L)) (hfr : ∀ z outs, frzAll (B z ++ dat outs) L = B true ++ dat outs) :
    ∀ (b a : List Int) (k : Int) (z : Bool) (outs : List Int), k = a.length → wanted = a ++ b → outs.length ≤ a.length →
    ∃ z', loopC E0 [9, 11, 12, 51, 52, 53] [9] A26_l0 { ts := [(9, .loc 9 0), (11, .v av), (12, .v (outR n0 outs)), (51, .v (lstA hw In.av wanted)), (52, .v (.int .i64 wanted.length)), (53, .v (.int .i64 k))], bs := [(9, t.cs ++ [.map m])] } (stL (B z) lo outs)
    = some (.exit 0, { ts := [(9, .loc 9 0), (11, .v av), (12, .v (outR n0 (outs ++ b.filter (lackB t all)))), (51, .v (lstA hw In.av wanted)), (52, .v (.int .i64 wanted.length)), (53, .v (.int .i64 wanted.length)), (54, .v (.bool false))], bs := [(9, t.cs ++ [.map m])] }, stL (B z') lo (outs ++ b.filter (lackB t all)))
  | [], a, k, z, outs, hk, e, _ => by
    simp only [List.append_nil] at e
    subst e hk
    refine ⟨z, ?_⟩
    rw [loopC_eq]
    simp [A26_l0, A26_r8]
  | d :: b, a, k, z, outs, hk, e, ho => by
    subst hk
    have hlt : a.length < wanted.length := by rw [e]; simp
    have hd := drop_ints e
    have hw1 : IntKind.wrap .i64 ((a.length : Int) + 1) = (a.length : Int) + 1 := wrap_small (by omega) (by omega)
    have hcv := covers_ev (m := m) (h := ha) d hal hall g.kinds
    have hba := isBarred_ev (m := m) hf d
    have hs1 := hs z outs
    have hf1 := hfr z outs
    have hst : stL (B z) lo outs = { heap := B z ++ dat outs, low := lo } := rfl
    have hap := appL_ev (B true) lo (by rw [hB]; exact hlo) outs d (by omega)
    rw [hB] at hap
    have hap' : appA 1 3 8 (outR n0 outs) (.lst (some false) true 1 [.int .i64 d]) { heap := B true ++ dat outs, low := lo } = some (outR n0 (outs ++ [d]), { heap := B true ++ dat (outs ++ [d]), low := lo }) := hap
    simp only [Town.cs, List.cons_append, List.nil_append] at hcv hba
    by_cases hlk : lackB t all d = true
    · obtain ⟨z', ih⟩ := lack_loop hf g (m := m) (hw := hw) hall hal hwl hlo hB hs hfr b (a ++ [d]) _ true (outs ++ [d]) rfl (by simp [e]) (by simp; omega)
      refine ⟨z', ?_⟩
      rw [hst, loopC_norm (fr' := { ts := [(9, .loc 9 0), (11, .v av), (12, .v (outR n0 (outs ++ [d]))), (51, .v (lstA hw In.av wanted)), (52, .v (.int .i64 wanted.length)), (53, .v (.int .i64 ((a ++ [d]).length : Int)))], bs := [(9, t.cs ++ [.map m])] }) (st' := stL (B true) lo (outs ++ [d])) (by
        unfold lackB at hlk
        cases h1 : covB t all d with
        | false => simp [A26_l0, A26_r8, A26_r9, A26_r10, A26_r11, A26_r12, hlt, hd, hw1, Town.cs, hs1, hf1, hcv, h1, hap', stL]
        | true =>
          rw [h1] at hlk
          have h2 : barredB t d = true := by simpa using hlk
          simp [A26_l0, A26_r8, A26_r9, A26_r10, A26_r11, A26_r12, hlt, hd, hw1, Town.cs, hs1, hf1, hcv, hba, h1, h2, hap', stL]), ih]
      simp [hlk]
    · obtain ⟨z', ih⟩ := lack_loop hf g (m := m) (hw := hw) hall hal hwl hlo hB hs hfr b (a ++ [d]) _ true outs rfl (by simp [e]) (by simp; omega)
      refine ⟨z', ?_⟩
      rw [hst, loopC_norm (fr' := { ts := [(9, .loc 9 0), (11, .v av), (12, .v (outR n0 outs)), (51, .v (lstA hw In.av wanted)), (52, .v (.int .i64 wanted.length)), (53, .v (.int .i64 ((a ++ [d]).length : Int)))], bs := [(9, t.cs ++ [.map m])] }) (st' := stL (B true) lo outs) (by
        unfold lackB at hlk
        have h1 : covB t all d = true := by simp at hlk; exact hlk.1
        have h2 : barredB t d = false := by simp at hlk; exact hlk.2
        simp [A26_l0, A26_r8, A26_r9, A26_r10, A26_r12, hlt, hd, hw1, Town.cs, hs1, hf1, hcv, hba, h1, h2, stL]), ih]
      simp [hlk]
end
end Go.Proofs.Tryd


namespace Go.Proofs.Tryd
open Go Go.Proofs.AM

attribute [local simp] opsT trOf accOf boxesOf AOp.uses AO.uses objOf heffOf boxOf allPairs befores pairsFrom pairOk AM.ordB hits AX.slot slotsL slotsP AX.slotO Nat.testBit
def rightB (t : Town) (plan : List Pp) : Bool := decide (plan.length ≤ 8) && plan.all (paperB t)
theorem not_any_not {α : Type} {p : α → Bool} : ∀ l : List α, (!(l.any fun x => !p x)) = l.all p
  | [] => rfl
  | x :: l => by
    have := not_any_not (p := p) l
    simp only [List.any_cons, List.all_cons, ← this]
    cases p x <;> simp
section
variable {t : Town} {h hw : Hd} {plan : List Pp} {wanted : List Int}
theorem lacking_contains (hf : t.Fits) (hl : plan.length ≤ 9223372036854775807) (B : List AObj) (lo : Nat) : callE E0 false (.fn 69 [] []) [lstA h Pp.av plan, .fn 70 [] [.ref B.length 0 0]] { heap := B ++ [.cells 0 none t.cs], low := lo } = some (.bool (!plan.all (paperB t)), { heap := B ++ [.cells 0 none t.cs], low := lo }) := by
  have := contains69_ev (h := h) (l := plan) (g := 70) (cl := [.ref B.length 0 0]) (pr := fun p => !paperB t p) (st := { heap := B ++ [.cells 0 none t.cs], low := lo }) hl (fun hp d => by simp) (fun x hx lo => lacking1_ev hf _ (by simp))
  rw [this, ← not_any_not (p := paperB t) plan, Bool.not_not]
set_option maxHeartbeats 1000000 in
theorem lacking_ok (hf : t.Fits) (hc : checkB t = true) (hw1 : wantB wanted = true) (hr : rightB t plan = true) (st : St) : callE E0 false (.fn 26 [] []) [.agg t.cs, lstA h Pp.av plan, lstA hw In.av wanted] st = some (.tup [daysV (wanted.filter (lackB t (t.held ++ plan))), .int .i64 0], st) := by
  rw [callE0 (by decide) (af := A26) rfl rfl]
  have g := good_of hc
  have ha := asked_ok hf hc
  simp only [rightB, Bool.and_eq_true, decide_eq_true_eq] at hr
  have hw8 : wanted.length ≤ 8 := by
    simp only [wantB, Bool.and_eq_true, decide_eq_true_eq] at hw1
    exact hw1.1
  have hcn := lacking_contains (t := t) (plan := plan) (h := h) hf (by omega) st.heap
  have haw := areWanted_ev (h := hw) (l := wanted) (by omega)
  have h8 : (plan.length : Int) ≤ 8 := by omega
  have hsl := slc_full Pp.len (h := t.hh) t.held
  have hnh := g.nh
  have hjoin : ∀ x ∈ t.held ++ plan, paperB t x = true := fun x hx => by
    rcases List.mem_append.1 hx with hx | hx
    · exact List.all_eq_true.1 g.held x hx
    · exact List.all_eq_true.1 hr.2 x hx
  simp only [hw1] at haw
  simp only [hr.2] at hcn
  simp only [Town.cs, List.cons_append, List.nil_append] at ha hcn
  cases plan with
  | nil =>
    have hap := fun s => appP_nil (nl := t.hh.nl) (h := h) (a := t.held) (lstA ⟨t.hh.nl, true⟩ Pp.av t.held) rfl s
    obtain ⟨z', hlp⟩ := lack_loop hf g (m := st.heap.length + 1) (all := t.held) (ha := ⟨t.hh.nl, true⟩) (hw := hw) (av := lstA ⟨t.hh.nl, true⟩ Pp.av t.held) (L := []) (B := fun _ => st.heap ++ [.cells 0 none t.cs, .map []]) (n0 := st.heap.length + 2) (lo := st.heap.length) (wanted := wanted)
      (fun p hp => List.all_eq_true.1 g.held p hp) hf.h hw8 (by omega) (fun _ => by simp) (fun _ _ => by simp) (fun _ _ => rfl) wanted [] 0 true [] rfl rfl (by simp)
    simp only [List.append_nil, List.nil_append] at hlp ⊢
    generalize wanted.filter (lackB t t.held) = outs at hlp ⊢
    simp only [Town.cs, stL, dat, List.append_nil, outR, List.cons_append, List.nil_append] at hlp
    cases outs with
    | nil =>
      simp at hlp
      simp [A26, A26_r0, A26_r1, A26_r2, A26_r3, A26_r4, A26_r5, A26_r6, A26_r7, A26_r13, regionA, finish, Town.cs, alloc, ha, hcn, haw, hsl, hap, hlp, slc0, daysV]
      rfl
    | cons o os =>
      have e1 : (row In.av (o :: os)).length = os.length + 1 := by rw [row_len In.len]; simp
      have e2 : ∀ (hp : List AObj) (s d : Nat) (refs : Bool), mapS (AM.settle hp s refs d) (row In.av (o :: os)) = some (row In.av (o :: os), []) := fun hp s d refs => mapS_plain (fun c hc => plainA.scal (row_scal In.sc _ c hc) d)
      have e3 : (row In.av (o :: os)).take (os.length + 1) = row In.av (o :: os) := List.take_of_length_le (Nat.le_of_eq e1)
      have e4 : ¬ (st.heap.length + 2 < st.heap.length) := by omega
      simp at hlp
      simp [A26, A26_r0, A26_r1, A26_r2, A26_r3, A26_r4, A26_r5, A26_r6, A26_r7, A26_r13, regionA, finish, Town.cs, alloc, ha, hcn, haw, hsl, hap, hlp, slc3, daysV, e1, e2, e3, e4, get_app]
      rfl
  | cons q b =>
    have hb : b.length ≤ 7 := by have := hr.1; simp at this; omega
    have h8b : (b.length : Int) + 1 ≤ 8 := by omega
    have hap := fun s => appP_ev (nl := t.hh.nl) (h := h) (a := t.held) (q := q) (b := b) (by omega) s
    have f1 := row_len Pp.len (t.held ++ q :: b)
    have f2 : ∀ (hp : List AObj) (s d : Nat) (refs : Bool), mapS (AM.settle hp s refs d) (row Pp.av (t.held ++ q :: b)) = some (row Pp.av (t.held ++ q :: b), []) := fun hp s d refs => mapS_plain (fun c hc => plainA.scal (row_scal Pp.sc _ c hc) d)
    have f3 : (row Pp.av (t.held ++ q :: b)).take ((t.held ++ q :: b).length * 2) = row Pp.av (t.held ++ q :: b) := List.take_of_length_le (Nat.le_of_eq f1)
    obtain ⟨z', hlp⟩ := lack_loop hf g (m := st.heap.length + 1) (all := t.held ++ q :: b) (ha := ⟨some false, false⟩) (hw := hw) (av := .sl 2 (st.heap.length + 2) 0 0 (t.held ++ q :: b).length none) (L := [st.heap.length + 2])
      (B := fun z => st.heap ++ [.cells 0 none t.cs, .map [], if z then .frz 0 (row Pp.av (t.held ++ q :: b)) else .cells 0 (some (55, 2)) (row Pp.av (t.held ++ q :: b))]) (n0 := st.heap.length + 3) (lo := st.heap.length) (wanted := wanted)
      hjoin (by simp; omega) hw8 (by omega) (fun _ => by simp)
      (fun z outs => by
        simp only [List.length_append, List.length_cons] at f1 f3
        cases z <;> simp [get_app, f1, f2, f3, lstA])
      (fun z outs => by cases z <;> simp [get_app, set_app, frz1]) wanted [] 0 false [] rfl rfl (by simp)
    simp only [List.nil_append] at hlp
    generalize wanted.filter (lackB t (t.held ++ q :: b)) = outs at hlp ⊢
    simp only [List.length_append, List.length_cons] at f1 f3 hlp
    cases outs with
    | nil =>
      simp [Town.cs, stL, dat, outR] at hlp
      cases z' <;> simp at hlp <;> simp [A26, A26_r0, A26_r1, A26_r2, A26_r3, A26_r4, A26_r5, A26_r6, A26_r7, A26_r13, regionA, finish, Town.cs, alloc, ha, hcn, haw, hsl, hap, hlp, hb, h8b, slc0, daysV] <;> rfl
    | cons o os =>
      have e1 : (row In.av (o :: os)).length = os.length + 1 := by rw [row_len In.len]; simp
      have e2 : ∀ (hp : List AObj) (s d : Nat) (refs : Bool), mapS (AM.settle hp s refs d) (row In.av (o :: os)) = some (row In.av (o :: os), []) := fun hp s d refs => mapS_plain (fun c hc => plainA.scal (row_scal In.sc _ c hc) d)
      have e3 : (row In.av (o :: os)).take (os.length + 1) = row In.av (o :: os) := List.take_of_length_le (Nat.le_of_eq e1)
      have e4 : ¬ (st.heap.length + 3 < st.heap.length) := by omega
      simp [Town.cs, stL, dat, outR] at hlp
      cases z' <;> simp at hlp <;> simp [A26, A26_r0, A26_r1, A26_r2, A26_r3, A26_r4, A26_r5, A26_r6, A26_r7, A26_r13, regionA, finish, Town.cs, alloc, ha, hcn, haw, hsl, hap, hlp, hb, h8b, slc3, daysV, e1, e2, e3, e4, get_app] <;> rfl
end
end Go.Proofs.Tryd


namespace Go.Proofs.Tryd
open Go Go.Proofs.AM

section
variable {t : Town} {h hw : Hd} {plan : List Pp} {wanted : List Int}
end
end Go.Proofs.Tryd


namespace Go.Proofs.Tryd
open Go Go.Proofs.AM

def arr (f : Nat → Int) : List Int := (List.range 1059).map f
theorem arr_len (f : Nat → Int) : (arr f).length = 1059 := by simp [arr]
theorem arr_get (f : Nat → Int) {d : Nat} (hd : d < 1059) : (arr f)[d]? = some (f d) := by simp [arr, hd]
def add (f : Nat → Int) (a b : Int) : Nat → Int := fun i => if a ≤ i ∧ (i : Int) < b then f i + 1 else f i
theorem arr_set (f : Nat → Int) {d : Nat} (hd : d < 1059) : (arr f).set d (f d + 1) = arr (add f d (d + 1)) := by
  apply List.ext_getElem
  · simp [arr]
  · intro i h1 h2
    simp only [List.getElem_set]
    have hi : i < 1059 := by simpa [arr] using h2
    by_cases h : d = i
    · subst h
      simp [arr, add]
      omega
    · have : ¬ ((d : Int) ≤ i ∧ (i : Int) < d + 1) := by omega
      simp [arr, add, h]
      intro h1 h2
      omega
theorem row_set : ∀ {l : List Int} {d : Nat} {v : Int}, d < l.length → (row In.av l).take d ++ [.int .i64 v] ++ (row In.av l).drop (d + 1) = row In.av (l.set d v)
  | [], d, v, h => by simp at h
  | x :: l, 0, v, _ => by simp [row, In.av]
  | x :: l, d + 1, v, h => by
    have := row_set (l := l) (d := d) (v := v) (by simpa using h)
    simp only [row, In.av, List.take_succ_cons, List.cons_append, List.nil_append, List.drop_succ_cons, List.set_cons_succ]
    rw [this]
theorem row_rep : ∀ n : Nat, row In.av (List.replicate n 0) = List.replicate n (.int .i64 0)
  | 0 => rfl
  | n + 1 => by simp [List.replicate_succ, row, In.av, row_rep n]
theorem arr_zero : arr (fun _ => 0) = List.replicate 1059 0 := by
  unfold arr
  rw [List.map_const', List.length_range]
theorem add_add (f : Nat → Int) {a b : Int} (h : a < b) : add (add f a (a + 1)) (a + 1) b = add f a b := by
  funext i
  unfold add
  by_cases h1 : a ≤ i ∧ (i : Int) < a + 1
  · have h2 : ¬ (a + 1 ≤ (i : Int) ∧ (i : Int) < b) := by omega
    have h3 : a ≤ (i : Int) ∧ (i : Int) < b := by omega
    rw [if_neg h2, if_pos h1, if_pos h3]
  · by_cases h2 : a + 1 ≤ (i : Int) ∧ (i : Int) < b
    · have h3 : a ≤ (i : Int) ∧ (i : Int) < b := by omega
      rw [if_pos h2, if_neg h1, if_pos h3]
    · have h3 : ¬ (a ≤ (i : Int) ∧ (i : Int) < b) := by omega
      rw [if_neg h2, if_neg h1, if_neg h3]
theorem add_none (f : Nat → Int) {a b : Int} (h : b ≤ a) : add f a b = f := by
  funext i
  unfold add
  rw [if_neg (by omega)]
theorem add_bound {f : Nat → Int} {c : Int} (hf : ∀ i, 0 ≤ f i ∧ f i ≤ c) (a b : Int) : ∀ i, 0 ≤ add f a b i ∧ add f a b i ≤ c + 1 := by
  intro i
  have := hf i
  unfold add
  split <;> omega
/-- The heap while days are marked. -/
def stM (B : List AObj) (f g : Nat → Int) : St := { heap := B ++ [.cells 0 none (row In.av (arr f)), .cells 0 none (row In.av (arr g))], low := B.length }
theorem storeM1 (B : List AObj) (f g : Nat → Int) {d : Nat} (hd : d < 1059) (bs : Bxs) : storeA 1 (.v (.ref B.length 0 d)) (.int .i64 (f d + 1)) bs (stM B f g) = some (bs, stM B (add f d (d + 1)) g) := by
  have e := row_set (l := arr f) (d := d) (v := f d + 1) (by rw [arr_len]; exact hd)
  rw [arr_set f hd] at e
  have el : (row In.av (arr f)).length = 1059 := by rw [row_len In.len, arr_len]
  have hd' : d + 1 ≤ 1059 := hd
  simp only [List.append_assoc, List.singleton_append] at e
  simp [stM, get_app0, set_app0, mods, el, hd', e]
theorem storeM2 (B : List AObj) (f g : Nat → Int) {d : Nat} (hd : d < 1059) (bs : Bxs) : storeA 1 (.v (.ref (B.length + 1) 0 d)) (.int .i64 (g d + 1)) bs (stM B f g) = some (bs, stM B f (add g d (d + 1))) := by
  have e := row_set (l := arr g) (d := d) (v := g d + 1) (by rw [arr_len]; exact hd)
  rw [arr_set g hd] at e
  have el : (row In.av (arr g)).length = 1059 := by rw [row_len In.len, arr_len]
  have hd' : d + 1 ≤ 1059 := hd
  have hm : min B.length (B.length + 1) = B.length := by omega
  simp only [List.append_assoc, List.singleton_append] at e
  simp [stM, get_app, set_app, mods, el, hd', e, hm]
theorem readM1 (B : List AObj) (f g : Nat → Int) {d : Nat} (hd : d < 1059) : ∃ r, (stM B f g).heap[B.length]? = some (.cells 0 none (row In.av (arr f))) ∧ (row In.av (arr f)).drop d = .int .i64 (f d) :: r := by
  have := row_get In.len (arr_get f hd)
  rw [Nat.mul_one] at this
  exact ⟨_, by simp [stM, get_app0], this⟩
theorem readM2 (B : List AObj) (f g : Nat → Int) {d : Nat} (hd : d < 1059) : ∃ r, (stM B f g).heap[B.length + 1]? = some (.cells 0 none (row In.av (arr g))) ∧ (row In.av (arr g)).drop d = .int .i64 (g d) :: r := by
  have := row_get In.len (arr_get g hd)
  rw [Nat.mul_one] at this
  exact ⟨_, by simp [stM, get_app], this⟩
section
variable {t : Town} {h : Hd} {l : List Pp}
theorem marks_in (gp : amid t.pause 0 20 = true) (gk : t.kinds.all kdB = true) {p : Pp} {a b : List Pp} (hp : paperB t p = true) (e : l = a ++ p :: b) (hl : l.length ≤ 1000) (B : List AObj) {c : Int} (hc : c ≤ 10000) : ∀ (r : Nat) (d : Int) (f g : Nat → Int), d + r = p.first + daysOf t p + t.pause → p.first ≤ d → (∀ i, 0 ≤ f i ∧ f i ≤ c + 2000 - r) → (∀ i, 0 ≤ g i ∧ g i ≤ c + 2000 - r) →
    loopC E0 [1, 2, 7, 8, 9, 10, 11] [2] A37_l0 { ts := [(1, .v (lstA h Pp.av l)), (2, .loc 2 0), (7, .v (.sl 1 B.length 0 0 1059 (some 1059))), (8, .v (.sl 1 (B.length + 1) 0 0 1059 (some 1059))), (9, .v (.int .i64 a.length)), (10, .v (.int .i64 (daysOf t p))), (11, .v (.int .i64 d))], bs := [(2, t.cs)] } (stM B f g)
    = some (.exit 2, { ts := [(1, .v (lstA h Pp.av l)), (2, .loc 2 0), (7, .v (.sl 1 B.length 0 0 1059 (some 1059))), (8, .v (.sl 1 (B.length + 1) 0 0 1059 (some 1059))), (9, .v (.int .i64 a.length)), (10, .v (.int .i64 (daysOf t p))), (11, .v (.int .i64 (p.first + daysOf t p + t.pause))), (48, .v (.bool false))], bs := [(2, t.cs)] },
        stM B (add f d (p.first + daysOf t p)) (add g d (p.first + daysOf t p + t.pause))) := by
  intro r
  obtain ⟨kk, e1, hkd, e2, k0, k1, f0, f1⟩ := kd_of hp gk
  simp only [kdB, Bool.and_eq_true, amid_iff] at hkd
  have gp' := amid_iff.1 gp
  have hlt : a.length < l.length := by rw [e]; simp
  have hd : (row Pp.av l).drop (a.length * 2) = Pp.av p ++ row Pp.av b := by rw [e, row_drop Pp.len]; rfl
  have w1 : IntKind.wrap .i64 (p.first + daysOf t p) = p.first + daysOf t p := wrap_small (by omega) (by omega)
  have w2 : IntKind.wrap .i64 (p.first + daysOf t p + t.pause) = p.first + daysOf t p + t.pause := wrap_small (by omega) (by omega)
  induction r with
  | zero =>
    intro d f g hr hd0 hf hg
    have e3 : d = p.first + daysOf t p + t.pause := by omega
    have hm : ∀ f g, min (stM B f g).low (stM B f g).heap.length = (stM B f g).low := fun f g => by simp [stM]
    rw [loopC_eq, add_none f (by omega), add_none g (by omega), e3]
    simp [A37_l0, A37_r8, regionA_st s37_r8, hm, hlt, hd, Pp.av, Town.cs, w1, w2]
  | succ r ih =>
    intro d f g hr hd0 hf hg
    obtain ⟨dn, hdn⟩ : ∃ dn : Nat, (dn : Int) = d := ⟨d.toNat, by omega⟩
    subst hdn
    have hlt2 : dn < 1059 := by omega
    have hlt3 : (dn : Int) < p.first + daysOf t p + t.pause := by omega
    have hlt4 : (dn : Int) < 1059 := by omega
    have hm : ∀ f g, min (stM B f g).low (stM B f g).heap.length = (stM B f g).low := fun f g => by simp [stM]
    have w3 : IntKind.wrap .i64 ((dn : Int) + 1) = (dn : Int) + 1 := wrap_small (by omega) (by omega)
    have w4 : IntKind.wrap .i64 (f dn + 1) = f dn + 1 := by have := hf dn; exact wrap_small (by omega) (by omega)
    have w5 : IntKind.wrap .i64 (g dn + 1) = g dn + 1 := by have := hg dn; exact wrap_small (by omega) (by omega)
    obtain ⟨r1, q1, q2⟩ := readM1 B f g hlt2
    have s1 := storeM1 B f g hlt2
    have hg' : ∀ i, 0 ≤ add g dn (dn + 1) i ∧ add g dn (dn + 1) i ≤ c + 2000 - r := fun i => by
      have := add_bound hg dn (dn + 1) i
      omega
    by_cases hin : (dn : Int) < p.first + daysOf t p
    · obtain ⟨r2, q3, q4⟩ := readM2 B (add f dn (dn + 1)) g hlt2
      have s2 := storeM2 B (add f dn (dn + 1)) g hlt2
      have hf' : ∀ i, 0 ≤ add f dn (dn + 1) i ∧ add f dn (dn + 1) i ≤ c + 2000 - r := fun i => by
        have := add_bound hf dn (dn + 1) i
        omega
      rw [loopC_norm (fr' := { ts := [(1, .v (lstA h Pp.av l)), (2, .loc 2 0), (7, .v (.sl 1 B.length 0 0 1059 (some 1059))), (8, .v (.sl 1 (B.length + 1) 0 0 1059 (some 1059))), (9, .v (.int .i64 a.length)), (10, .v (.int .i64 (daysOf t p))), (11, .v (.int .i64 ((dn : Int) + 1)))], bs := [(2, t.cs)] }) (st' := stM B (add f dn (dn + 1)) (add g dn (dn + 1))) (by
          simp [A37_l0, A37_r8, A37_r9, A37_r10, A37_r11, A37_r12, regionA_st s37_r8, hm, hlt, hlt2, hlt3, hlt4, hd, Pp.av, Town.cs, w1, w2, w3, w4, w5, hin, q1, q2, q3, q4, ↓s1, ↓s2]), ih _ _ _ (by omega) (by omega) hf' hg', add_add f hin, add_add g hlt3]
    · obtain ⟨r2, q3, q4⟩ := readM2 B f g hlt2
      have s2 := storeM2 B f g hlt2
      rw [loopC_norm (fr' := { ts := [(1, .v (lstA h Pp.av l)), (2, .loc 2 0), (7, .v (.sl 1 B.length 0 0 1059 (some 1059))), (8, .v (.sl 1 (B.length + 1) 0 0 1059 (some 1059))), (9, .v (.int .i64 a.length)), (10, .v (.int .i64 (daysOf t p))), (11, .v (.int .i64 ((dn : Int) + 1)))], bs := [(2, t.cs)] }) (st' := stM B f (add g dn (dn + 1))) (by
          simp [A37_l0, A37_r8, A37_r9, A37_r10, A37_r11, A37_r12, regionA_st s37_r8, hm, hlt, hlt2, hlt3, hlt4, hd, Pp.av, Town.cs, w1, w2, w3, w4, w5, hin, q3, q4, ↓s2]), ih _ _ _ (by omega) (by omega) (fun i => by have := hf i; omega) hg', add_add g hlt3, add_none f (by omega), add_none f (by omega)]
end
end Go.Proofs.Tryd


namespace Go.Proofs.Tryd
open Go Go.Proofs.AM

def marksD (t : Town) : (Nat → Int) → List Pp → (Nat → Int)
  | f, [] => f
  | f, p :: l => marksD t (add f p.first (p.first + daysOf t p)) l
def marksP (t : Town) : (Nat → Int) → List Pp → (Nat → Int)
  | f, [] => f
  | f, p :: l => marksP t (add f p.first (p.first + daysOf t p + t.pause)) l
def arrV (f : Nat → Int) : AV := .lst (some false) true 1059 (row In.av (arr f))
section
variable {t : Town} {h : Hd} {l : List Pp}
theorem marks_out (gp : amid t.pause 0 20 = true) (gk : t.kinds.all kdB = true) (hl : l.length ≤ 1000) (B : List AObj) : ∀ (b a : List Pp) (k : Int) (f g : Nat → Int), k = a.length → l = a ++ b → (∀ p ∈ b, paperB t p = true) → (∀ i, 0 ≤ f i ∧ f i ≤ a.length) → (∀ i, 0 ≤ g i ∧ g i ≤ a.length) →
    loopC E0 [1, 2, 7, 8, 9] [2] A37_l1 { ts := [(1, .v (lstA h Pp.av l)), (2, .loc 2 0), (7, .v (.sl 1 B.length 0 0 1059 (some 1059))), (8, .v (.sl 1 (B.length + 1) 0 0 1059 (some 1059))), (9, .v (.int .i64 k))], bs := [(2, t.cs)] } (stM B f g)
    = some (.exit 0, { ts := [(1, .v (lstA h Pp.av l)), (2, .loc 2 0), (7, .v (.sl 1 B.length 0 0 1059 (some 1059))), (8, .v (.sl 1 (B.length + 1) 0 0 1059 (some 1059))), (9, .v (.int .i64 l.length)), (19, .v (.bool false))], bs := [(2, t.cs)] }, stM B (marksD t f b) (marksP t g b))
  | [], a, k, f, g, hk, e, _, _, _ => by
    simp only [List.append_nil] at e
    subst e hk
    rw [loopC_eq]
    simp [A37_l1, A37_r4, marksD, marksP]
  | p :: b, a, k, f, g, hk, e, hall, hf, hg => by
    subst hk
    have hp := hall p (by simp)
    obtain ⟨kk, e1, hkd, e2, k0, k1, f0, f1⟩ := kd_of hp gk
    have hdk := row_get Kd.len e1
    simp only [kdB, Bool.and_eq_true, amid_iff] at hkd
    have gp' := amid_iff.1 gp
    have hlt : a.length < l.length := by rw [e]; simp
    have hd : (row Pp.av l).drop (a.length * 2) = Pp.av p ++ row Pp.av b := by rw [e, row_drop Pp.len]; rfl
    have hw : IntKind.wrap .i64 ((a.length : Int) + 1) = (a.length : Int) + 1 := wrap_small (by omega) (by omega)
    have hm : min (stM B f g).low (stM B f g).heap.length = (stM B f g).low := by simp [stM]
    have hin := marks_in (h := h) gp gk hp e hl B (c := a.length) (by omega) (daysOf t p + t.pause).toNat p.first f g (by omega) (by omega) (fun i => by have := hf i; omega) (fun i => by have := hg i; omega)
    have ih := marks_out gp gk hl B b (a ++ [p]) _ (add f p.first (p.first + daysOf t p)) (add g p.first (p.first + daysOf t p + t.pause)) rfl (by simp [e]) (fun x hx => hall x (by simp [hx]))
      (fun i => by have := add_bound hf p.first (p.first + daysOf t p) i; simp; omega) (fun i => by have := add_bound hg p.first (p.first + daysOf t p + t.pause) i; simp; omega)
    simp only [Town.cs, e2] at hin
    rw [loopC_norm (fr' := { ts := [(1, .v (lstA h Pp.av l)), (2, .loc 2 0), (7, .v (.sl 1 B.length 0 0 1059 (some 1059))), (8, .v (.sl 1 (B.length + 1) 0 0 1059 (some 1059))), (9, .v (.int .i64 ((a ++ [p]).length : Int)))], bs := [(2, t.cs)] }) (st' := stM B (add f p.first (p.first + daysOf t p)) (add g p.first (p.first + daysOf t p + t.pause))) (by
      simp [A37_l1, A37_r4, A37_r5, A37_r6, A37_r7, regionA_st s37_r6, hm, hlt, hd, hw, Pp.av, Town.cs, k0, k1, hdk, Kd.av, hin, e2]), ih]
    simp [marksD, marksP]
theorem marks_ev (gp : amid t.pause 0 20 = true) (gk : t.kinds.all kdB = true) (hl : l.length ≤ 1000) (hall : ∀ p ∈ l, paperB t p = true) (st : St) : callE E0 false (.fn 37 [] []) [.agg t.cs, lstA h Pp.av l] st = some (.tup [arrV (marksD t (fun _ => 0) l), arrV (marksP t (fun _ => 0) l)], st) := by
  rw [callE0 (by decide) (af := A37) rfl rfl]
  have ho := marks_out (h := h) gp gk hl st.heap l [] 0 (fun _ => 0) (fun _ => 0) rfl rfl hall (by simp) (by simp)
  have e0 : stM st.heap (fun _ => 0) (fun _ => 0) = { heap := st.heap ++ [.cells 0 none (List.replicate 1059 (.int .i64 0)), .cells 0 none (List.replicate 1059 (.int .i64 0))], low := st.heap.length } := by
    rw [stM, arr_zero, row_rep]
  rw [e0] at ho
  generalize hF : marksD t (fun _ => 0) l = F at ho
  generalize hG : marksP t (fun _ => 0) l = G' at ho
  simp only [Town.cs] at ho
  have el : ∀ f, (row In.av (arr f)).length = 1059 := fun f => by rw [row_len In.len, arr_len]
  have e2 : ∀ (f : Nat → Int) (hp : List AObj) (s d : Nat) (refs : Bool), mapS (AM.settle hp s refs d) (row In.av (arr f)) = some (row In.av (arr f), []) := fun f hp s d refs => mapS_plain (fun c hc => plainA.scal (row_scal In.sc _ c hc) d)
  have e3 : ∀ f, (row In.av (arr f)).take 1059 = row In.av (arr f) := fun f => List.take_of_length_le (Nat.le_of_eq (el f))
  have r1 : (8472 : Int) ≤ (room : Int) := by unfold room; omega
  have r2 : (1059 : Int) ≤ (room : Int) := by unfold room; omega
  have e4 : ¬ (st.heap.length + 1 < st.heap.length) := by omega
  simp [A37, A37_r0, A37_r1, A37_r2, A37_r3, A37_r13, regionA_st s37_r2, finish, Town.cs, alloc, ho, stM, el, e2, e3, r1, r2, arrV, get_app0, get_app, e4, -List.reduceReplicate]
theorem bars_loop (hf : t.Fits) {d : Int} (st : St) : ∀ (b a : List Sp) (k : Int), k = a.length → t.barred = a ++ b →
    loopC E0 [1, 2, 5] [2] A39_l0 { ts := [(1, .v (.int .i64 d)), (2, .loc 2 0), (5, .v (.int .i64 k))], bs := [(2, t.cs)] } st
    = if b.any (fun s => amid d s.low s.high) = true then some (.ret, { ts := [(4, .v (.bool true))], bs := [] }, st)
      else some (.exit 0, { ts := [(1, .v (.int .i64 d)), (2, .loc 2 0), (5, .v (.int .i64 t.barred.length)), (10, .v (.bool false))], bs := [(2, t.cs)] }, st)
  | [], a, k, hk0, e => by
    simp only [List.append_nil] at e
    subst hk0
    rw [loopC_eq]
    simp [A39_l0, A39_r2, Town.cs, e]
  | x :: b, a, k, hk0, e => by
    subst hk0
    have hlt : a.length < t.barred.length := by rw [e]; simp
    have hd : (row Sp.av t.barred).drop (a.length * 2) = Sp.av x ++ row Sp.av b := by rw [e, row_drop Sp.len]; rfl
    have hw : IntKind.wrap .i64 ((a.length : Int) + 1) = (a.length : Int) + 1 := wrap_small (by omega) (by have := hf.b; omega)
    have ih := bars_loop hf (d := d) st b (a ++ [x]) _ rfl (by simp [e])
    by_cases h1 : x.low ≤ d
    · by_cases h2 : d ≤ x.high
      · have hc : amid d x.low x.high = true := amid_iff.2 ⟨h1, h2⟩
        rw [loopC_eq]
        simp [A39_l0, A39_r2, A39_r3, A39_r4, A39_r5, hlt, hd, hw, Sp.av, Town.cs, h1, h2, hc]
      · have hc : amid d x.low x.high = false := by simp [amid, h2]
        rw [loopC_norm (fr' := { ts := [(1, .v (.int .i64 d)), (2, .loc 2 0), (5, .v (.int .i64 ((a ++ [x]).length : Int)))], bs := [(2, t.cs)] }) (st' := st) (by
          simp [A39_l0, A39_r2, A39_r3, A39_r4, A39_r5, hlt, hd, hw, Sp.av, Town.cs, h1, h2]), ih]
        simp [hc]
    · have hc : amid d x.low x.high = false := by simp [amid, h1]
      rw [loopC_norm (fr' := { ts := [(1, .v (.int .i64 d)), (2, .loc 2 0), (5, .v (.int .i64 ((a ++ [x]).length : Int)))], bs := [(2, t.cs)] }) (st' := st) (by
        simp [A39_l0, A39_r2, A39_r3, A39_r4, A39_r5, hlt, hd, hw, Sp.av, Town.cs, h1]), ih]
      simp [hc]
theorem bars_ev (hf : t.Fits) (d : Int) (st : St) : callE E0 false (.fn 39 [] []) [.agg t.cs, .int .i64 d] st = some (.bool (barredB t d), st) := by
  rw [callE0 (by decide) (af := A39) rfl rfl]
  have ho := bars_loop hf (d := d) { st with low := st.heap.length } t.barred [] 0 rfl rfl
  simp only [Town.cs] at ho
  cases hb : barredB t d with
  | true =>
    rw [if_pos (show (t.barred.any fun s => amid d s.low s.high) = true from hb)] at ho
    simp [A39, A39_r0, A39_r1, A39_r6, finish, Town.cs, ho]
  | false =>
    rw [if_neg (show ¬ (t.barred.any fun s => amid d s.low s.high) = true from fun hn => by rw [show barredB t d = true from hn] at hb; cases hb)] at ho
    simp [A39, A39_r0, A39_r1, A39_r6, finish, Town.cs, ho]
/-- A day is marked just if a licence covers it. -/
theorem marksD_pos (gk : t.kinds.all kdB = true) {d : Nat} : ∀ {l : List Pp} {f : Nat → Int}, (∀ p ∈ l, paperB t p = true) → 0 ≤ f d → (0 < marksD t f l d ↔ 0 < f d ∨ covB t l d = true) ∧ 0 ≤ marksD t f l d
  | [], f, _, h0 => by simp [marksD, covB, h0]
  | p :: l, f, hall, h0 => by
    have hp := hall p (by simp)
    have h1 : 0 ≤ add f p.first (p.first + daysOf t p) d := by unfold add; split <;> omega
    have ih := marksD_pos gk (l := l) (fun x hx => hall x (by simp [hx])) h1
    simp only [marksD]
    refine ⟨ih.1.trans ?_, ih.2⟩
    have hc : covB t (p :: l) d = (amid d p.first (endB t p) || covB t l d) := by simp [covB]
    rw [hc]
    have ha : amid d p.first (endB t p) = true ↔ p.first ≤ d ∧ (d : Int) < p.first + daysOf t p := by
      rw [amid_iff, endB]
      omega
    rw [Bool.or_eq_true, ha]
    unfold add
    by_cases hin : p.first ≤ d ∧ (d : Int) < p.first + daysOf t p
    · rw [if_pos hin]
      constructor
      · intro _; exact .inr (.inl hin)
      · intro _; exact .inl (by omega)
    · rw [if_neg hin]
      constructor
      · rintro (h | h)
        · exact .inl h
        · exact .inr (.inr h)
      · rintro (h | h | h)
        · exact .inl h
        · exact absurd h hin
        · exact .inr h
end
end Go.Proofs.Tryd


namespace Go.Proofs.Tryd
open Go Go.Proofs.AM

section
variable {t : Town} {hd : Hd}
theorem arrV_len (f : Nat → Int) : lenA (arrV f) = some (.int .i64 1059) := rfl
end
end Go.Proofs.Tryd


namespace Go.Proofs.Tryd
open Go Go.Proofs.AM

theorem iaddr_arrV (f : Nat → Int) (i : Int) : iaddrA 1 (arrV f) i = if 0 ≤ i ∧ i < 1059 then some (.v (.pl ((row In.av (arr f)).drop (i.toNat * 1)))) else none := rfl
section
variable {t : Town}
end
end Go.Proofs.Tryd


namespace Go.Proofs.Tryd
open Go Go.Proofs.AM

/-- More than any plan costs. -/
def never : Int := 1073741824
structure Least (S : Int → Prop) (r : Int) : Prop where
  le : r ≤ never
  att : r = never ∨ S r
  low : ∀ s, S s → r ≤ s
theorem Least.unique {S : Int → Prop} {r r' : Int} (h : Least S r) (h' : Least S r') : r = r' := by
  have a : r ≤ r' := by
    rcases h'.att with e | e
    · rw [e]; exact h.le
    · exact h.low _ e
  have b : r' ≤ r := by
    rcases h.att with e | e
    · rw [e]; exact h'.le
    · exact h'.low _ e
  omega
theorem Least.congr {S S' : Int → Prop} {r : Int} (h : Least S r) (e : ∀ s, S s ↔ S' s) : Least S' r :=
  ⟨h.le, h.att.imp id (e r).1, fun s hs => h.low s ((e s).2 hs)⟩
theorem Least.none : Least (fun _ => False) never := ⟨Int.le_refl _, .inl rfl, fun _ h => h.elim⟩
theorem Least.step {S : Int → Prop} {r x : Int} (h : Least S r) : Least (fun s => S s ∨ s = x) (min r x) := by
  refine ⟨by have := h.le; omega, ?_, fun s hs => ?_⟩
  · rcases Int.le_total r x with hx | hx
    · rw [Int.min_eq_left hx]
      exact h.att.imp id .inl
    · rw [Int.min_eq_right hx]
      exact .inr (.inr rfl)
  · rcases hs with hs | rfl
    · have := h.low s hs; omega
    · omega
def minL (r : Int) : List Int → Int
  | [] => r
  | x :: l => minL (min r x) l
theorem minL_least : ∀ {l : List Int} {S : Int → Prop} {r : Int}, Least S r → Least (fun s => S s ∨ s ∈ l) (minL r l)
  | [], S, r, h => h.congr (fun s => by simp)
  | x :: l, S, r, h => (minL_least (l := l) (h.step (x := x))).congr (fun s => by simp [or_assoc])
def skipD (t : Town) (e : Int) : List Int → List Int
  | [] => []
  | d :: l => if decide (d ≤ e) || covB t t.held d then skipD t e l else d :: l
theorem skipD_len (t : Town) (e : Int) : ∀ l : List Int, (skipD t e l).length ≤ l.length
  | [] => by simp [skipD]
  | d :: l => by
    have := skipD_len t e l
    simp only [skipD]
    split
    · simp; omega
    · simp
def feeOf (t : Town) (p : Pp) : Int := match t.kinds[p.kind.toNat]? with
  | some k => k.fee
  | none => 0
/-- May a licence come for a day, behind one that ends? -/
def fitB (t : Town) (today e d : Int) (p : Pp) : Bool :=
  paperB t p && decide (p.first ≤ d) && decide (d ≤ endB t p) && decide (noticeOf t p ≤ p.first - today) && decide (e + t.pause + 1 ≤ p.first) && t.held.all (fun q => goesB t p q)
/-- All licences that there are. -/
def allP (t : Town) : List Pp := (List.range t.kinds.length).flatMap fun (k : Nat) => (List.range 1000).map fun (f : Nat) => (⟨(k : Int), (f : Int)⟩ : Pp)
theorem mem_allP {t : Town} {p : Pp} (h : paperB t p = true) : p ∈ allP t := by
  simp only [paperB, Bool.and_eq_true, amid_iff] at h
  refine List.mem_flatMap.2 ⟨p.kind.toNat, List.mem_range.2 (by omega), List.mem_map.2 ⟨p.first.toNat, List.mem_range.2 (by omega), ?_⟩⟩
  obtain ⟨k, f⟩ := p
  simp at h ⊢
  omega
/-- What the days that are left cost, sixteen times, and how many licences they take; never: they cannot be covered. -/
def V (t : Town) (today : Int) : Nat → Int → List Int → Int
  | n, e, l => match skipD t e l with
    | [] => 0
    | d :: l' => match n with
      | 0 => never
      | n + 1 => minL never (((allP t).filter (fitB t today e d)).map fun p => 16 * feeOf t p + 1 + V t today n (endB t p) l')
theorem V_nil {t : Town} {today e : Int} {n : Nat} {l : List Int} (h : skipD t e l = []) : V t today n e l = 0 := by
  unfold V
  rw [h]
theorem V_least {t : Town} {today e d : Int} {n : Nat} {l l' : List Int} (h : skipD t e l = d :: l') : Least (fun s => ∃ p, fitB t today e d p = true ∧ s = 16 * feeOf t p + 1 + V t today n (endB t p) l') (V t today (n + 1) e l) := by
  have e1 : V t today (n + 1) e l = minL never (((allP t).filter (fitB t today e d)).map fun p => 16 * feeOf t p + 1 + V t today n (endB t p) l') := by
    rw [V, h]
  rw [e1]
  refine (minL_least Least.none).congr (fun s => ?_)
  simp only [false_or, List.mem_map, List.mem_filter]
  constructor
  · rintro ⟨p, ⟨_, hp⟩, rfl⟩
    exact ⟨p, hp, rfl⟩
  · rintro ⟨p, hp, rfl⟩
    refine ⟨p, ⟨mem_allP ?_, hp⟩, rfl⟩
    simp only [fitB, Bool.and_eq_true] at hp
    exact hp.1.1.1.1.1
theorem skipD_sub (t : Town) (e : Int) : ∀ {l : List Int} {d : Int} {l' : List Int}, skipD t e l = d :: l' → l'.length < l.length ∧ ∃ a, l = a ++ d :: l'
  | [], _, _, h => by simp [skipD] at h
  | x :: l, d, l', h => by
    simp only [skipD] at h
    split at h
    · obtain ⟨h1, a, ha⟩ := skipD_sub t e h
      exact ⟨by simp; omega, x :: a, by rw [ha]; rfl⟩
    · cases h
      exact ⟨by simp, [], rfl⟩
/-- Enough rounds are enough. -/
theorem V_fuel (t : Town) (today : Int) : ∀ (n m : Nat) (e : Int) (l : List Int), l.length ≤ n → l.length ≤ m → V t today n e l = V t today m e l
  | 0, 0, _, _, _, _ => rfl
  | 0, m + 1, e, l, h, _ => by
    have : l = [] := List.eq_nil_of_length_eq_zero (by omega)
    subst this
    rw [V_nil rfl, V_nil rfl]
  | n + 1, 0, e, l, _, h => by
    have : l = [] := List.eq_nil_of_length_eq_zero (by omega)
    subst this
    rw [V_nil rfl, V_nil rfl]
  | n + 1, m + 1, e, l, h1, h2 => by
    cases hs : skipD t e l with
    | nil => rw [V_nil hs, V_nil hs]
    | cons d l' =>
      have hl := (skipD_sub t e hs).1
      refine (V_least hs).unique ((V_least hs).congr fun s => ?_)
      constructor
      · rintro ⟨p, hp, rfl⟩
        exact ⟨p, hp, by rw [V_fuel t today n m (endB t p) l' (by omega) (by omega)]⟩
      · rintro ⟨p, hp, rfl⟩
        exact ⟨p, hp, by rw [V_fuel t today n m (endB t p) l' (by omega) (by omega)]⟩
end Go.Proofs.Tryd


namespace Go.Proofs.Tryd
open Go Go.Proofs.AM

section
variable {t : Town}
end
end Go.Proofs.Tryd


namespace Go.Proofs.Tryd
open Go Go.Proofs.AM

section
variable {t : Town} {today e d place key : Int} {wh : Hd} {days : List Int}
def accV (c : Pp → Int) (g : Pp → Bool) : Int → List Pp → Int
  | acc, [] => acc
  | acc, p :: l => accV c g (if g p = true then min acc (c p) else acc) l
theorem accV_append (c : Pp → Int) (g : Pp → Bool) : ∀ (a b : List Pp) (acc : Int), accV c g acc (a ++ b) = accV c g (accV c g acc a) b
  | [], _, _ => rfl
  | p :: a, b, acc => accV_append c g a b _
theorem accV_least (c : Pp → Int) (g : Pp → Bool) : ∀ (l : List Pp) {S : Int → Prop} {r : Int}, Least S r → Least (fun s => S s ∨ ∃ p ∈ l, g p = true ∧ s = c p) (accV c g r l)
  | [], S, r, h => h.congr (fun s => by simp)
  | p :: l, S, r, h => by
    simp only [accV]
    by_cases hg : g p = true
    · rw [if_pos hg]
      refine (accV_least c g l (h.step (x := c p))).congr (fun s => ?_)
      simp [hg, or_assoc]
    · rw [if_neg hg]
      refine (accV_least c g l h).congr (fun s => ?_)
      simp [hg]
theorem fee_of {p : Pp} (hp : paperB t p = true) (hk : t.kinds.all kdB = true) {kd : Kd} (e : t.kinds[p.kind.toNat]? = some kd) : feeOf t p = kd.fee ∧ 0 ≤ kd.fee ∧ kd.fee ≤ 1000 ∧ 1 ≤ kd.days ∧ kd.days ≤ 30 ∧ 0 ≤ kd.notice ∧ kd.notice ≤ 30 ∧ daysOf t p = kd.days ∧ noticeOf t p = kd.notice := by
  obtain ⟨k, e1, hkd, e2, h0, h1, h2, h3⟩ := kd_of hp hk
  rw [e] at e1
  cases e1
  simp only [kdB, Bool.and_eq_true, amid_iff] at hkd
  simp [feeOf, daysOf, noticeOf, e]
  omega
end
end Go.Proofs.Tryd


namespace Go.Proofs.Tryd
open Go Go.Proofs.AM

section
variable {t : Town} {today e d place key : Int} {wh : Hd} {days : List Int}
end
end Go.Proofs.Tryd


namespace Go.Proofs.Tryd
open Go Go.Proofs.AM

section
variable {t : Town} {today e : Int} {wh : Hd} {days : List Int}
theorem V_of_skip {e e' : Int} {l l' : List Int} (h : skipD t e l = skipD t e' l') (h2 : ∀ d, fitB t today e d = fitB t today e' d) : ∀ n, V t today n e l = V t today n e' l'
  | 0 => by unfold V; rw [h]
  | n + 1 => by
    unfold V
    rw [h]
    simp only [h2]
theorem V_range : ∀ (n : Nat) (e : Int) (l : List Int), t.kinds.all kdB = true → 0 ≤ V t today n e l ∧ V t today n e l ≤ never
  | 0, e, l, _ => by
    unfold V
    split <;> simp [never]
  | n + 1, e, l, hk => by
    cases hs : skipD t e l with
    | nil => rw [V_nil hs]; simp [never]
    | cons d l' =>
      have h := V_least (today := today) (n := n) hs
      refine ⟨?_, h.le⟩
      rcases h.att with h1 | ⟨p, hp, h1⟩
      · rw [h1]; simp [never]
      · rw [h1]
        have := (V_range n (endB t p) l' hk).1
        simp only [fitB, Bool.and_eq_true] at hp
        obtain ⟨kk, e1, _⟩ := kd_of hp.1.1.1.1.1 hk
        have := (fee_of hp.1.1.1.1.1 hk e1).2.1
        have := (fee_of hp.1.1.1.1.1 hk e1).1
        omega
theorem skipD_idem : ∀ (l : List Int), skipD t e (skipD t e l) = skipD t e l
  | [] => rfl
  | x :: l => by
    simp only [skipD]
    split
    · exact skipD_idem l
    · rename_i h
      simp only [skipD]
      rw [if_neg h]
/-- What is known is right. -/
structure MemoOk (t : Town) (today : Int) (days κ : List Int) : Prop where
  len : κ.length = 9900
  ok : ∀ (place : Nat) (e v : Int), place < days.length → (e = -1000 ∨ 0 ≤ e ∧ e ≤ 1028) → κ[place * 1100 + (max 0 (e + 1)).toNat]? = some v → 0 ≤ v → v = V t today 8 e (days.drop place)
theorem MemoOk.set {κ : List Int} (h : MemoOk t today days κ) {place : Nat} (hp : place < days.length) (hn : days.length ≤ 8) (he : e = -1000 ∨ 0 ≤ e ∧ e ≤ 1028) : MemoOk t today days (κ.set (place * 1100 + (max 0 (e + 1)).toNat) (V t today 8 e (days.drop place))) where
  len := by rw [List.length_set, h.len]
  ok p2 e2 v h2 he2 hv h0 := by
    rw [List.getElem?_set] at hv
    split at hv
    · rename_i hk
      have hb : (max 0 (e + 1)).toNat < 1100 := by omega
      have hb2 : (max 0 (e2 + 1)).toNat < 1100 := by omega
      have hpp : place = p2 := by omega
      subst hpp
      have hee : e = e2 := by omega
      subst hee
      split at hv
      · cases hv; rfl
      · cases hv
    · exact h.ok p2 e2 v h2 he2 hv h0
end
end Go.Proofs.Tryd


namespace Go.Proofs.Tryd
open Go Go.Proofs.AM

section
variable {t : Town} {today : Int} {wh : Hd} {days : List Int}
def priceV (t : Town) (today : Int) (days : List Int) : Int := if days.any (barredB t) = true then never else V t today 8 (-1000) days
end
end Go.Proofs.Tryd


namespace Go.Proofs.Tryd
open Go Go.Proofs.AM

def cmpV (a b : Int) : Int := if a < b then -1 else if b < a then 1 else 0
@[simp] theorem cmp_ev (a b : Int) (st : St) : callE E0 false (.fn 79 [] []) [.int .i64 a, .int .i64 b] st = some (.int .i64 (cmpV a b), st) := by
  have hn : ∀ (x : Int) (s : St), callE E0 false (.fn 99 [] []) [.int .i64 x] s = some (.bool false, s) := fun x s => by
    rw [callE0 (by decide) (af := A99) rfl rfl]
    simp [A99, A99_r0, A99_r1, finish]
  rw [callE0 (by decide) (af := A79) rfl rfl]
  unfold cmpV
  by_cases h1 : a < b
  · simp [A79, A79_r0, A79_r1, A79_r2, A79_r3, A79_r4, A79_r5, A79_r6, A79_r7, A79_r8, A79_r9, A79_r10, A79_r11, A79_r12, A79_r13, finish, hn, h1]
  · by_cases h2 : b < a <;> simp [A79, A79_r0, A79_r1, A79_r2, A79_r3, A79_r4, A79_r5, A79_r6, A79_r7, A79_r8, A79_r9, A79_r10, A79_r11, A79_r12, A79_r13, finish, hn, h1, h2]
def orV : List Int → Int
  | [] => 0
  | x :: l => if x = 0 then orV l else x
theorem or_loop {h : Hd} {l : List Int} (hl : l.length ≤ 1000) (st : St) : ∀ (b a : List Int) (k : Int), k = a.length → l = a ++ b →
    ∃ k', loopC E0 [3, 6, 7, 8] [] A78_l0 { ts := [(3, .v (.int .i64 0)), (6, .v (lstA h In.av l)), (7, .v (.int .i64 l.length)), (8, .v (.int .i64 k))], bs := [] } st
    = if b.all (fun x => decide (x = 0)) = true then some (.exit 0, { ts := [(3, .v (.int .i64 0)), (6, .v (lstA h In.av l)), (7, .v (.int .i64 l.length)), (8, .v (.int .i64 k')), (9, .v (.bool false))], bs := [] }, st)
      else some (.ret, { ts := [(2, .v (.int .i64 (orV b)))], bs := [] }, st)
  | [], a, k, hk, e => by
    simp only [List.append_nil] at e
    subst e hk
    refine ⟨l.length, ?_⟩
    rw [loopC_eq]
    simp [A78_l0, A78_r3]
  | x :: b, a, k, hk, e => by
    subst hk
    have hlt : a.length < l.length := by rw [e]; simp
    have hd := drop_ints e
    have hw : IntKind.wrap .i64 ((a.length : Int) + 1) = (a.length : Int) + 1 := wrap_small (by omega) (by omega)
    by_cases hx : x = 0
    · obtain ⟨k', ih⟩ := or_loop (h := h) hl st b (a ++ [x]) _ rfl (by simp [e])
      refine ⟨k', ?_⟩
      rw [loopC_norm (fr' := { ts := [(3, .v (.int .i64 0)), (6, .v (lstA h In.av l)), (7, .v (.int .i64 l.length)), (8, .v (.int .i64 ((a ++ [x]).length : Int)))], bs := [] }) (st' := st) (by
        simp [A78_l0, A78_r3, A78_r4, A78_r5, A78_r6, A78_r7, hlt, hd, hx, hw]), ih]
      simp [hx, orV]
    · refine ⟨0, ?_⟩
      have hx' : (x != 0) = true := by simpa using hx
      rw [loopC_eq]
      simp [A78_l0, A78_r3, A78_r4, A78_r5, A78_r6, hlt, hd, hx, hx', orV]
theorem orV_zero : ∀ {l : List Int}, l.all (fun x => decide (x = 0)) = true → orV l = 0
  | [], _ => rfl
  | x :: l, h => by
    simp only [List.all_cons, Bool.and_eq_true, decide_eq_true_eq] at h
    simp [orV, h.1, orV_zero h.2]
theorem or_ev {h : Hd} {l : List Int} (hl : l.length ≤ 1000) (st : St) : callE E0 false (.fn 78 [] []) [lstA h In.av l] st = some (.int .i64 (orV l), st) := by
  rw [callE0 (by decide) (af := A78) rfl rfl]
  obtain ⟨k', ho⟩ := or_loop (h := h) hl { st with low := st.heap.length } l [] 0 rfl rfl
  by_cases hz : l.all (fun x => decide (x = 0)) = true
  · rw [if_pos hz] at ho
    simp [A78, A78_r0, A78_r1, A78_r2, A78_r8, finish, ho, orV_zero hz]
  · rw [if_neg hz] at ho
    simp [A78, A78_r0, A78_r1, A78_r2, A78_r8, finish, ho]
theorem sum_loop {h : Hd} {l : List Int} (hl : l.length ≤ 1000) (hb : ∀ x ∈ l, 0 ≤ x ∧ x ≤ 1000000000) (st : St) : ∀ (b a : List Int) (k c : Int), k = a.length → l = a ++ b → 0 ≤ c → c ≤ 1000000000 * a.length →
    loopC E0 [3, 6, 7, 8] [] A107_l0 { ts := [(3, .v (.int .i64 c)), (6, .v (lstA h In.av l)), (7, .v (.int .i64 l.length)), (8, .v (.int .i64 k))], bs := [] } st
    = some (.exit 0, { ts := [(3, .v (.int .i64 (c + b.sum))), (6, .v (lstA h In.av l)), (7, .v (.int .i64 l.length)), (8, .v (.int .i64 l.length)), (9, .v (.bool false))], bs := [] }, st)
  | [], a, k, c, hk, e, _, _ => by
    simp only [List.append_nil] at e
    subst e hk
    rw [loopC_eq]
    simp [A107_l0, A107_r3]
  | x :: b, a, k, c, hk, e, h0, h1 => by
    subst hk
    have hx := hb x (by simp [e])
    have hlt : a.length < l.length := by rw [e]; simp
    have hd := drop_ints e
    have hw : IntKind.wrap .i64 ((a.length : Int) + 1) = (a.length : Int) + 1 := wrap_small (by omega) (by omega)
    have hw2 : IntKind.wrap .i64 (c + x) = c + x := wrap_small (by omega) (by omega)
    rw [loopC_norm (fr' := { ts := [(3, .v (.int .i64 (c + x))), (6, .v (lstA h In.av l)), (7, .v (.int .i64 l.length)), (8, .v (.int .i64 ((a ++ [x]).length : Int)))], bs := [] }) (st' := st) (by
      simp [A107_l0, A107_r3, A107_r4, A107_r5, A107_r6, hlt, hd, hw, hw2]), sum_loop (h := h) hl hb st b (a ++ [x]) _ (c + x) rfl (by simp [e]) (by omega) (by simp; omega)]
    simp [Int.add_assoc]
theorem sum_ev {h : Hd} {l : List Int} (hl : l.length ≤ 1000) (hb : ∀ x ∈ l, 0 ≤ x ∧ x ≤ 1000000000) (st : St) : callE E0 false (.fn 107 [] []) [lstA h In.av l] st = some (.int .i64 l.sum, st) := by
  rw [callE0 (by decide) (af := A107) rfl rfl]
  have ho := sum_loop (h := h) hl hb { st with low := st.heap.length } l [] 0 0 rfl rfl (by omega) (by simp)
  simp [A107, A107_r0, A107_r1, A107_r2, A107_r7, finish, ho]
@[simp] theorem cheaper_ev (st : St) : callE E0 false (.fn 102 [] []) [] st = some (.agg [.fn 109 [] []], st) := by
  rw [callE0 (by decide) (af := A102) rfl rfl]
  simp [A102, A102_r0, A102_r1, finish]
@[simp] theorem nothing_ev (st : St) : callE E0 false (.fn 104 [] []) [] st = some (.agg [.bool false, .bool false, .bool false, .bool false, .bool false, .bool false, .bool false, .bool false], st) := by
  rw [callE0 (by decide) (af := A104) rfl rfl]
  simp [A104, A104_r0, A104_r1, A104_r2, finish]
@[simp] theorem none_ev (st : St) : callE E0 false (.fn 105 [] []) [] st = some (.agg [.int .i64 (-1), .lst (some true) true 0 []], st) := by
  rw [callE0 (by decide) (af := A105) rfl rfl]
  simp [A105, A105_r0, A105_r1, finish]
def thanV (c n c' n' : Int) : Int := orV [cmpV c c', cmpV n n']
theorem than_ev {c c' : Int} {h h' : Hd} {l l' : List Pp} (st : St) : callE E0 false (.fn 109 [] []) [.agg [.int .i64 c, lstA h Pp.av l], .agg [.int .i64 c', lstA h' Pp.av l']] st = some (.int .i64 (thanV c l.length c' l'.length), st) := by
  rw [callE0 (by decide) (af := A109) rfl rfl]
  have ho := fun s => or_ev (h := ⟨some false, true⟩) (l := [cmpV c c', cmpV l.length l'.length]) (by simp) s
  simp only [lstA, row, In.av, List.length_cons, List.length_nil, List.singleton_append, List.cons_append, List.nil_append] at ho
  simp [A109, A109_r0, A109_r1, regionA_st s109_r1, finish, ho, thanV]
theorem than_lt {c c' n n' : Int} (hn : 0 ≤ n ∧ n ≤ 15) (hn' : 0 ≤ n' ∧ n' ≤ 15) : thanV c n c' n' < 0 ↔ 16 * c + n < 16 * c' + n' := by
  unfold thanV cmpV orV orV orV
  by_cases h1 : c < c'
  · simp [h1]; try omega
  · by_cases h2 : c' < c
    · simp [h1, h2]; try omega
    · have : c = c' := by omega
      subst this
      by_cases h3 : n < n'
      · simp [h3]
      · by_cases h4 : n' < n
        · simp [h3, h4]; try omega
        · simp [h3, h4]
end Go.Proofs.Tryd


namespace Go.Proofs.Tryd
open Go Go.Proofs.AM

section
variable {t : Town} {today : Int} {wh : Hd} {days : List Int} {m : Nat}
/-- What a planner is handed. -/
def wCs (t : Town) (m : Nat) (today : Int) (wh : Hd) (days : List Int) : List AV := t.cs ++ [.map m, .int .i64 today, lstA wh In.av days]
def lastCs : Option Pp → List AV
  | none => [.int .i64 (-1), .int .i64 (-1)]
  | some q => q.av
def endO (t : Town) : Option Pp → Int
  | none => -1000
  | some q => endB t q
def lastOk (t : Town) : Option Pp → Prop
  | none => True
  | some q => paperB t q = true
def canB (t : Town) (today e : Int) (p : Pp) : Bool := decide (noticeOf t p ≤ p.first - today) && decide (e + t.pause + 1 ≤ p.first) && t.held.all fun q => goesB t p q
theorem can1_ev {a b : Nat} {p q : Pp} (hp : paperB t p = true) (hq : paperB t q = true) (hk : t.kinds.all kdB = true) (st : St) (ha : st.heap[a]? = some (.cells 0 none (wCs t m today wh days))) (hb : st.heap[b]? = some (.cells 0 none p.av)) :
    callE E0 false (.fn 110 [] [.ref a 0 0, .ref b 0 0]) [.agg q.av] st = some (.bool (!goesB t p q), st) := by
  rw [callE0 (by decide) (af := A110) rfl rfl]
  have hg := goes_ev t m p q hp hq hk
  simp only [Town.cs, Pp.av, wCs, List.cons_append, List.nil_append] at hg ha hb
  simp [A110, A110_r0, A110_r1, finish, Pp.av, ha, hb, hg]
theorem can_last (g : Good t) (hto : amid today 0 999 = true) {last : Option Pp} (hla : lastOk t last) {p : Pp} (hp : paperB t p = true) (B : List AObj) :
    codeE E0 (.region A106_r1 (some [[], [0], [], [2], [1, 3], [], [5], [6], [7], [], [9], [8, 10], [11], [12], [4, 13], [14], [15], [15], [16, 17, 15], [18, 15, 15], [19], [20, 19], [19], [22, 19], [21, 23, 19], [24, 19, 19], [25], [26, 25], [25], [25], [27, 28, 29, 25, 25], [25, 30, 19], [31, 19], [19, 32, 15], [15, 33]]) [3, 5, 41] [] [])
      { ts := [(3, .v (.ref B.length 0 0)), (4, .loc 4 0), (5, .v (.ref (B.length + 1) 0 0))], bs := [(4, lastCs last)] } { heap := B ++ [.cells 0 none (wCs t m today wh days), .cells 0 none p.av], low := B.length }
    = some (.norm, { ts := [(3, .v (.ref B.length 0 0)), (5, .v (.ref (B.length + 1) 0 0)), (41, .v (.bool (!(decide (noticeOf t p ≤ p.first - today) && decide (endO t last + t.pause + 1 ≤ p.first)))))], bs := [] }, { heap := B ++ [.cells 0 none (wCs t m today wh days), .cells 0 none p.av], low := B.length }) := by
  obtain ⟨kk, e1, e2, n1, n2, k0, k1, f0, f1⟩ := kn_of hp g.kinds
  have hdk := row_get Kd.len e1
  have hto' := amid_iff.1 hto
  have w1 : IntKind.wrap .i64 (p.first - today) = p.first - today := wrap_small (by omega) (by omega)
  have hpa := amid_iff.1 g.pause
  rw [e2]
  by_cases hn : kk.notice ≤ p.first - today
  · have hn' : ¬ p.first - today < kk.notice := by omega
    cases last with
    | none =>
      have h0 : endO t none + t.pause + 1 ≤ p.first := by simp only [endO]; omega
      simp [A106_r1, regionA_st s106_r1, lastCs, wCs, Town.cs, Pp.av, get_app0, get_app, w1, k0, k1, hdk, Kd.av, hn, hn', h0, eqL]
    | some q =>
      have hq : paperB t q = true := hla
      have hqk := hq
      simp only [paperB, Bool.and_eq_true, amid_iff] at hqk
      have hb1 : (q.kind == -1) = false := by simp; omega
      obtain ⟨a1, a2, a3, a4⟩ := end_range hq g.kinds
      have hg := goes_ev t m q p hq hp g.kinds
      simp only [Town.cs, Pp.av, List.cons_append, List.nil_append] at hg
      by_cases h1 : q.first < p.first
      · have hgv : goesB t q p = decide (endO t (some q) + t.pause + 1 ≤ p.first) := by
          unfold goesB
          rw [if_neg (by omega)]
          apply decide_eq_decide.2
          simp only [endO]
          omega
        simp [A106_r1, regionA_st s106_r1, lastCs, wCs, Town.cs, Pp.av, get_app0, get_app, w1, k0, k1, hdk, Kd.av, hn, hn', eqL, hb1, h1, hg, hgv]
      · have h0 : ¬ endO t (some q) + t.pause + 1 ≤ p.first := by simp only [endO]; omega
        simp [A106_r1, regionA_st s106_r1, lastCs, wCs, Town.cs, Pp.av, get_app0, get_app, w1, k0, k1, hdk, Kd.av, hn, hn', eqL, hb1, h1, h0]
  · have hn' : p.first - today < kk.notice := by omega
    simp [A106_r1, regionA_st s106_r1, lastCs, wCs, Town.cs, Pp.av, get_app0, get_app, w1, k0, k1, hdk, Kd.av, hn, hn']
theorem can_ev (g : Good t) (hf : t.Fits) (hto : amid today 0 999 = true) {last : Option Pp} (hla : lastOk t last) {p : Pp} (hp : paperB t p = true) (st : St) : callE E0 false (.fn 106 [] []) [.agg (wCs t m today wh days), .agg (lastCs last), .agg p.av] st = some (.bool (canB t today (endO t last) p), st) := by
  rw [callE0 (by decide) (af := A106) rfl rfl]
  have hl := can_last (m := m) (wh := wh) (days := days) g hto hla hp st.heap
  have hc := contains69_ev (h := t.hh) (g := 110) (cl := [.ref st.heap.length 0 0, .ref (st.heap.length + 1) 0 0]) (pr := fun q => !goesB t p q) (st := { heap := st.heap ++ [.cells 0 none (wCs t m today wh days), .cells 0 none p.av], low := st.heap.length }) hf.h (fun hp d => by simp)
    (fun x hx lo => can1_ev (m := m) (today := today) (wh := wh) (days := days) hp (List.all_eq_true.1 g.held x hx) g.kinds _ (by simp [List.getElem?_append_right]) (by simp [List.getElem?_append_right]))
  have hcb : (lastCs last).length = 2 ∧ ∃ a b, lastCs last = [.int .i64 a, .int .i64 b] := by
    cases last with
    | none => exact ⟨rfl, _, _, rfl⟩
    | some q => exact ⟨rfl, _, _, rfl⟩
  obtain ⟨_, a, b, hab⟩ := hcb
  rw [hab] at hl ⊢
  have hany : (!(t.held.any fun q => !goesB t p q)) = t.held.all fun q => goesB t p q := by rw [List.all_eq_not_any_not]
  unfold canB
  simp only [wCs, Town.cs, Pp.av, List.cons_append, List.nil_append] at hl hc ⊢
  cases hx : (decide (noticeOf t p ≤ p.first - today) && decide (endO t last + t.pause + 1 ≤ p.first)) with
  | false =>
    rw [hx] at hl
    simp [A106, A106_r0, A106_r2, A106_r3, finish, alloc, ↓hl]
  | true =>
    rw [hx] at hl
    simp [A106, A106_r0, A106_r2, A106_r3, finish, alloc, ↓hl, hc, hany]
theorem held_loop (g : Good t) (hf : t.Fits) (hn : days.length ≤ 8) (st : St) : ∀ (b a : List Int) (k : Int), k = a.length → days = a ++ b →
    loopC E0 [1, 2, 3, 7, 8, 9] [1, 2, 3] A101_l0 { ts := [(1, .loc 1 0), (2, .loc 2 0), (3, .loc 3 0), (7, .v (lstA wh In.av days)), (8, .v (.int .i64 days.length)), (9, .v (.int .i64 k))], bs := [(1, wCs t m today wh days), (2, List.replicate 8 (.bool false)), (3, a.map (fun x => AV.bool (covB t t.held x)) ++ List.replicate (8 - a.length) (AV.bool false))] } st
    = some (.exit 0, { ts := [(1, .loc 1 0), (2, .loc 2 0), (3, .loc 3 0), (7, .v (lstA wh In.av days)), (8, .v (.int .i64 days.length)), (9, .v (.int .i64 days.length)), (10, .v (.bool false))], bs := [(1, wCs t m today wh days), (2, List.replicate 8 (.bool false)), (3, days.map (fun x => AV.bool (covB t t.held x)) ++ List.replicate (8 - days.length) (AV.bool false))] }, st)
  | [], a, k, hk, e => by
    simp only [List.append_nil] at e
    subst e hk
    rw [loopC_eq]
    simp [A101_l0, A101_r3]
  | x :: b, a, k, hk, e => by
    subst hk
    have hlt : a.length < days.length := by rw [e]; simp
    have hlt8 : a.length < 8 := by omega
    have hd := drop_ints e
    have hw : IntKind.wrap .i64 ((a.length : Int) + 1) = (a.length : Int) + 1 := wrap_small (by omega) (by omega)
    have hcv := covers_ev (m := m) (h := t.hh) x hf.h (fun p hp => List.all_eq_true.1 g.held p hp) g.kinds
    simp only [Town.cs, List.cons_append, List.nil_append] at hcv
    have hlen : (a.map (fun x => AV.bool (covB t t.held x)) ++ List.replicate (8 - a.length) (AV.bool false)).length = 8 := by simp; omega
    have hsp : (a.map (fun x => AV.bool (covB t t.held x)) ++ List.replicate (8 - a.length) (AV.bool false)).take a.length ++ [.bool (covB t t.held x)] ++ (a.map (fun x => AV.bool (covB t t.held x)) ++ List.replicate (8 - a.length) (AV.bool false)).drop (a.length + 1) = (a ++ [x]).map (fun x => AV.bool (covB t t.held x)) ++ List.replicate (8 - (a ++ [x]).length) (AV.bool false) := by
      rw [List.take_append_of_le_length (by simp), List.take_of_length_le (by simp), List.drop_append, List.drop_of_length_le (by simp)]
      simp
      omega
    rw [← held_loop g hf hn st b (a ++ [x]) _ rfl (by simp [e])]
    rw [← hsp]
    generalize a.map (fun x => AV.bool (covB t t.held x)) ++ List.replicate (8 - a.length) (AV.bool false) = cs at *
    have hlt8' : (a.length : Int) < 8 := by omega
    have hl9 : a.length + 1 ≤ 8 := by omega
    apply loopC_norm
    simp only [List.append_assoc, List.cons_append, List.nil_append]
    simp [storeA, A101_l0, A101_r3, A101_r4, A101_r5, A101_r6, wCs, Town.cs, hlt, hd, hw, hcv, hlen, hlt8, hlt8', hl9]
def freeL (t : Town) (days : List Int) : List AV := days.map (fun x => AV.bool (covB t t.held x)) ++ List.replicate (8 - days.length) (AV.bool false)
theorem held_ev (g : Good t) (hf : t.Fits) (hn : days.length ≤ 8) (st : St) : callE E0 false (.fn 101 [] []) [.agg (wCs t m today wh days)] st = some (.agg (freeL t days), st) := by
  rw [callE0 (by decide) (af := A101) rfl rfl]
  have ho := held_loop (m := m) (today := today) (wh := wh) g hf hn { st with low := st.heap.length } days [] 0 rfl rfl
  have hl : (freeL t days).length = 8 := by simp [freeL]; omega
  have hpl : ∀ (hp : List AObj) (s d : Nat) (refs : Bool), mapS (AM.settle hp s refs d) (freeL t days) = some (freeL t days, []) := fun hp s d refs => mapS_plain (fun c hc => plainA.scal (by
    simp only [freeL, List.mem_append, List.mem_map, List.mem_replicate] at hc
    rcases hc with ⟨x, _, rfl⟩ | ⟨_, rfl⟩ <;> rfl) d)
  rw [show days.map (fun x => AV.bool (covB t t.held x)) ++ List.replicate (8 - days.length) (AV.bool false) = freeL t days from rfl] at ho
  generalize freeL t days = fl at *
  have htk : fl.take 8 = fl := List.take_of_length_le (by omega)
  simp only [wCs, Town.cs, List.cons_append, List.nil_append, List.map_nil, List.length_nil, Nat.sub_zero, List.replicate] at ho
  simp [A101, A101_r0, A101_r1, A101_r2, A101_r7, finish, wCs, Town.cs, ho, hl, htk, hpl]
end
end Go.Proofs.Tryd


namespace Go.Proofs.Tryd
open Go Go.Proofs.AM

attribute [local simp] opsT trOf accOf boxesOf AOp.uses AO.uses objOf heffOf boxOf allPairs befores pairsFrom pairOk AM.ordB hits AX.slot slotsL slotsP AX.slotO Nat.testBit
theorem eqL_free : ∀ (bl : List Bool), eqL (List.replicate bl.length true) (bl.map AV.bool) (List.replicate bl.length (AV.bool false)) = some (bl.all fun b => !b)
  | [] => rfl
  | b :: bl => by
    simp only [List.length_cons, List.replicate_succ, List.map_cons, eqL, eqL_free bl]
    cases b <;> simp
section
variable {t : Town} {today : Int} {wh : Hd} {days : List Int} {m : Nat}
def freeB (t : Town) (days : List Int) : List Bool := days.map (fun x => covB t t.held x) ++ List.replicate (8 - days.length) false
theorem freeL_eq : freeL t days = (freeB t days).map AV.bool := by simp [freeL, freeB]
theorem free_eqs (hn : days.length ≤ 8) : eqL [true, true, true, true, true, true, true, true] (freeL t days) [.bool false, .bool false, .bool false, .bool false, .bool false, .bool false, .bool false, .bool false] = some ((freeB t days).all fun b => !b) := by
  have h := eqL_free (freeB t days)
  have hl : (freeB t days).length = 8 := by simp [freeB]; omega
  rw [hl, ← freeL_eq] at h
  exact h
theorem free_none {a b : List Int} {x : Int} (e : days = a ++ x :: b) (h : ((freeB t days).all fun b => !b) = true) : covB t t.held x = false := by
  have := List.all_eq_true.1 h (covB t t.held x) (by simp [freeB, e])
  simpa using this
theorem free_get {a b : List Int} {x : Int} (e : days = a ++ x :: b) : ∃ r, (freeL t days).drop a.length = .bool (covB t t.held x) :: r := by
  refine ⟨b.map (fun x => AV.bool (covB t t.held x)) ++ List.replicate (8 - days.length) (AV.bool false), ?_⟩
  unfold freeL
  rw [e]
  simp [List.drop_append]
def onF (iw ifr ion iby : Nat) : AV := .fn 103 [] [.ref iw 0 0, .ref ifr 0 0, .ref ion 0 0, .ref iby 0 0]
set_option maxHeartbeats 2000000 in
theorem on_skip (g : Good t) (hf : t.Fits) (hn : days.length ≤ 8) {last : Option Pp} (hla : lastOk t last) (hx0 : ∀ x ∈ days, 0 ≤ x) {H : List AObj} {lo iw ifr ion iby many : Nat} (hlo : lo ≤ H.length) (hiw : H[iw]? = some (.cells 0 none (wCs t m today wh days))) (hif : H[ifr]? = some (.cells 0 none (freeL t days))) : ∀ (b a : List Int) (k : Int), k = a.length → days = a ++ b → (∀ q, last = some q → ∀ x ∈ b, q.first ≤ x) →
    ∃ a' : List Int, days = a' ++ skipD t (endO t last) b ∧ a.length ≤ a'.length ∧ loopC E0 [0, 1, 3, 4, 5, 6, 9, 10] [9, 10] A103_l0 { ts := [(0, .v (.int .i64 k)), (1, .v (.int .i64 many)), (3, .v (.ref iw 0 0)), (4, .v (.ref ifr 0 0)), (5, .v (.ref ion 0 0)), (6, .v (.ref iby 0 0)), (9, .loc 9 0), (10, .loc 10 0)], bs := [(9, lastCs last), (10, [.int .i64 0, .lst (some true) true 0 []])] } { heap := H, low := lo }
    = some (.exit 0, { ts := [(0, .v (.int .i64 a'.length)), (1, .v (.int .i64 many)), (3, .v (.ref iw 0 0)), (4, .v (.ref ifr 0 0)), (5, .v (.ref ion 0 0)), (6, .v (.ref iby 0 0)), (9, .loc 9 0), (10, .loc 10 0), (53, .v (.bool false))], bs := [(9, lastCs last), (10, [.int .i64 0, .lst (some true) true 0 []])] }, { heap := H, low := lo })
  | [], a, k, hk, e, _ => by
    subst hk
    have hm : min lo H.length = lo := Nat.min_eq_left hlo
    have hiw' : iw < H.length := (List.getElem?_eq_some_iff.1 hiw).1
    have hiw2 : ¬ H.length ≤ iw := by omega
    refine ⟨a, by rw [e]; rfl, Nat.le_refl _, ?_⟩
    simp only [List.append_nil] at e
    have hnl : ¬ (a.length : Int) < days.length := by rw [e]; omega
    simp only [wCs, Town.cs, List.cons_append, List.nil_append] at hiw
    rw [loopC_eq]
    simp [A103_l0, A103_r1, regionA, hiw, hnl, hm, hiw2]
  | x :: b, a, k, hk, e, hq => by
    subst hk
    have hm : min lo H.length = lo := Nat.min_eq_left hlo
    have hiw' : iw < H.length := (List.getElem?_eq_some_iff.1 hiw).1
    have hif' : ifr < H.length := (List.getElem?_eq_some_iff.1 hif).1
    have hiw2 : ¬ H.length ≤ iw := by omega
    have hif2 : ¬ H.length ≤ ifr := by omega
    have hlt : (a.length : Int) < days.length := by rw [e]; simp; omega
    have hx00 := hx0 x (by simp [e])
    have hlt8 : (a.length : Int) < 8 := by omega
    have hd := drop_ints e
    have hw : IntKind.wrap .i64 ((a.length : Int) + 1) = (a.length : Int) + 1 := wrap_small (by omega) (by omega)
    obtain ⟨r, hr⟩ := free_get (t := t) e
    have hfe := free_eqs (t := t) hn
    have hl8 : (freeL t days).length = 8 := by simp [freeL]; omega
    have htk : (freeL t days).take 8 = freeL t days := List.take_of_length_le (by omega)
    have step : ∀ c : Bool, c = (decide (x ≤ endO t last) || covB t t.held x) → codeE E0 A103_l0 { ts := [(0, .v (.int .i64 a.length)), (1, .v (.int .i64 many)), (3, .v (.ref iw 0 0)), (4, .v (.ref ifr 0 0)), (5, .v (.ref ion 0 0)), (6, .v (.ref iby 0 0)), (9, .loc 9 0), (10, .loc 10 0)], bs := [(9, lastCs last), (10, [.int .i64 0, .lst (some true) true 0 []])] } { heap := H, low := lo }
        = if c = true then some (.norm, { ts := [(0, .v (.int .i64 ((a ++ [x]).length : Int))), (1, .v (.int .i64 many)), (3, .v (.ref iw 0 0)), (4, .v (.ref ifr 0 0)), (5, .v (.ref ion 0 0)), (6, .v (.ref iby 0 0)), (9, .loc 9 0), (10, .loc 10 0)], bs := [(9, lastCs last), (10, [.int .i64 0, .lst (some true) true 0 []])] }, { heap := H, low := lo })
          else some (.exit 0, { ts := [(0, .v (.int .i64 a.length)), (1, .v (.int .i64 many)), (3, .v (.ref iw 0 0)), (4, .v (.ref ifr 0 0)), (5, .v (.ref ion 0 0)), (6, .v (.ref iby 0 0)), (9, .loc 9 0), (10, .loc 10 0), (53, .v (.bool false))], bs := [(9, lastCs last), (10, [.int .i64 0, .lst (some true) true 0 []])] }, { heap := H, low := lo }) := by
      intro c hc
      have hfv : ((freeB t days).all fun b => !b) = true → covB t t.held x = false := free_none e
      generalize ((freeB t days).all fun b => !b) = fe at hfe hfv
      generalize freeL t days = fl at *
      simp only [wCs, Town.cs, List.cons_append, List.nil_append] at hiw
      cases last with
      | none =>
        simp only [endO] at hc
        cases hcv : covB t t.held x with
        | true =>
          have hfe' : fe = false := by
            cases fe with
            | false => rfl
            | true => rw [hfv rfl] at hcv; cases hcv
          subst hfe'
          rw [hcv] at hc hr
          simp only [Bool.or_true] at hc
          subst hc
          simp [A103_l0, A103_r1, A103_r2, regionA, hiw, hif, hlt, hlt8, hm, hiw2, hif2, lastCs, hl8, htk, hfe, hr, hw]
        | false =>
          rw [hcv] at hc hr
          have h1000 : c = false := by
            have h9 : ¬ x ≤ -1000 := by omega
            rw [hc]
            simp [h9]
          subst h1000
          cases fe <;> simp [A103_l0, A103_r1, A103_r2, regionA, hiw, hif, hlt, hlt8, hm, hiw2, hif2, lastCs, hl8, htk, hfe, hr, hw, eqL]
      | some q =>
        have hpq : paperB t q = true := hla
        have hqk := hpq
        simp only [paperB, Bool.and_eq_true, amid_iff] at hqk
        have hb1 : (q.kind == -1) = false := by simp; omega
        have hen := end_ev t m q hpq g.kinds
        simp only [Town.cs, Pp.av, List.cons_append, List.nil_append] at hen
        have hqx := hq q rfl x (by simp)
        have ham : amid x q.first (endB t q) = decide (x ≤ endB t q) := by simp [amid, hqx]
        simp only [endO] at hc
        cases hcv : covB t t.held x with
        | true =>
          have hfe' : fe = false := by
            cases fe with
            | false => rfl
            | true => rw [hfv rfl] at hcv; cases hcv
          subst hfe'
          rw [hcv] at hc hr
          simp only [Bool.or_true] at hc
          subst hc
          simp [A103_l0, A103_r1, A103_r2, regionA, hiw, hif, hlt, hlt8, hm, hiw2, hif2, lastCs, hl8, htk, hfe, hr, hw]
        | false =>
          rw [hcv] at hc hr
          by_cases hxe : x ≤ endB t q
          · have hct : c = true := by rw [hc]; simp [hxe]
            subst hct
            cases fe <;> simp [A103_l0, A103_r1, A103_r2, regionA, hiw, hif, hlt, hlt8, hm, hiw2, hif2, lastCs, hl8, htk, hfe, hr, hw, eqL, Pp.av, hb1, hen, ham, hxe, hd]
          · have hct : c = false := by rw [hc]; simp [hxe]
            subst hct
            cases fe <;> simp [A103_l0, A103_r1, A103_r2, regionA, hiw, hif, hlt, hlt8, hm, hiw2, hif2, lastCs, hl8, htk, hfe, hr, hw, eqL, Pp.av, hb1, hen, ham, hxe, hd]
    have hst := step _ rfl
    have ih := on_skip g hf hn hla hx0 hlo hiw hif (ion := ion) (iby := iby) (many := many) b (a ++ [x]) _ rfl (by simp [e]) (fun q h y hy => hq q h y (by simp [hy]))
    by_cases hc : (decide (x ≤ endO t last) || covB t t.held x) = true
    · rw [if_pos hc] at hst
      obtain ⟨a', q1, q2, q3⟩ := ih
      refine ⟨a', by simpa [skipD, hc] using q1, by simp at q2; omega, ?_⟩
      exact (loopC_norm hst).trans q3
    · rw [if_neg hc] at hst
      refine ⟨a, by simp only [skipD]; rw [if_neg hc]; exact e, Nat.le_refl _, ?_⟩
      exact loopC_out hst (by simp)
end
end Go.Proofs.Tryd


namespace Go.Proofs.Tryd
open Go Go.Proofs.AM

def cont : AObj → Option (Nat × List AV)
  | .cells v _ cs => some (v, cs)
  | .frz v cs => some (v, cs)
  | _ => none
/-- What lies there still lies there. -/
def Keep (J J' : List AObj) : Prop := ∀ (j : Nat) (o : Nat × List AV), J[j]?.bind cont = some o → J'[j]?.bind cont = some o
theorem Keep.refl (J : List AObj) : Keep J J := fun _ _ h => h
theorem Keep.trans {J J' J'' : List AObj} (h : Keep J J') (h' : Keep J' J'') : Keep J J'' := fun j o e => h' j o (h j o e)
theorem Keep.app (J O : List AObj) : Keep J (J ++ O) := fun j o e => by
  cases hj : J[j]? with
  | none => rw [hj] at e; cases e
  | some x =>
    have hlt := (List.getElem?_eq_some_iff.1 hj).1
    rw [List.getElem?_append_left hlt]
    exact e
theorem cont_frz1 (o : AObj) : cont (frz1 o) = cont o := by cases o <;> rfl
theorem Keep.frz (J : List AObj) (j : Nat) : ∀ o, J[j]? = some o → Keep J (J.set j (frz1 o)) := fun o ho i c e => by
  rw [List.getElem?_set]
  split
  · rename_i h
    subst h
    rw [ho] at e
    have hlt := (List.getElem?_eq_some_iff.1 ho).1
    rw [if_pos hlt]
    simpa [cont_frz1] using e
  · exact e
/-- A slice of licences: a row that is told, or one of the heap, behind the first objects. -/
def PV (K : Nat) (J : List AObj) (v : AV) (l : List Pp) : Prop := (∃ h : Hd, v = lstA h Pp.av l ∧ (l = [] → h.ex = true)) ∨ ∃ j ver, v = .sl 2 (K + j) ver 0 l.length none ∧ J[j]?.bind cont = some (ver, row Pp.av l)
theorem PV.keep {K : Nat} {J J' : List AObj} {v : AV} {l : List Pp} (h : PV K J v l) (k : Keep J J') : PV K J' v l := by
  rcases h with h | ⟨j, ver, e, h⟩
  · exact .inl h
  · exact .inr ⟨j, ver, e, k _ _ h⟩
theorem PV.cells {K : Nat} {J : List AObj} {v : AV} {l : List Pp} (h : PV K J v l) : v.cells = some [v] := by
  rcases h with ⟨h, rfl, _⟩ | ⟨j, ver, rfl, h⟩ <;> rfl
theorem PV.slice {K : Nat} {C J : List AObj} {v : AV} {l : List Pp} {lo : Nat} (hC : C.length = K) (h : PV K J v l) : sliceCells 2 { heap := C ++ J, low := lo } v = some (l.length, row Pp.av l) := by
  subst hC
  have e1 := row_len Pp.len l
  rcases h with ⟨h, rfl, _⟩ | ⟨j, ver, rfl, h⟩
  · simp [sliceCells, lstA, e1]
  · have hg : (C ++ J)[C.length + j]? = J[j]? := by simp [List.getElem?_append_right]
    cases hj : J[j]? with
    | none => rw [hj] at h; cases h
    | some o =>
      rw [hj] at h
      have htk : (row Pp.av l).take (l.length * 2) = row Pp.av l := List.take_of_length_le (Nat.le_of_eq e1)
      cases o <;> simp [cont] at h <;> simp [sliceCells, hg, hj, h.1, h.2, e1, htk]
/-- A licence put before a plan. -/
theorem PV.cons {K : Nat} {C J : List AObj} {v : AV} {l : List Pp} (hC : C.length = K) (h : PV K J v l) (hn : l.length ≤ 100) (p : Pp) : ∃ v' O, (∀ lo, appA 2 55 16 (.lst (some false) true 1 p.av) v { heap := C ++ J, low := lo } = some (v', { heap := C ++ (J ++ O), low := lo })) ∧ PV K (J ++ O) v' (p :: l) := by
  have hs := fun lo => h.slice (lo := lo) hC
  have r1 : (1 + l.length) * 16 ≤ room := by unfold room; omega
  have r2 : 1 + l.length ≤ room := by unfold room; omega
  cases l with
  | nil =>
    refine ⟨.lst (some false) true 1 p.av, [], fun lo => ?_, .inl ⟨⟨some false, true⟩, by simp [lstA, row], fun h => by cases h⟩⟩
    simp [appA, hs]
  | cons q l =>
    refine ⟨.sl 2 (C ++ J).length 0 0 (1 + (q :: l).length) none, [.cells 0 (some (55, 2)) (row Pp.av (p :: q :: l))], fun lo => ?_, .inr ⟨J.length, 0, ?_, ?_⟩⟩
    · simp only [List.length_cons] at r1 r2 hs ⊢
      simp [appA, hs, r1, r2, alloc, Pp.av, row]
    · rw [← hC]
      simp [Nat.add_comm]
    · simp [cont]
/-- A plan handed on: it is told by its cells. -/
theorem PV.settle {K : Nat} {C J : List AObj} {v : AV} {l : List Pp} (hC : C.length = K) (h : PV K J v l) (d : Nat) : ∃ h' ids, AM.settle (C ++ J) 0 true (d + 1) v = some (lstA h' Pp.av l, ids) ∧ ∀ i ∈ ids, K ≤ i := by
  have e1 := row_len Pp.len l
  have e2 : ∀ (hp : List AObj) (s d : Nat) (refs : Bool), mapS (AM.settle hp s refs d) (row Pp.av l) = some (row Pp.av l, []) := fun hp s d refs => mapS_plain (fun c hc => plainA.scal (row_scal Pp.sc _ c hc) d)
  subst hC
  rcases h with ⟨h, rfl, _⟩ | ⟨j, ver, rfl, h⟩
  · exact ⟨h, [], by simp [lstA, e2], by simp⟩
  · have hg : (C ++ J)[C.length + j]? = J[j]? := by simp [List.getElem?_append_right]
    have htk : (row Pp.av l).take (l.length * 2) = row Pp.av l := List.take_of_length_le (Nat.le_of_eq e1)
    refine ⟨⟨some false, false⟩, [C.length + j], ?_, by simp⟩
    cases hj : J[j]? with
    | none => rw [hj] at h; cases h
    | some o =>
      rw [hj] at h
      cases o <;> simp [cont] at h <;> simp [hg, hj, h.1, h.2, e1, htk, e2, lstA]
theorem frzAll_keep {C : List AObj} : ∀ (ids : List Nat) (J : List AObj), (∀ i ∈ ids, C.length ≤ i) → ∃ J', frzAll (C ++ J) ids = C ++ J' ∧ Keep J J' ∧ J'.length = J.length
  | [], J, _ => ⟨J, rfl, Keep.refl J, rfl⟩
  | i :: ids, J, h => by
    have hi := h i (by simp)
    obtain ⟨j, rfl⟩ := Nat.exists_eq_add_of_le hi
    have hg : (C ++ J)[C.length + j]? = J[j]? := by simp [List.getElem?_append_right]
    simp only [frzAll, hg]
    cases hj : J[j]? with
    | none => exact frzAll_keep ids J (fun i hi => h i (by simp [hi]))
    | some o =>
      have hs : (C ++ J).set (C.length + j) (frz1 o) = C ++ J.set j (frz1 o) := by simp [List.set_append_right]
      simp only [hs]
      obtain ⟨J', h1, h2, h3⟩ := frzAll_keep ids (J.set j (frz1 o)) (fun i hi => h i (by simp [hi]))
      exact ⟨J', h1, (Keep.frz J j o hj).trans h2, by rw [h3, List.length_set]⟩
end Go.Proofs.Tryd


namespace Go.Proofs.Tryd
open Go Go.Proofs.AM

/-- Licences, one behind the other, that cover days. -/
inductive Chain (t : Town) (today : Int) : Int → List Int → List Pp → Prop
  | nil {e ds} : skipD t e ds = [] → Chain t today e ds []
  | cons {e ds d ds' p l} : skipD t e ds = d :: ds' → fitB t today e d p = true → Chain t today (endB t p) ds' l → Chain t today e ds (p :: l)
def feeSum (t : Town) (l : List Pp) : Int := (l.map (feeOf t)).sum
section
variable {t : Town} {today : Int} {wh : Hd} {days : List Int}
theorem Chain.len {e : Int} {ds : List Int} {l : List Pp} (h : Chain t today e ds l) : l.length ≤ ds.length := by
  induction h with
  | nil _ => simp
  | cons h1 h2 _ ih =>
    have := (skipD_sub t _ h1).1
    simp
    omega
theorem Chain.fees (hk : t.kinds.all kdB = true) {e : Int} {ds : List Int} {l : List Pp} (h : Chain t today e ds l) : 0 ≤ feeSum t l ∧ feeSum t l ≤ 1000 * l.length := by
  induction h with
  | nil _ => simp [feeSum]
  | cons h1 h2 _ ih =>
    simp only [fitB, Bool.and_eq_true] at h2
    obtain ⟨kk, e1, _⟩ := kd_of h2.1.1.1.1.1 hk
    have := fee_of h2.1.1.1.1.1 hk e1
    simp only [feeSum, List.map_cons, List.sum_cons, List.length_cons] at ih ⊢
    omega
theorem Chain.of_skip {e e' : Int} {ds ds' : List Int} {l : List Pp} (h : Chain t today e ds l) (hs : skipD t e ds = skipD t e' ds') (hf : ∀ d p, fitB t today e d p = true → fitB t today e' d p = true) : Chain t today e' ds' l := by
  cases h with
  | nil h => exact .nil (by rw [← hs]; exact h)
  | cons h1 h2 h3 => exact .cons (by rw [← hs]; exact h1) (hf _ _ h2) h3
/-- A bill that is right: there is no plan, or this is one, of that cost. -/
def BillV (t : Town) (today : Int) (K : Nat) (J : List AObj) (e : Int) (ds : List Int) (v : Int) (cost : Int) (pv : AV) : Prop :=
  ∃ l, PV K J pv l ∧ l.length ≤ 8 ∧ ((cost = -1 ∧ v = never) ∨ (0 ≤ cost ∧ Chain t today e ds l ∧ cost = feeSum t l ∧ 16 * cost + l.length = v))
theorem BillV.keep {K : Nat} {J J' : List AObj} {e : Int} {ds : List Int} {v cost : Int} {pv : AV} (h : BillV t today K J e ds v cost pv) (k : Keep J J') : BillV t today K J' e ds v cost pv := by
  obtain ⟨l, h1, h2⟩ := h
  exact ⟨l, h1.keep k, h2⟩
theorem BillV.cells {K : Nat} {J : List AObj} {e : Int} {ds : List Int} {v cost : Int} {pv : AV} (h : BillV t today K J e ds v cost pv) : pv.cells = some [pv] := by
  obtain ⟨l, h1, h2⟩ := h
  exact h1.cells
def onV (N : Nat) : AV := onF (N + 1) (N + 2) (N + 4) (N + 3)
/-- The planner's own objects. -/
def pre5 (t : Town) (today : Int) (wh : Hd) (days : List Int) (B : List AObj) (es : List (List AV × AV)) : List AObj :=
  B ++ [.map es, .cells 0 none (wCs t B.length today wh days), .cells 0 none (freeL t days), .cells 0 none [.fn 109 [] []], .cells 0 none [onV B.length]]
section
variable (B : List AObj) (es : List (List AV × AV)) (J : List AObj)
@[simp] theorem pre5_len : (pre5 t today wh days B es).length = B.length + 5 := by simp [pre5]
theorem pre5_0 : (pre5 t today wh days B es ++ J)[B.length]? = some (.map es) := by simp [pre5]
theorem pre5_1 : (pre5 t today wh days B es ++ J)[B.length + 1]? = some (.cells 0 none (wCs t B.length today wh days)) := by simp [pre5, List.append_assoc, List.getElem?_append_right]
theorem pre5_2 : (pre5 t today wh days B es ++ J)[B.length + 2]? = some (.cells 0 none (freeL t days)) := by simp [pre5, List.append_assoc, List.getElem?_append_right]
theorem pre5_3 : (pre5 t today wh days B es ++ J)[B.length + 3]? = some (.cells 0 none [.fn 109 [] []]) := by simp [pre5, List.append_assoc, List.getElem?_append_right]
theorem pre5_4 : (pre5 t today wh days B es ++ J)[B.length + 4]? = some (.cells 0 none [onV B.length]) := by simp [pre5, List.append_assoc, List.getElem?_append_right]
theorem pre5_set (es' : List (List AV × AV)) : (pre5 t today wh days B es ++ J).set B.length (.map es') = pre5 t today wh days B es' ++ J := by simp [pre5, List.append_assoc, List.set_append_right]
end
def stP (t : Town) (today : Int) (wh : Hd) (days : List Int) (B : List AObj) (es : List (List AV × AV)) (J : List AObj) (lo : Nat) : St := { heap := pre5 t today wh days B es ++ J, low := lo }
def keyA (a b c d : Int) : List AV := [.int .i64 a, .int .i64 b, .int .i64 c, .int .i64 d]
/-- What is known is right. -/
structure MapOk (t : Town) (today : Int) (days : List Int) (K : Nat) (J : List AObj) (es : List (List AV × AV)) : Prop where
  keys : ∀ kv ∈ es, ∃ a b c d, kv.1 = keyA a b c d
  ok : ∀ (k : Nat) (many : Int) (last : Option Pp) (c d : Int) (v : AV), lastOk t last → lastCs last = [.int .i64 c, .int .i64 d] → findK [false, false, false, false] (keyA k many c d) es = some (some v) → ∃ cost pv, v = .agg [.int .i64 cost, pv] ∧ BillV t today K J (endO t last) (days.drop k) (V t today 8 (endO t last) (days.drop k)) cost pv
theorem eqL_key (a b c d a' b' c' d' : Int) : eqL [false, false, false, false] (keyA a b c d) (keyA a' b' c' d') = some (a == a' && (b == b' && (c == c' && d == d'))) := by simp [keyA, eqL]
theorem findK_tot : ∀ {es : List (List AV × AV)}, (∀ kv ∈ es, ∃ a b c d, kv.1 = keyA a b c d) → ∀ a b c d, ∃ r, findK [false, false, false, false] (keyA a b c d) es = some r
  | [], _, _, _, _, _ => ⟨none, rfl⟩
  | (k, v) :: es, h, a, b, c, d => by
    obtain ⟨a', b', c', d', e⟩ := h (k, v) (by simp)
    simp only at e
    subst e
    obtain ⟨r, hr⟩ := findK_tot (es := es) (fun kv hkv => h kv (by simp [hkv])) a b c d
    simp only [findK, eqL_key]
    cases (a == a' && (b == b' && (c == c' && d == d'))) with
    | true => exact ⟨_, rfl⟩
    | false => exact ⟨r, hr⟩
theorem updK_tot : ∀ {es : List (List AV × AV)}, (∀ kv ∈ es, ∃ a b c d, kv.1 = keyA a b c d) → ∀ a b c d v, ∃ es', updK [false, false, false, false] (keyA a b c d) v es = some es' ∧ (∀ kv ∈ es', ∃ a b c d, kv.1 = keyA a b c d) ∧ ∀ a' b' c' d', findK [false, false, false, false] (keyA a' b' c' d') es' = if (a' == a && (b' == b && (c' == c && d' == d))) = true then some (some v) else findK [false, false, false, false] (keyA a' b' c' d') es
  | [], _, a, b, c, d, v => by
    refine ⟨_, rfl, fun kv hkv => ?_, fun a' b' c' d' => ?_⟩
    · simp at hkv
      subst hkv
      exact ⟨a, b, c, d, rfl⟩
    · simp only [findK, eqL_key]
      cases (a' == a && (b' == b && (c' == c && d' == d))) <;> rfl
  | (k, w) :: es, h, a, b, c, d, v => by
    obtain ⟨a1, b1, c1, d1, e⟩ := h (k, w) (by simp)
    simp only at e
    subst e
    obtain ⟨es', h1, h2, h3⟩ := updK_tot (es := es) (fun kv hkv => h kv (by simp [hkv])) a b c d v
    simp only [updK, eqL_key]
    cases hx : (a == a1 && (b == b1 && (c == c1 && d == d1))) with
    | true =>
      simp only [Bool.and_eq_true, beq_iff_eq] at hx
      obtain ⟨rfl, rfl, rfl, rfl⟩ := hx
      refine ⟨_, rfl, fun kv hkv => ?_, fun a' b' c' d' => ?_⟩
      · simp at hkv
        rcases hkv with rfl | hkv
        · exact ⟨a, b, c, d, rfl⟩
        · exact h kv (by simp [hkv])
      · simp only [findK, eqL_key]
        cases (a' == a && (b' == b && (c' == c && d' == d))) <;> rfl
    | false =>
      refine ⟨_, by rw [h1], fun kv hkv => ?_, fun a' b' c' d' => ?_⟩
      · simp at hkv
        rcases hkv with rfl | hkv
        · exact ⟨a1, b1, c1, d1, rfl⟩
        · exact h2 kv hkv
      · simp only [findK, eqL_key, h3]
        cases hy : (a' == a1 && (b' == b1 && (c' == c1 && d' == d1))) with
        | true =>
          simp only [Bool.and_eq_true, beq_iff_eq] at hy
          obtain ⟨rfl, rfl, rfl, rfl⟩ := hy
          have : (a' == a && (b' == b && (c' == c && d' == d))) = false := by
            cases hz : (a' == a && (b' == b && (c' == c && d' == d))) with
            | false => rfl
            | true =>
              simp only [Bool.and_eq_true, beq_iff_eq] at hz
              obtain ⟨rfl, rfl, rfl, rfl⟩ := hz
              simp at hx
          simp [this]
        | false => rfl
theorem MapOk.keep {K : Nat} {J J' : List AObj} {es : List (List AV × AV)} (h : MapOk t today days K J es) (k : Keep J J') : MapOk t today days K J' es :=
  ⟨h.keys, fun a b c d e v h1 h2 h3 => by
    obtain ⟨cost, pv, q1, q2⟩ := h.ok a b c d e v h1 h2 h3
    exact ⟨cost, pv, q1, q2.keep k⟩⟩
theorem lastCs_inj (hk : t.kinds.all kdB = true) {l l' : Option Pp} (h : lastOk t l) (h' : lastOk t l') (e : lastCs l = lastCs l') : l = l' := by
  cases l with
  | none =>
    cases l' with
    | none => rfl
    | some q =>
      have : paperB t q = true := h'
      simp only [paperB, Bool.and_eq_true, amid_iff] at this
      simp only [lastCs, Pp.av, List.cons.injEq, AV.int.injEq, true_and] at e
      omega
  | some p =>
    cases l' with
    | none =>
      have : paperB t p = true := h
      simp only [paperB, Bool.and_eq_true, amid_iff] at this
      simp only [lastCs, Pp.av, List.cons.injEq, AV.int.injEq, true_and] at e
      omega
    | some q =>
      obtain ⟨a, b⟩ := p
      obtain ⟨c, d⟩ := q
      simp only [lastCs, Pp.av, List.cons.injEq, AV.int.injEq, true_and, and_true] at e
      rw [e.1, e.2]
theorem MapOk.upd (hk : t.kinds.all kdB = true) {K : Nat} {J : List AObj} {es : List (List AV × AV)} (h : MapOk t today days K J es) {k : Nat} {many c d : Int} {last : Option Pp} (hl : lastOk t last) (hc : lastCs last = [.int .i64 c, .int .i64 d]) {cost : Int} {pv : AV} (hb : BillV t today K J (endO t last) (days.drop k) (V t today 8 (endO t last) (days.drop k)) cost pv) :
    ∃ es', updK [false, false, false, false] (keyA k many c d) (.agg [.int .i64 cost, pv]) es = some es' ∧ MapOk t today days K J es' := by
  obtain ⟨es', h1, h2, h3⟩ := updK_tot h.keys k many c d (.agg [.int .i64 cost, pv])
  refine ⟨es', h1, h2, fun k2 many2 last2 c2 d2 v hl2 hc2 hf2 => ?_⟩
  rw [h3] at hf2
  split at hf2
  · rename_i hx
    simp only [Bool.and_eq_true, beq_iff_eq] at hx
    obtain ⟨e1, rfl, rfl, rfl⟩ := hx
    have e2 : k2 = k := by omega
    subst e2
    have e3 := lastCs_inj hk hl2 hl (by rw [hc2, hc])
    subst e3
    simp only [Option.some.injEq] at hf2
    exact ⟨cost, pv, hf2.symm, hb⟩
  · exact h.ok k2 many2 last2 c2 d2 v hl2 hc2 hf2
end
end Go.Proofs.Tryd


namespace Go.Proofs.Tryd
open Go Go.Proofs.AM

/-- The first days of a licence, later ones first. -/
def befores (k : Int) : Nat → Int → List Pp
  | 0, _ => []
  | r + 1, f => ⟨k, f⟩ :: befores k r (f - 1)
theorem mem_befores {k : Int} {p : Pp} : ∀ {r : Nat} {f : Int}, p ∈ befores k r f ↔ p.kind = k ∧ p.first ≤ f ∧ f < p.first + r
  | 0, f => by
    simp only [befores, List.not_mem_nil, false_iff]
    omega
  | r + 1, f => by
    have ih := mem_befores (k := k) (p := p) (r := r) (f := f - 1)
    obtain ⟨pk, pf⟩ := p
    simp only [befores, List.mem_cons, ih, Pp.mk.injEq]
    omega
section
variable {t : Town} {today d k many nk kind : Int} {wh : Hd} {days : List Int} {last : Option Pp}
def costP (t : Town) (today : Int) (l' : List Int) (p : Pp) : Int := 16 * feeOf t p + 1 + V t today 7 (endB t p) l'
def onC (N : Nat) : Cal := .fn 103 [] [.ref (N + 1) 0 0, .ref (N + 2) 0 0, .ref (N + 4) 0 0, .ref (N + 3) 0 0]
/-- The rest, behind a licence, is planned right. -/
def RecP (t : Town) (today : Int) (wh : Hd) (days : List Int) (B : List AObj) (e d k many : Int) (l' : List Int) : Prop :=
  ∀ p, fitB t today e d p = true → ∀ es J lo, MapOk t today days (B.length + 5) J es → B.length ≤ lo → lo ≤ B.length + 5 + J.length →
    ∃ cost pv es' J' lo', callE E0 false (onC B.length) [.int .i64 (k + 1), .int .i64 (many + 1), .agg p.av] (stP t today wh days B es J lo) = some (.agg [.int .i64 cost, pv], stP t today wh days B es' J' lo') ∧ MapOk t today days (B.length + 5) J' es' ∧ Keep J J' ∧ BillV t today (B.length + 5) J' (endB t p) l' (V t today 7 (endB t p) l') cost pv ∧ B.length ≤ lo' ∧ lo' ≤ B.length + 5 + J'.length
/-- How a loop of the planner ends. -/
def EndI (t : Town) (today : Int) (wh : Hd) (days : List Int) (B : List AObj) (mk : Int → AV → Fr) (ex : Ex) (e : Int) (ds : List Int) (acc : Int) (J : List AObj) (o : Out) : Prop :=
  ∃ cost' pv' es' J' lo', o = some (ex, mk cost' pv', stP t today wh days B es' J' lo') ∧ MapOk t today days (B.length + 5) J' es' ∧ Keep J J' ∧ BillV t today (B.length + 5) J' e ds acc cost' pv' ∧ acc ≤ never ∧ B.length ≤ lo' ∧ lo' ≤ B.length + 5 + J'.length
def frI (B : List AObj) (k many nk kind cnt i : Int) (lc kc : List AV) (ex : List (Nat × TV)) (cost : Int) (pv : AV) : Fr :=
  { ts := [(0, .v (.int .i64 k)), (1, .v (.int .i64 many)), (3, .v (.ref (B.length + 1) 0 0)), (5, .v (.ref (B.length + 4) 0 0)), (6, .v (.ref (B.length + 3) 0 0)), (9, .loc 9 0), (10, .loc 10 0), (11, .loc 11 0), (14, .loc 14 0), (15, .v (.int .i64 kind)), (84, .v (.int .i64 nk)), (85, .v (.int .i64 kind)), (97, .v (.int .i64 cnt)), (98, .v (.int .i64 i))] ++ ex, bs := [(9, lc), (10, [.int .i64 0, .lst (some true) true 0 []]), (11, kc), (14, [.int .i64 cost, pv])] }
theorem fit_can {e : Int} {p : Pp} (hp : paperB t p = true) (h1 : p.first ≤ d) (h2 : d < p.first + daysOf t p) : fitB t today e d p = canB t today e p := by
  unfold fitB canB
  have h3 : d ≤ endB t p := by unfold endB; omega
  simp [hp, h1, h3]
set_option maxHeartbeats 4000000 in
theorem on_in (g : Good t) (hf : t.Fits) (hto : amid today 0 999 = true) {e : Int} {ds l' : List Int} (hsk : skipD t e ds = d :: l') (hl7 : l'.length ≤ 7) {B : List AObj} (hrec : RecP t today wh days B e d k many l') (hla : lastOk t last) (hee : e = endO t last) {kd : Kd} (hk : t.kinds[kind.toNat]? = some kd) (k0 : 0 ≤ kind) (hd0 : 0 ≤ d) (hd : d ≤ 999) (hkr : 0 ≤ k ∧ k ≤ 8) (hmr : 0 ≤ many ∧ many ≤ 8) {kx : Nat} (hkx : (kx : Int) = k) (hdx : ∃ r, (row In.av days).drop kx = .int .i64 d :: r) (hkl : kx < days.length) {kc : List AV} : ∀ (r : Nat) (i acc cost : Int) (pv : AV) (es : List (List AV × AV)) (J : List AObj) (lo : Nat), i + r = kd.days → 0 ≤ i → acc ≤ never → MapOk t today days (B.length + 5) J es → BillV t today (B.length + 5) J e ds acc cost pv → B.length ≤ lo → lo ≤ B.length + 5 + J.length →
    EndI t today wh days B (frI B k many nk kind kd.days kd.days (lastCs last) kc [(99, .v (.bool false))]) (.exit 4) e ds (accV (costP t today l') (fitB t today e d) acc (befores kind r (d - i))) J
      (loopC E0 [0, 1, 3, 5, 6, 9, 10, 11, 14, 15, 84, 85, 97, 98] [9, 10, 11, 14] A103_l1 (frI B k many nk kind kd.days i (lastCs last) kc [] cost pv) (stP t today wh days B es J lo))
  | 0, i, acc, cost, pv, es, J, lo, hir, hi0, ha1, hM, hB, hl0, hl1 => by
    have : i = kd.days := by omega
    subst this
    refine ⟨cost, pv, es, J, lo, ?_, hM, Keep.refl _, hB, ha1, hl0, hl1⟩
    rw [loopC_eq]
    simp [A103_l1, A103_r15, frI]
  | r + 1, i, acc, cost, pv, es, J, lo, hir, hi0, ha1, hM, hB, hl0, hl1 => by
    have hlt : i < kd.days := by omega
    have hkl2 : kind.toNat < t.kinds.length := (List.getElem?_eq_some_iff.1 hk).1
    have hkd := List.all_eq_true.1 g.kinds kd (List.mem_of_getElem? hk)
    simp only [kdB, Bool.and_eq_true, amid_iff] at hkd
    have hnk := amid_iff.1 g.n
    have w1 : IntKind.wrap .i64 (i + 1) = i + 1 := wrap_small (by omega) (by omega)
    have w2 : IntKind.wrap .i64 (d - i) = d - i := wrap_small (by omega) (by omega)
    obtain ⟨rr, hrr⟩ := hdx
    have hgW := fun es J => pre5_1 (t := t) (today := today) (wh := wh) (days := days) B es J
    have hgO := fun es J => pre5_4 (t := t) (today := today) (wh := wh) (days := days) B es J
    have hgY := fun es J => pre5_3 (t := t) (today := today) (wh := wh) (days := days) B es J
    have hcells := hB.cells
    obtain ⟨la, lb, hab⟩ : ∃ a b, lastCs last = [.int .i64 a, .int .i64 b] := by
      cases last with
      | none => exact ⟨_, _, rfl⟩
      | some q => exact ⟨_, _, rfl⟩
    have hk0 : (0 : Int) ≤ k := hkr.1
    have hkT : k.toNat = kx := by omega
    have hkl3 : k < days.length := by omega
    have hf1 : d - i - 1 = d - (i + 1) := by omega
    -- the rounds that are left
    have next : ∀ (acc1 cost1 : Int) (pv1 : AV) (es1 : List (List AV × AV)) (J1 : List AObj) (lo1 : Nat), accV (costP t today l') (fitB t today e d) acc (befores kind (r + 1) (d - i)) = accV (costP t today l') (fitB t today e d) acc1 (befores kind r (d - (i + 1))) → acc1 ≤ never → MapOk t today days (B.length + 5) J1 es1 → Keep J J1 → BillV t today (B.length + 5) J1 e ds acc1 cost1 pv1 → B.length ≤ lo1 → lo1 ≤ B.length + 5 + J1.length →
        codeE E0 A103_l1 (frI B k many nk kind kd.days i (lastCs last) kc [] cost pv) (stP t today wh days B es J lo) = some (.norm, frI B k many nk kind kd.days (i + 1) (lastCs last) kc [] cost1 pv1, stP t today wh days B es1 J1 lo1) →
        EndI t today wh days B (frI B k many nk kind kd.days kd.days (lastCs last) kc [(99, .v (.bool false))]) (.exit 4) e ds (accV (costP t today l') (fitB t today e d) acc (befores kind (r + 1) (d - i))) J
          (loopC E0 [0, 1, 3, 5, 6, 9, 10, 11, 14, 15, 84, 85, 97, 98] [9, 10, 11, 14] A103_l1 (frI B k many nk kind kd.days i (lastCs last) kc [] cost pv) (stP t today wh days B es J lo)) := fun acc1 cost1 pv1 es1 J1 lo1 hacc ha hM1 hK1 hB1 hl01 hl11 hstep => by
      obtain ⟨cost2, pv2, es2, J2, lo2, q1, q2, q3, q4, q5, q6, q7⟩ := on_in g hf hto hsk hl7 hrec hla hee hk k0 hd0 hd hkr hmr hkx ⟨rr, hrr⟩ hkl (kc := kc) r (i + 1) acc1 cost1 pv1 es1 J1 lo1 (by omega) (by omega) ha hM1 hB1 hl01 hl11
      rw [hacc]
      have hln : loopC E0 [0, 1, 3, 5, 6, 9, 10, 11, 14, 15, 84, 85, 97, 98] [9, 10, 11, 14] A103_l1 (frI B k many nk kind kd.days i (lastCs last) kc [] cost pv) (stP t today wh days B es J lo) = loopC E0 [0, 1, 3, 5, 6, 9, 10, 11, 14, 15, 84, 85, 97, 98] [9, 10, 11, 14] A103_l1 (frI B k many nk kind kd.days (i + 1) (lastCs last) kc [] cost1 pv1) (stP t today wh days B es1 J1 lo1) := loopC_norm (b := A103_l1) hstep
      exact ⟨cost2, pv2, es2, J2, lo2, hln.trans q1, q2, hK1.trans q3, q4, q5, q6, q7⟩
    by_cases hneg : d - i < 0
    · refine next acc cost pv es J lo ?_ ha1 hM (Keep.refl _) hB hl0 hl1 ?_
      · have hfit : fitB t today e d ⟨kind, d - i⟩ = false := by
          have : paperB t ⟨kind, d - i⟩ = false := by
            cases hp : paperB t ⟨kind, d - i⟩ with
            | false => rfl
            | true =>
              simp only [paperB, Bool.and_eq_true, amid_iff] at hp
              omega
          simp [fitB, this]
        simp only [befores, accV, hfit, hf1]
        simp
      · simp only [stP, wCs, Town.cs, List.cons_append, List.nil_append] at hgW ⊢
        simp [A103_l1, A103_r15, A103_r16, A103_r17, A103_r18, A103_r24, frI, hlt, w1, w2, hgW, hk0, hkT, hkl3, hrr, hneg]
    · have hp : paperB t ⟨kind, d - i⟩ = true := by
        simp only [paperB, Bool.and_eq_true, amid_iff]
        omega
      have hfe := fee_of hp g.kinds hk
      have hfc : fitB t today e d ⟨kind, d - i⟩ = canB t today e ⟨kind, d - i⟩ := fit_can hp (by simp; omega) (by simp; omega)
      have hcan := can_ev (m := B.length) (wh := wh) (days := days) g hf hto hla hp
      rw [← hee] at hcan
      cases hc : canB t today e ⟨kind, d - i⟩ with
      | false =>
        rw [hc] at hcan hfc
        refine next acc cost pv es J lo ?_ ha1 hM (Keep.refl _) hB hl0 hl1 ?_
        · simp only [befores, accV, hfc, hf1]
          simp
        · rw [hab] at hcan ⊢
          simp only [stP, wCs, Town.cs, Pp.av, List.cons_append, List.nil_append] at hgW hcan ⊢
          simp [A103_l1, A103_r15, A103_r16, A103_r17, A103_r18, A103_r24, frI, hlt, w1, w2, hgW, hk0, hkT, hkl3, hrr, hneg, hcan]
      | true =>
        rw [hc] at hcan hfc
        obtain ⟨c1, pv1, es1, J1, lo1, q1, q2, q3, q4, q5, q6⟩ := hrec _ hfc es J lo hM hl0 hl1
        have hcells1 := q4.cells
        have w3 : IntKind.wrap .i64 (k + 1) = k + 1 := wrap_small (by omega) (by omega)
        have w4 : IntKind.wrap .i64 (many + 1) = many + 1 := wrap_small (by omega) (by omega)
        obtain ⟨l1, hp1, hp2, hp3⟩ := q4
        have hV := V_range (t := t) (today := today) 7 (endB t ⟨kind, d - i⟩) l' g.kinds
        have n1 : (never : Int) = 1073741824 := rfl
        have hacc0 : accV (costP t today l') (fitB t today e d) acc (befores kind (r + 1) (d - i)) = accV (costP t today l') (fitB t today e d) (min acc (costP t today l' ⟨kind, d - i⟩)) (befores kind r (d - (i + 1))) := by
          simp only [befores, accV, hfc, hf1, if_true]
        rcases hp3 with ⟨rfl, hvn⟩ | ⟨hc0, hch, hcf, hcv⟩
        · have hmin : min acc (costP t today l' ⟨kind, d - i⟩) = acc := by
            unfold costP
            rw [hvn, hfe.1]
            omega
          refine next acc cost pv es1 J1 lo1 (by rw [hacc0, hmin]) ha1 q2 q3 (hB.keep q3) q5 q6 ?_
          · rw [hab] at hcan ⊢
            simp only [stP, wCs, Town.cs, Pp.av, onC, List.cons_append, List.nil_append] at hgW hcan q1 ⊢
            simp [A103_l1, A103_r15, A103_r16, A103_r17, A103_r18, A103_r19, A103_r20, A103_r24, frI, hlt, w1, w2, w3, w4, hgW, hgO, onV, onF, hk0, hkT, hkl3, hrr, hneg, hcan, q1, hcells1]
        · have hl1 : l1.length ≤ 7 := Nat.le_trans hch.len hl7
          have hfs := hch.fees g.kinds
          have hbf : feeSum t (⟨kind, d - i⟩ :: l1) = kd.fee + c1 := by
            simp only [feeSum, List.map_cons, List.sum_cons, hfe.1]
            rw [hcf]
            rfl
          have hch' : Chain t today e ds (⟨kind, d - i⟩ :: l1) := .cons hsk hfc hch
          obtain ⟨pv', O, ha, hpv'⟩ := hp1.cons (C := pre5 t today wh days B es1) (pre5_len B es1) (by omega) ⟨kind, d - i⟩
          have hcells' := hpv'.cells
          have hbig : 16 * (kd.fee + c1) + (l1.length + 1) = costP t today l' ⟨kind, d - i⟩ := by
            unfold costP
            rw [hfe.1, ← hcv]
            omega
          have hcle : costP t today l' ⟨kind, d - i⟩ ≤ never := by
            rw [← hbig, n1]
            omega
          have hBb : BillV t today (B.length + 5) (J1 ++ O) e ds (costP t today l' ⟨kind, d - i⟩) (kd.fee + c1) pv' :=
            ⟨_, hpv', by simp; omega, .inr ⟨by omega, hch', hbf.symm, by rw [← hbig]; simp⟩⟩
          have hKO : Keep J (J1 ++ O) := q3.trans (Keep.app J1 O)
          have hMO := q2.keep (Keep.app J1 O)
          have hdk := row_get Kd.len hk
          have hsum : ∀ s, callE E0 false (.fn 107 [] []) [.lst (some false) true 2 [.int .i64 kd.fee, .int .i64 c1]] s = some (.int .i64 (kd.fee + c1), s) := fun s => by
            have := sum_ev (h := ⟨some false, true⟩) (l := [kd.fee, c1]) (by simp) (by simp; omega) s
            simpa [lstA, row, In.av] using this
          have hkt : kind < t.kinds.length := by omega
          simp only [Pp.av] at ha
          obtain ⟨l0, hp0, hl08, hp03⟩ := hB
          rcases hp03 with ⟨rfl, rfl⟩ | ⟨hc00, hch0, hcf0, hcv0⟩
          · have hmin : min never (costP t today l' ⟨kind, d - i⟩) = costP t today l' ⟨kind, d - i⟩ := by omega
            refine next (costP t today l' ⟨kind, d - i⟩) (kd.fee + c1) pv' es1 (J1 ++ O) lo1 (by rw [hacc0, hmin]) hcle hMO hKO hBb (by omega) (by simp; omega) ?_
            rw [hab] at hcan ⊢
            simp only [stP, wCs, Town.cs, Pp.av, onC, List.cons_append, List.nil_append] at hgW hcan q1 ⊢
            have hc0' : ¬ c1 < 0 := by omega
            have hmn : min lo1 (B.length + 5 + J1.length) = lo1 := by omega
            have hmn2 : min lo1 (B.length + 5 + (J1.length + O.length)) = lo1 := by omega
            simp [A103_l1, A103_r15, A103_r16, A103_r17, A103_r18, A103_r19, A103_r20, A103_r21, A103_r22, A103_r23, A103_r24, regionA_st s103_r21, frI, hlt, w1, w2, w3, w4, hgW, hgO, onV, onF, hk0, hkT, hkl3, hrr, hneg, hcan, q1, hcells, hcells1, hcells', hc0', k0, hkt, hdk, Kd.av, hsum, ha, hmn, hmn2]
          · obtain ⟨h1, ids1, hs1, hi1⟩ := hpv'.settle (C := pre5 t today wh days B es1) (pre5_len B es1) 6
            obtain ⟨h2, ids2, hs2, hi2⟩ := (hp0.keep hKO).settle (C := pre5 t today wh days B es1) (pre5_len B es1) 6
            obtain ⟨J3, hz1, hz2, hz3⟩ := frzAll_keep (C := pre5 t today wh days B es1) (ids1 ++ ids2) (J1 ++ O) (fun i hi => by
              rw [pre5_len]
              rcases List.mem_append.1 hi with hi | hi
              · exact hi1 i hi
              · exact hi2 i hi)
            have hth := fun s => than_ev (c := kd.fee + c1) (c' := cost) (h := h1) (h' := h2) (l := ⟨kind, d - i⟩ :: l1) (l' := l0) s
            have hKO3 := hKO.trans hz2
            have htl := than_lt (c := kd.fee + c1) (c' := cost) (n := ((⟨kind, d - i⟩ :: l1 : List Pp).length : Int)) (n' := (l0.length : Int)) (by simp; omega) (by omega)
            have hcb : 16 * (kd.fee + c1) + (((⟨kind, d - i⟩ :: l1 : List Pp).length : Nat) : Int) = costP t today l' ⟨kind, d - i⟩ := by rw [← hbig]; simp
            rw [hcb, hcv0] at htl
            generalize thanV (kd.fee + c1) (((⟨kind, d - i⟩ :: l1 : List Pp).length : Nat) : Int) cost (l0.length : Int) = th at *
            have hc0' : ¬ c1 < 0 := by omega
            have hc00' : ¬ cost < 0 := by omega
            have hmn : min lo1 (B.length + 5 + J1.length) = lo1 := by omega
            have hmn2 : min lo1 (B.length + 5 + (J1.length + O.length)) = lo1 := by omega
            by_cases hlt2 : th < 0
            · have hmin : min acc (costP t today l' ⟨kind, d - i⟩) = costP t today l' ⟨kind, d - i⟩ := by have := htl.1 hlt2; omega
              refine next (costP t today l' ⟨kind, d - i⟩) (kd.fee + c1) pv' es1 J3 lo1 (by rw [hacc0, hmin]) hcle (hMO.keep hz2) hKO3 (hBb.keep hz2) (by omega) (by rw [hz3]; simp; omega) ?_
              rw [hab] at hcan ⊢
              simp only [stP, wCs, Town.cs, Pp.av, onC, List.cons_append, List.nil_append] at hgW hcan q1 ⊢
              simp [A103_l1, A103_r15, A103_r16, A103_r17, A103_r18, A103_r19, A103_r20, A103_r21, A103_r22, A103_r23, A103_r24, regionA_st s103_r21, frI, hlt, w1, w2, w3, w4, hgW, hgO, hgY, onV, onF, hk0, hkT, hkl3, hrr, hneg, hcan, q1, hcells, hcells1, hcells', hc0', hc00', k0, hkt, hdk, Kd.av, hsum, ha, hmn, hmn2, hs1, hs2, hz1, hth, hlt2]
            · have hmin : min acc (costP t today l' ⟨kind, d - i⟩) = acc := by
                have : ¬ (costP t today l' ⟨kind, d - i⟩ < acc) := fun h => hlt2 (htl.2 h)
                omega
              refine next acc cost pv es1 J3 lo1 (by rw [hacc0, hmin]) ha1 (hMO.keep hz2) hKO3 ⟨l0, hp0.keep hKO3, hl08, .inr ⟨hc00, hch0, hcf0, hcv0⟩⟩ (by omega) (by rw [hz3]; simp; omega) ?_
              rw [hab] at hcan ⊢
              simp only [stP, wCs, Town.cs, Pp.av, onC, List.cons_append, List.nil_append] at hgW hcan q1 ⊢
              simp [A103_l1, A103_r15, A103_r16, A103_r17, A103_r18, A103_r19, A103_r20, A103_r21, A103_r22, A103_r23, A103_r24, regionA_st s103_r21, frI, hlt, w1, w2, w3, w4, hgW, hgO, hgY, onV, onF, hk0, hkT, hkl3, hrr, hneg, hcan, q1, hcells, hcells1, hcells', hc0', hc00', k0, hkt, hdk, Kd.av, hsum, ha, hmn, hmn2, hs1, hs2, hz1, hth, hlt2]
end
end Go.Proofs.Tryd


namespace Go.Proofs.Tryd
open Go Go.Proofs.AM

section
variable {t : Town} {today d k many nk : Int} {wh : Hd} {days : List Int} {last : Option Pp}
def rowsP (d : Int) : Int → List Kd → List Pp
  | _, [] => []
  | k, x :: b => befores k x.days.toNat d ++ rowsP d (k + 1) b
theorem mem_rowsP {p : Pp} : ∀ {b : List Kd} {k : Int}, p ∈ rowsP d k b ↔ ∃ i : Nat, ∃ x, b[i]? = some x ∧ p.kind = k + i ∧ p.first ≤ d ∧ d < p.first + x.days.toNat
  | [], k => by simp [rowsP]
  | x :: b, k => by
    simp only [rowsP, List.mem_append, mem_rowsP (b := b), mem_befores]
    constructor
    · rintro (⟨h1, h2, h3⟩ | ⟨i, y, h1, h2, h3, h4⟩)
      · exact ⟨0, x, rfl, by simp [h1], h2, h3⟩
      · exact ⟨i + 1, y, by simpa using h1, by omega, h3, h4⟩
    · rintro ⟨i, y, h1, h2, h3, h4⟩
      cases i with
      | zero =>
        simp only [List.getElem?_cons_zero, Option.some.injEq] at h1
        subst h1
        exact .inl ⟨by simpa using h2, h3, h4⟩
      | succ i =>
        exact .inr ⟨i, y, by simpa using h1, by omega, h3, h4⟩
def frO (B : List AObj) (k many nk kind : Int) (lc kc : List AV) (ex : List (Nat × TV)) (cost : Int) (pv : AV) : Fr :=
  { ts := [(0, .v (.int .i64 k)), (1, .v (.int .i64 many)), (3, .v (.ref (B.length + 1) 0 0)), (5, .v (.ref (B.length + 4) 0 0)), (6, .v (.ref (B.length + 3) 0 0)), (9, .loc 9 0), (10, .loc 10 0), (11, .loc 11 0), (14, .loc 14 0), (84, .v (.int .i64 nk)), (85, .v (.int .i64 kind))] ++ ex, bs := [(9, lc), (10, [.int .i64 0, .lst (some true) true 0 []]), (11, kc), (14, [.int .i64 cost, pv])] }
theorem on_out (g : Good t) (hf : t.Fits) (hto : amid today 0 999 = true) {e : Int} {ds l' : List Int} (hsk : skipD t e ds = d :: l') (hl7 : l'.length ≤ 7) {B : List AObj} (hrec : RecP t today wh days B e d k many l') (hla : lastOk t last) (hee : e = endO t last) (hd0 : 0 ≤ d) (hd : d ≤ 999) (hkr : 0 ≤ k ∧ k ≤ 8) (hmr : 0 ≤ many ∧ many < 8) {kx : Nat} (hkx : (kx : Int) = k) (hdx : ∃ r, (row In.av days).drop kx = .int .i64 d :: r) (hkl : kx < days.length) {kc : List AV} : ∀ (b a : List Kd) (kind acc cost : Int) (pv : AV) (es : List (List AV × AV)) (J : List AObj) (lo : Nat), kind = a.length → t.kinds = a ++ b → acc ≤ never → MapOk t today days (B.length + 5) J es → BillV t today (B.length + 5) J e ds acc cost pv → B.length ≤ lo → lo ≤ B.length + 5 + J.length →
    EndI t today wh days B (frO B k many t.kinds.length t.kinds.length (lastCs last) kc [(86, .v (.bool false))]) (.exit 2) e ds (accV (costP t today l') (fitB t today e d) acc (rowsP d kind b)) J
      (loopC E0 [0, 1, 3, 5, 6, 9, 10, 11, 14, 84, 85] [9, 10, 11, 14] A103_l2 (frO B k many t.kinds.length kind (lastCs last) kc [] cost pv) (stP t today wh days B es J lo))
  | [], a, kind, acc, cost, pv, es, J, lo, hka, eq, ha1, hM, hB, hl0, hl1 => by
    simp only [List.append_nil] at eq
    subst hka
    refine ⟨cost, pv, es, J, lo, ?_, hM, Keep.refl _, hB, ha1, hl0, hl1⟩
    rw [loopC_eq]
    simp [A103_l2, A103_r11, frO, eq]
  | x :: b, a, kind, acc, cost, pv, es, J, lo, hka, eq, ha1, hM, hB, hl0, hl1 => by
    subst hka
    have hlt : a.length < t.kinds.length := by rw [eq]; simp
    have hx : t.kinds[a.length]? = some x := by rw [eq]; simp
    have hdk := row_get Kd.len hx
    have hnk := amid_iff.1 g.n
    have hkd := List.all_eq_true.1 g.kinds x (by rw [eq]; simp)
    simp only [kdB, Bool.and_eq_true, amid_iff] at hkd
    have hdt : ((x.days.toNat : Nat) : Int) = x.days := by omega
    obtain ⟨cost1, pv1, es1, J1, lo1, i1, i2, i3, i4, i5, i6, i7⟩ := on_in (nk := t.kinds.length) (kind := a.length) (kc := kc) g hf hto hsk hl7 hrec hla hee (kd := x) (by simpa using hx) (by omega) hd0 hd hkr (by omega) hkx hdx hkl x.days.toNat 0 acc cost pv es J lo (by omega) (Int.le_refl _) ha1 hM hB hl0 hl1
    rw [Int.sub_zero] at i4 i5
    obtain ⟨cost2, pv2, es2, J2, lo2, j1, j2, j3, j4, j5, j6, j7⟩ := on_out g hf hto hsk hl7 hrec hla hee hd0 hd hkr hmr hkx hdx hkl (kc := kc) b (a ++ [x]) _ _ cost1 pv1 es1 J1 lo1 rfl (by simp [eq]) i5 i2 i4 i6 i7
    have hgW := fun es J => pre5_1 (t := t) (today := today) (wh := wh) (days := days) B es J
    have w1 : IntKind.wrap .i64 ((a.length : Int) + 1) = (a.length : Int) + 1 := wrap_small (by omega) (by omega)
    have hm8 : (many == 8) = false := by simp; omega
    have hadd : ((a ++ [x]).length : Int) = (a.length : Int) + 1 := by simp
    rw [hadd] at j1 j4 j5
    refine ⟨cost2, pv2, es2, J2, lo2, ?_, j2, i3.trans j3, by simp only [rowsP, accV_append]; exact j4, by simp only [rowsP, accV_append]; exact j5, j6, j7⟩
    rw [← j1]
    have hln : codeE E0 A103_l2 (frO B k many t.kinds.length a.length (lastCs last) kc [] cost pv) (stP t today wh days B es J lo) = some (.norm, frO B k many t.kinds.length ((a.length : Int) + 1) (lastCs last) kc [] cost1 pv1, stP t today wh days B es1 J1 lo1) := by
      simp only [stP, wCs, Town.cs, frI, frO, List.cons_append, List.nil_append, List.append_nil] at hgW i1 ⊢
      simp [A103_l2, A103_r11, A103_r12, A103_r13, A103_r14, A103_r25, hlt, hgW, hm8, hdk, Kd.av, i1, w1]
    exact loopC_norm (b := A103_l2) hln
theorem PV.settle_old {K : Nat} {J : List AObj} {v : AV} {l : List Pp} (h : PV K J v l) (hp : List AObj) (s : Nat) (hs : K + J.length ≤ s) (d : Nat) : AM.settle hp s false (d + 1) v = some (v, []) := by
  rcases h with ⟨h, rfl, _⟩ | ⟨j, ver, rfl, h⟩
  · have e2 : ∀ (hp : List AObj) (s d : Nat) (refs : Bool), mapS (AM.settle hp s refs d) (row Pp.av l) = some (row Pp.av l, []) := fun hp s d refs => mapS_plain (fun c hc => plainA.scal (row_scal Pp.sc _ c hc) d)
    simp [lstA, e2]
  · have hj : j < J.length := by
      cases hj : J[j]? with
      | none => rw [hj] at h; cases h
      | some o => exact (List.getElem?_eq_some_iff.1 hj).1
    have : K + j < s := by omega
    simp [this]
theorem acc_V (g : Good t) {e : Int} {l l' : List Int} (hsk : skipD t e l = d :: l') : accV (costP t today l') (fitB t today e d) never (rowsP d 0 t.kinds) = V t today 8 e l := by
  refine (accV_least _ _ _ Least.none).unique ((V_least hsk).congr fun s => ?_)
  constructor
  · rintro ⟨p, hp, rfl⟩
    refine .inr ⟨p, ?_, hp, rfl⟩
    have hp' := hp
    simp only [fitB, Bool.and_eq_true, decide_eq_true_eq] at hp'
    have hpp := hp'.1.1.1.1.1
    obtain ⟨y, e1, _, e2, c1, c2, c3, c4⟩ := kd_of hpp g.kinds
    have := hp'.1.1.1.2
    unfold endB at this
    exact mem_rowsP.2 ⟨p.kind.toNat, y, e1, by omega, hp'.1.1.1.1.2, by omega⟩
  · rintro (h | ⟨p, _, hp, rfl⟩)
    · exact h.elim
    · exact ⟨p, hp, rfl⟩
end
end Go.Proofs.Tryd


namespace Go.Proofs.Tryd
open Go Go.Proofs.AM

section
variable {t : Town} {today : Int} {wh : Hd} {days : List Int}
theorem pairwise_drop {l : List Int} {a b : List Int} {d : Int} (h : l.Pairwise (· ≤ ·)) (e : l = a ++ d :: b) : ∀ x ∈ b, d ≤ x := by
  subst e
  have := (List.pairwise_append.1 h).2.1
  exact (List.pairwise_cons.1 this).1
theorem on_nil (g : Good t) (hf : t.Fits) (hn : days.length ≤ 8) (hds : ∀ x ∈ days, 0 ≤ x ∧ x ≤ 999) (B : List AObj) (k many : Nat) (last : Option Pp) (es : List (List AV × AV)) (J : List AObj) (lo : Nat) (hkl : k ≤ days.length) (hla : lastOk t last) (hq : ∀ q, last = some q → ∀ x ∈ days.drop k, q.first ≤ x) (hs0 : skipD t (endO t last) (days.drop k) = []) (hM : MapOk t today days (B.length + 5) J es) (hl0 : B.length ≤ lo) (hl1 : lo ≤ B.length + 5 + J.length) :
    ∃ cost pv es' J' lo', callE E0 false (onC B.length) [.int .i64 k, .int .i64 many, .agg (lastCs last)] (stP t today wh days B es J lo) = some (.agg [.int .i64 cost, pv], stP t today wh days B es' J' lo') ∧ MapOk t today days (B.length + 5) J' es' ∧ Keep J J' ∧ BillV t today (B.length + 5) J' (endO t last) (days.drop k) (V t today 8 (endO t last) (days.drop k)) cost pv ∧ B.length ≤ lo' ∧ lo' ≤ B.length + 5 + J'.length := by
  have hgW := pre5_1 (t := t) (today := today) (wh := wh) (days := days) B es J
  have hgF := pre5_2 (t := t) (today := today) (wh := wh) (days := days) B es J
  obtain ⟨a', q1, q2, q3⟩ := on_skip (ion := B.length + 4) (iby := B.length + 3) (many := many) (lo := B.length + (5 + J.length)) g hf hn hla (fun x hx => (hds x hx).1) (by simp; omega) hgW hgF (days.drop k) (days.take k) k (by simp; omega) (by simp) hq
  rw [hs0, List.append_nil] at q1
  rw [← q1] at q3
  refine ⟨0, .lst (some true) true 0 [], es, J, lo, ?_, hM, Keep.refl _, ⟨[], .inl ⟨⟨some true, true⟩, rfl, fun _ => rfl⟩, by simp, .inr ⟨Int.le_refl _, .nil hs0, rfl, by rw [V_nil hs0]; rfl⟩⟩, hl0, hl1⟩
  obtain ⟨la, lb, hab⟩ : ∃ a b, lastCs last = [.int .i64 a, .int .i64 b] := by
    cases last with
    | none => exact ⟨_, _, rfl⟩
    | some q => exact ⟨_, _, rfl⟩
  unfold onC
  rw [callE0 (by decide) (af := A103) rfl rfl]
  have htk : (pre5 t today wh days B es ++ J).take (B.length + 5 + J.length) = pre5 t today wh days B es ++ J := List.take_of_length_le (by simp)
  rw [hab] at q3 ⊢
  have e5 : B.length + (5 + J.length) = B.length + 5 + J.length := by omega
  rw [e5] at q3
  simp only [stP, wCs, Town.cs, List.cons_append, List.nil_append] at hgW q3 ⊢
  simp [A103, A103_r0, A103_r3, A103_r4, finish, q3, hgW, htk]
set_option maxHeartbeats 4000000 in
theorem on_ev (g : Good t) (hf : t.Fits) (hto : amid today 0 999 = true) (hn : days.length ≤ 8) (hds : ∀ x ∈ days, 0 ≤ x ∧ x ≤ 999) (hso : days.Pairwise (· ≤ ·)) (B : List AObj) : ∀ (n k many : Nat) (last : Option Pp) (es : List (List AV × AV)) (J : List AObj) (lo : Nat), k ≤ days.length → many ≤ k → lastOk t last → (∀ q, last = some q → ∀ x ∈ days.drop k, q.first ≤ x) → (skipD t (endO t last) (days.drop k)).length ≤ n → MapOk t today days (B.length + 5) J es → B.length ≤ lo → lo ≤ B.length + 5 + J.length →
    ∃ cost pv es' J' lo', callE E0 false (onC B.length) [.int .i64 k, .int .i64 many, .agg (lastCs last)] (stP t today wh days B es J lo) = some (.agg [.int .i64 cost, pv], stP t today wh days B es' J' lo') ∧ MapOk t today days (B.length + 5) J' es' ∧ Keep J J' ∧ BillV t today (B.length + 5) J' (endO t last) (days.drop k) (V t today 8 (endO t last) (days.drop k)) cost pv ∧ B.length ≤ lo' ∧ lo' ≤ B.length + 5 + J'.length := by
  intro n
  induction n with
  | zero =>
    intro k many last es J lo hkl hmk hla hq hs hM hl0 hl1
    exact on_nil g hf hn hds B k many last es J lo hkl hla hq (List.eq_nil_of_length_eq_zero (by omega)) hM hl0 hl1
  | succ n ih =>
    intro k many last es J lo hkl hmk hla hq hs hM hl0 hl1
    cases hsk : skipD t (endO t last) (days.drop k) with
    | nil => 
      have := on_nil (today := today) (wh := wh) g hf hn hds B k many last es J lo hkl hla hq hsk hM hl0 hl1
      rw [hsk] at *
      exact this
    | cons d l' =>
      have hgW := fun es J => pre5_1 (t := t) (today := today) (wh := wh) (days := days) B es J
      have hgF := fun es J => pre5_2 (t := t) (today := today) (wh := wh) (days := days) B es J
      have hgM := fun es J => pre5_0 (t := t) (today := today) (wh := wh) (days := days) B es J
      obtain ⟨a', q1, q2, q3⟩ := on_skip (ion := B.length + 4) (iby := B.length + 3) (many := many) (lo := B.length + 5 + J.length) g hf hn hla (fun x hx => (hds x hx).1) (by simp) (hgW es J) (hgF es J) (days.drop k) (days.take k) k (by simp; omega) (by simp) hq
      rw [hsk] at q1 hs
      have hdl : days.drop a'.length = d :: l' := by rw [q1, List.drop_left]
      have hal : a'.length < days.length := by rw [q1]; simp
      have hka : k ≤ a'.length := by simp at q2; omega
      have hdd := drop_ints q1
      have hdr := hds d (by rw [q1]; simp)
      have hl7 : l'.length ≤ 7 := by
        have := congrArg List.length q1
        simp at this
        omega
      have hsk2 : skipD t (endO t last) (days.drop a'.length) = d :: l' := by rw [hdl, ← hsk, skipD_idem]
      have hVe : V t today 8 (endO t last) (days.drop a'.length) = V t today 8 (endO t last) (days.drop k) := V_of_skip (by rw [hsk2, hsk]) (fun _ => rfl) 8
      have hbill : ∀ {J : List AObj} {v cost : Int} {pv : AV}, BillV t today (B.length + 5) J (endO t last) (days.drop a'.length) v cost pv → BillV t today (B.length + 5) J (endO t last) (days.drop k) v cost pv := fun ⟨l, h1, h2, h3⟩ => ⟨l, h1, h2, h3.imp id fun ⟨x1, x2, x3, x4⟩ => ⟨x1, x2.of_skip (by rw [hsk2, hsk]) (fun _ _ h => h), x3, x4⟩⟩
      have hne : ¬ (a'.length : Int) = days.length := by omega
      have hbe : ((a'.length : Int) == (days.length : Int)) = false := by simpa using hne
      obtain ⟨la, lb, hab⟩ : ∃ a b, lastCs last = [.int .i64 a, .int .i64 b] := by
        cases last with
        | none => exact ⟨_, _, rfl⟩
        | some q => exact ⟨_, _, rfl⟩
      obtain ⟨r, hr⟩ := findK_tot hM.keys a'.length many la lb
      have htk : (pre5 t today wh days B es ++ J).take (B.length + 5 + J.length) = pre5 t today wh days B es ++ J := List.take_of_length_le (by simp)
      cases r with
      | some v =>
        obtain ⟨cost, pv, rfl, hb⟩ := hM.ok a'.length many last la lb v hla hab hr
        rw [hVe] at hb
        refine ⟨cost, pv, es, J, lo, ?_, hM, Keep.refl _, hbill hb, hl0, hl1⟩
        have hpc := hb.cells
        have hset : ∀ hp : List AObj, AM.settle hp (B.length + 5 + J.length) false 7 pv = some (pv, []) := fun hp => by
          obtain ⟨l, h1, _⟩ := hb
          exact h1.settle_old hp _ (Nat.le_refl _) 6
        have hgM' := hgM es J
        have hgW' := hgW es J
        unfold onC
        rw [callE0 (by decide) (af := A103) rfl rfl]
        rw [hab] at q3 ⊢
        simp only [keyA] at hr
        simp only [stP, wCs, Town.cs, List.cons_append, List.nil_append] at hgW' q3 ⊢
        simp [A103, A103_r0, A103_r3, A103_r4, A103_r5, A103_r6, A103_r7, A103_r8, finish, q3, hgW', hgM', htk, hbe, hr, hpc, hset]
      | none =>
        have hrec : RecP t today wh days B (endO t last) d (a'.length : Int) many l' := fun p hp es J lo hM hl0 hl1 => by
          have hp' := hp
          simp only [fitB, Bool.and_eq_true, decide_eq_true_eq] at hp'
          have hpp := hp'.1.1.1.1.1
          have hd1 : days.drop (a'.length + 1) = l' := by
            rw [← List.drop_drop, hdl]
            rfl
          have hmem := pairwise_drop hso q1
          have := ih (a'.length + 1) (many + 1) (some p) es J lo (by omega) (by omega) hpp (fun q hqe x hx => by
            cases hqe
            rw [hd1] at hx
            have := hmem x hx
            omega) (by
            rw [hd1]
            have := skipD_len t (endB t p) l'
            simp at hs
            simp only [endO]
            omega) hM hl0 hl1
          rw [hd1] at this
          obtain ⟨cost, pv, es', J', lo', i1, i2, i3, i4, i5, i6⟩ := this
          refine ⟨cost, pv, es', J', lo', ?_, i2, i3, ?_, i5, i6⟩
          · simpa [lastCs] using i1
          · rw [show V t today 7 (endB t p) l' = V t today 8 (endB t p) l' from V_fuel t today 7 8 _ _ hl7 (by omega)]
            exact i4
        have hB0 : BillV t today (B.length + 5) J (endO t last) (days.drop a'.length) never (-1) (.lst (some true) true 0 []) := ⟨[], .inl ⟨⟨some true, true⟩, rfl, fun _ => rfl⟩, by simp, .inl ⟨rfl, rfl⟩⟩
        obtain ⟨cost1, pv1, es1, J1, lo1, o1, o2, o3, o4, o5, o6, o7⟩ := on_out (kc := keyA a'.length many la lb) (many := (many : Int)) g hf hto hsk2 hl7 hrec hla rfl hdr.1 hdr.2 (by omega) (by omega) rfl ⟨_, hdd⟩ hal t.kinds [] 0 never (-1) (.lst (some true) true 0 []) es J (B.length + 5 + J.length) rfl rfl (Int.le_refl _) hM hB0 (by omega) (Nat.le_refl _)
        rw [acc_V g hsk2] at o4 o5
        obtain ⟨es2, u1, u2⟩ := o2.upd g.kinds (k := a'.length) (many := many) hla hab o4
        rw [hVe] at o4
        refine ⟨cost1, pv1, es2, J1, min lo B.length, ?_, u2, o3, hbill o4, by omega, by omega⟩
        have hpc := o4.cells
        have hgM' := hgM es J
        have hgW' := hgW es J
        have hgM1 := hgM es1 J1
        have hgW1 := hgW es1 J1
        have hset := fun es' => pre5_set (t := t) (today := today) (wh := wh) (days := days) B es1 J1 es'
        unfold onC
        rw [callE0 (by decide) (af := A103) rfl rfl]
        rw [hab] at q3 o1 ⊢
        simp only [keyA] at hr o1 u1
        simp only [stP, wCs, Town.cs, frO, List.cons_append, List.nil_append, List.append_nil] at hgW' hgW1 q3 o1 ⊢
        have hnl : ¬ (B.length + 5 + J.length ≤ min lo1 B.length) := by omega
        have hmm : min lo (min lo1 B.length) = min lo B.length := by omega
        simp [A103, A103_r0, A103_r3, A103_r4, A103_r5, A103_r6, A103_r7, A103_r9, A103_r10, A103_r26, A103_r27, finish, q3, hgW', hgM', hgM1, hgW1, hbe, hr, hpc, o1, u1, mods, hset, hnl, hmm]
end
end Go.Proofs.Tryd


namespace Go.Proofs.Tryd
open Go Go.Proofs.AM

section
variable {g : Nat} {cl : List AV} {h : Hd} {l : List Int} {pr : Int → Bool} {st : St}
theorem idx111F_loop (hl : l.length ≤ 9223372036854775807) (hcl : ∀ hp d, mapS (AM.settle hp 0 true (d + 4)) cl = some (cl, [])) (hg : ∀ x ∈ l, callE E0 false (.fn g cl []) [.int .i64 x] st = some (.bool (pr x), st)) : ∀ (b a : List Int) (k : Int), k = a.length → l = a ++ b →
    (b.any pr = true → ∃ n : Int, 0 ≤ n ∧ loopC E0 [0, 1, 7, 8] [] A111_l0 { ts := [(0, .v (lstA h In.av l)), (1, .v (.fn g cl [])), (7, .v (.int .i64 l.length)), (8, .v (.int .i64 k))], bs := [] } st = some (.ret, { ts := [(4, .v (.int .i64 n))], bs := [] }, st)) ∧
    (b.any pr = false → loopC E0 [0, 1, 7, 8] [] A111_l0 { ts := [(0, .v (lstA h In.av l)), (1, .v (.fn g cl [])), (7, .v (.int .i64 l.length)), (8, .v (.int .i64 k))], bs := [] } st = some (.exit 0, { ts := [(0, .v (lstA h In.av l)), (1, .v (.fn g cl [])), (7, .v (.int .i64 l.length)), (8, .v (.int .i64 l.length)), (9, .v (.bool false))], bs := [] }, st))
  | [], a, k, hk, e => by
    simp only [List.append_nil] at e
    subst e hk
    refine ⟨fun h => by simp at h, fun _ => ?_⟩
    rw [loopC_eq]
    simp [A111_l0, A111_r2]
  | x :: b, a, k, hk, e => by
    subst hk
    have hlt : a.length < l.length := by rw [e]; simp
    have hd : (row In.av l).drop (a.length * 1) = In.av x ++ row In.av b := by rw [e, row_drop In.len]; rfl
    have hw : IntKind.wrap .i64 ((a.length : Int) + 1) = (a.length : Int) + 1 := wrap_small (by omega) (by omega)
    have hgx := hg x (by rw [e]; simp)
    try simp only [In.av] at hgx
    try simp only [Nat.mul_one] at hd
    cases hp : pr x with
    | true =>
      rw [hp] at hgx
      refine ⟨fun _ => ⟨a.length, by omega, ?_⟩, fun h => by simp [hp] at h⟩
      rw [loopC_eq]
      simp [A111_l0, A111_r2, A111_r3, A111_r4, A111_r5, A111_r6, hlt, hd, hw, In.av, hcl, hgx]
    | false =>
      rw [hp] at hgx
      rw [loopC_norm (fr' := { ts := [(0, .v (lstA h In.av l)), (1, .v (.fn g cl [])), (7, .v (.int .i64 l.length)), (8, .v (.int .i64 ((a ++ [x]).length : Int)))], bs := [] }) (st' := st) (by
        simp [A111_l0, A111_r2, A111_r3, A111_r4, A111_r5, A111_r6, hlt, hd, hw, In.av, hcl, hgx])]
      have ih := idx111F_loop hl hcl hg b (a ++ [x]) _ rfl (by simp [e])
      exact ⟨fun h => ih.1 (by simpa [hp] using h), fun h => ih.2 (by simpa [hp] using h)⟩
theorem contains108F_ev (hl : l.length ≤ 9223372036854775807) (hcl : ∀ hp d, mapS (AM.settle hp 0 true (d + 4)) cl = some (cl, [])) (hg : ∀ x ∈ l, ∀ lo, callE E0 false (.fn g cl []) [.int .i64 x] { st with low := lo } = some (.bool (pr x), { st with low := lo })) :
    callE E0 false (.fn 108 [] []) [lstA h In.av l, .fn g cl []] st = some (.bool (l.any pr), st) := by
  have hidx : ∃ n : Int, decide (0 ≤ n) = l.any pr ∧ ∀ lo, callE E0 false (.fn 111 [] []) [lstA h In.av l, .fn g cl []] { st with low := lo } = some (.int .i64 n, { st with low := lo }) := by
    have hlp := idx111F_loop (h := h) (st := { st with low := st.heap.length }) hl hcl (fun x hx => hg x hx _) l [] 0 rfl rfl
    cases ha : l.any pr with
    | true =>
      obtain ⟨n, hn, hlp⟩ := hlp.1 ha
      refine ⟨n, by simpa using hn, fun lo => ?_⟩
      rw [callE0 (by decide) (af := A111) rfl rfl]
      simp [A111, A111_r0, A111_r1, A111_r7, finish, hlp]
    | false =>
      have hlp := hlp.2 ha
      refine ⟨-1, by simp, fun lo => ?_⟩
      rw [callE0 (by decide) (af := A111) rfl rfl]
      simp [A111, A111_r0, A111_r1, A111_r7, finish, hlp]
  obtain ⟨n, hn, hidx⟩ := hidx
  rw [callE0 (by decide) (af := A108) rfl rfl]
  simp [A108, A108_r0, A108_r1, finish, hcl, hidx, hn]
end
section
variable {t : Town} {today : Int} {wh : Hd} {days : List Int}
/-- A bill that is right for all days. -/
def BillW (t : Town) (today : Int) (days : List Int) (cost : Int) (l : List Pp) : Prop :=
  l.length ≤ 8 ∧ ((cost = -1 ∧ priceV t today days = never) ∨ (0 ≤ cost ∧ Chain t today (-1000) days l ∧ cost = feeSum t l ∧ 16 * cost + l.length = priceV t today days ∧ days.any (barredB t) = false))
theorem PV.settle_own {K : Nat} {C J : List AObj} {v : AV} {l : List Pp} (hC : C.length = K) (h : PV K J v l) (s : Nat) (hs : s ≤ K) (d : Nat) : ∃ h' ids, AM.settle (C ++ J) s false (d + 1) v = some (lstA h' Pp.av l, ids) := by
  have e1 := row_len Pp.len l
  have e2 : ∀ (hp : List AObj) (s d : Nat) (refs : Bool), mapS (AM.settle hp s refs d) (row Pp.av l) = some (row Pp.av l, []) := fun hp s d refs => mapS_plain (fun c hc => plainA.scal (row_scal Pp.sc _ c hc) d)
  subst hC
  rcases h with ⟨h, rfl, _⟩ | ⟨j, ver, rfl, h⟩
  · exact ⟨h, [], by simp [lstA, e2]⟩
  · have hg : (C ++ J)[C.length + j]? = J[j]? := by simp [List.getElem?_append_right]
    have htk : (row Pp.av l).take (l.length * 2) = row Pp.av l := List.take_of_length_le (Nat.le_of_eq e1)
    have hlt : ¬ C.length + j < s := by omega
    refine ⟨⟨some false, false⟩, [C.length + j], ?_⟩
    cases hj : J[j]? with
    | none => rw [hj] at h; cases h
    | some o =>
      rw [hj] at h
      cases o <;> simp [cont] at h <;> simp [hg, hj, h.1, h.2, e1, htk, e2, lstA, hlt]
theorem plan_ev (g : Good t) (hf : t.Fits) (hto : amid today 0 999 = true) (hn : days.length ≤ 8) (hds : ∀ x ∈ days, 0 ≤ x ∧ x ≤ 999) (hso : days.Pairwise (· ≤ ·)) (B : List AObj) (lo : Nat) (hlo : B.length ≤ lo) : ∃ cost v l H lo' h' ids, callE E0 false (.fn 98 [] []) [.agg (wCs t B.length today wh days)] { heap := B ++ [.map []], low := lo } = some (.agg [.int .i64 cost, v], { heap := B ++ H, low := lo' }) ∧ B.length ≤ lo' ∧ AM.settle (B ++ H) B.length false 7 v = some (lstA h' Pp.av l, ids) ∧ v.cells = some [v] ∧ BillW t today days cost l := by
  have hhe := held_ev (m := B.length) (today := today) (wh := wh) g hf hn
  have hl8 : (freeL t days).length = 8 := by simp [freeL]; omega
  have hda : (row In.av days).length = days.length := by rw [row_len In.len]; omega
  have hfp : ∀ (hp : List AObj) (s d : Nat) (refs : Bool), mapS (AM.settle hp s refs d) (freeL t days) = some (freeL t days, []) := fun hp s d refs => mapS_plain (fun c hc => plainA.scal (by
    simp only [freeL, List.mem_append, List.mem_map, List.mem_replicate] at hc
    rcases hc with ⟨x, _, rfl⟩ | ⟨_, rfl⟩ <;> rfl) d)
  have hcn := fun (st : St) => contains108F_ev (h := wh) (g := 73) (cl := [.agg (t.cs ++ [.map B.length])]) (pr := barredB t) (st := st) (l := days) (by omega) (fun hp d => by simp [Town.cs]) (fun x hx lo => isBarredM_ev hf x _)
  simp only [Town.cs, List.cons_append, List.nil_append] at hcn
  have htk0 : ∀ (x : AObj) (l : List AObj), List.take (B.length + 1) (B ++ x :: l) = B ++ [x] := fun x l => by simp [List.take_append, List.take_of_length_le]
  by_cases hbar : days.any (barredB t) = true
  · refine ⟨-1, .lst (some true) true 0 [], [], [.map []], lo, ⟨some true, true⟩, [], ?_, hlo, rfl, rfl, by simp, .inl ⟨rfl, by rw [priceV, if_pos hbar]⟩⟩
    rw [callE0 (by decide) (af := A98) rfl rfl]
    simp only [wCs, Town.cs, List.cons_append, List.nil_append] at hhe ⊢
    simp [A98, A98_r0, A98_r1, A98_r2, A98_r3, A98_r4, A98_r5, A98_r6, finish, alloc, hhe, hl8, hfp, hcn, hbar, htk0, get_app, set_app, mods]
  · have hbar' : days.any (barredB t) = false := by simpa using hbar
    have hpv : priceV t today days = V t today 8 (-1000) days := by rw [priceV, if_neg hbar]
    obtain ⟨cost, pv, es', J', lo', o1, o2, o3, o4, o5, o6⟩ := on_ev (today := today) (wh := wh) g hf hto hn hds hso B 8 0 0 none [] [] (B.length + 1) (by omega) (Nat.le_refl _) trivial (fun q h => by cases h) (by
      have := skipD_len t (-1000) days
      simp only [endO, List.drop_zero]
      omega) ⟨fun kv h => by simp at h, fun k many last c d v _ _ h => by simp [findK] at h⟩ (by omega) (by simp)
    have hpc := o4.cells
    obtain ⟨l, hl1, hl2, hl3⟩ := o4
    simp only [endO] at hl3
    rw [List.drop_zero, ← hpv] at hl3
    have hW : BillW t today days cost l := ⟨hl2, hl3.imp id fun ⟨x1, x2, x3, x4⟩ => ⟨x1, x2, x3, x4, hbar'⟩⟩
    obtain ⟨h1, ids1, hs1⟩ := hl1.settle_own (C := pre5 t today wh days B es') (pre5_len B es') (B.length + 1) (by omega) 6
    obtain ⟨h2, ids2, hs2⟩ := hl1.settle_own (C := pre5 t today wh days B es') (pre5_len B es') B.length (by omega) 6
    have htk : (pre5 t today wh days B es' ++ J').take (B.length + 1) = B ++ [.map es'] := by simp [pre5, List.take_append, List.take_of_length_le]
    have hpre : ∃ H, pre5 t today wh days B es' ++ J' = B ++ H := ⟨_, by rw [pre5, List.append_assoc]⟩
    simp only [onC, stP] at o1
    generalize pre5 t today wh days B es' ++ J' = HH at *
    simp only [pre5, List.append_nil, onV, onF, wCs, Town.cs, lastCs, List.cons_append, List.nil_append, Int.natCast_zero] at o1
    by_cases hlo1 : B.length + 1 ≤ lo'
    · refine ⟨cost, lstA h1 Pp.av l, l, [.map es'], lo, h1, [], ?_, hlo, by simp, rfl, hW⟩
      rw [callE0 (by decide) (af := A98) rfl rfl]
      simp only [wCs, Town.cs, List.cons_append, List.nil_append] at hhe ⊢
      simp [A98, A98_r0, A98_r1, A98_r2, A98_r3, A98_r4, A98_r5, A98_r6, A98_r7, finish, alloc, hhe, hl8, hfp, hcn, hbar', get_app, set_app, mods, o1, hpc, hs1, htk, hlo1]
    · obtain ⟨H, rfl⟩ := hpre
      refine ⟨cost, pv, l, H, min lo lo', h2, ids2, ?_, by omega, hs2, hpc, hW⟩
      rw [callE0 (by decide) (af := A98) rfl rfl]
      simp only [wCs, Town.cs, List.cons_append, List.nil_append] at hhe ⊢
      simp [A98, A98_r0, A98_r1, A98_r2, A98_r3, A98_r4, A98_r5, A98_r6, A98_r7, finish, alloc, hhe, hl8, hfp, hcn, hbar', get_app, set_app, mods, o1, hpc, hlo1]
theorem planned_ev (g : Good t) (hf : t.Fits) (hto : amid today 0 999 = true) (hn : days.length ≤ 8) (hds : ∀ x ∈ days, 0 ≤ x ∧ x ≤ 999) (hso : days.Pairwise (· ≤ ·)) (st : St) : ∃ cost h l, BillW t today days cost l ∧ callE E0 false (.fn 76 [] []) [.agg t.cs, .int .i64 today, lstA wh In.av days] st = some (.agg [.int .i64 cost, lstA h Pp.av l], st) := by
  obtain ⟨cost, v, l, H, lo', h', ids, p1, p2, p3, p4, p5⟩ := plan_ev (today := today) (wh := wh) g hf hto hn hds hso st.heap st.heap.length (Nat.le_refl _)
  refine ⟨cost, h', l, p5, ?_⟩
  have hop := opened_ev t
  have hnl : ¬ (lo' < st.heap.length) := by omega
  rw [callE0 (by decide) (af := A76) rfl rfl]
  simp only [wCs, Town.cs, List.cons_append, List.nil_append] at p1 hop ⊢
  simp [A76, A76_r0, A76_r1, finish, hop, p1, p4, p2, p3]
end
end Go.Proofs.Tryd


namespace Go.Proofs.Tryd
open Go Go.Proofs.AM

theorem rise_facts : ∀ {l : List Int} {e : Int}, -1 ≤ e → riseB e l = true → (∀ x ∈ l, e < x ∧ x ≤ 999) ∧ l.Pairwise (· < ·)
  | [], _, _, _ => by simp
  | n :: l, e, he, h => by
    simp only [riseB, Bool.and_eq_true, amid_iff] at h
    obtain ⟨h1, h2⟩ := rise_facts (l := l) (e := n) (by omega) h.2
    refine ⟨fun x hx => ?_, List.pairwise_cons.2 ⟨fun x hx => (h1 x hx).1, h2⟩⟩
    simp only [List.mem_cons] at hx
    rcases hx with rfl | hx
    · omega
    · have := h1 x hx; omega
theorem want_facts {l : List Int} (h : wantB l = true) : l.length ≤ 8 ∧ (∀ x ∈ l, 0 ≤ x ∧ x ≤ 999) ∧ l.Pairwise (· ≤ ·) := by
  simp only [wantB, Bool.and_eq_true, decide_eq_true_eq] at h
  obtain ⟨h1, h2⟩ := rise_facts (e := -1) (by omega) h.2
  exact ⟨h.1, fun x hx => by have := h1 x hx; omega, h2.imp (fun h => by omega)⟩
section
variable {t : Town} {today : Int} {wh : Hd} {days : List Int}
theorem BillW.facts (hk : t.kinds.all kdB = true) {cost : Int} {l : List Pp} (h : BillW t today days cost l) : (cost < 0 ∧ priceV t today days = never) ∨ (0 ≤ cost ∧ priceV t today days < never ∧ cost = priceV t today days / 16 ∧ (l.length : Int) = priceV t today days % 16 ∧ 0 ≤ priceV t today days) := by
  obtain ⟨h8, h | ⟨h0, hc, hf, he, _⟩⟩ := h
  · exact .inl ⟨by omega, h.2⟩
  · have := hc.fees hk
    have n1 : (never : Int) = 1073741824 := rfl
    right
    refine ⟨h0, ?_, ?_, ?_, ?_⟩ <;> omega
theorem fee_ok (hf : t.Fits) (hc : checkB t = true) (hto : amid today 0 999 = true) (hw : wantB days = true) (st : St) :
    callE E0 false (.fn 29 [] []) [.agg t.cs, .int .i64 today, lstA wh In.av days] st = some (if priceV t today days = never then .tup [.int .i64 0, .int .i64 4] else .tup [.int .i64 (priceV t today days / 16), .int .i64 0], st) := by
  obtain ⟨w1, w2, w3⟩ := want_facts hw
  have g := good_of hc
  have hwe := areWanted_ev (h := wh) (l := days) (by omega)
  have ha := asked_ok hf hc
  simp only [Town.cs, hw] at ha hwe
  obtain ⟨cost, h, l, hb, hp⟩ := planned_ev (wh := wh) g hf hto w1 w2 w3 { heap := st.heap ++ [.map []], low := st.heap.length }
  simp only [Town.cs] at hp
  rw [callE0 (by decide) (af := A29) rfl rfl]
  rcases hb.facts g.kinds with ⟨h0, h1⟩ | ⟨h0, h1, h2, h3, h4⟩
  · rw [if_pos h1]
    simp [A29, A29_r0, A29_r1, A29_r2, A29_r3, A29_r4, A29_r5, A29_r6, A29_r7, regionA_st s29_r1, finish, Town.cs, hwe, ha, hto, hp, h0]
  · have h0' : ¬ cost < 0 := by omega
    rw [if_neg (by omega), ← h2]
    simp [A29, A29_r0, A29_r1, A29_r2, A29_r3, A29_r4, A29_r5, A29_r6, A29_r7, regionA_st s29_r1, finish, Town.cs, hwe, ha, hto, hp, h0']
theorem cheapest_ok (hf : t.Fits) (hc : checkB t = true) (hto : amid today 0 999 = true) (hw : wantB days = true) (st : St) :
    (priceV t today days = never ∧ callE E0 false (.fn 30 [] []) [.agg t.cs, .int .i64 today, lstA wh In.av days] st = some (.tup [.lst (some true) true 0 [], .int .i64 4], st)) ∨
    ∃ h cost l, priceV t today days ≠ never ∧ BillW t today days cost l ∧ 0 ≤ cost ∧ callE E0 false (.fn 30 [] []) [.agg t.cs, .int .i64 today, lstA wh In.av days] st = some (.tup [lstA h Pp.av l, .int .i64 0], st) := by
  obtain ⟨w1, w2, w3⟩ := want_facts hw
  have g := good_of hc
  have hwe := areWanted_ev (h := wh) (l := days) (by omega)
  have ha := asked_ok hf hc
  simp only [Town.cs, hw] at ha hwe
  obtain ⟨cost, h, l, hb, hp⟩ := planned_ev (wh := wh) g hf hto w1 w2 w3 { heap := st.heap ++ [.map []], low := st.heap.length }
  simp only [Town.cs] at hp
  have hs := slc_full Pp.len (h := h) l
  rw [callE0 (by decide) (af := A30) rfl rfl]
  rcases hb.facts g.kinds with ⟨h0, h1⟩ | ⟨h0, h1, h2, h3, h4⟩
  · refine .inl ⟨h1, ?_⟩
    simp [A30, A30_r0, A30_r1, A30_r2, A30_r3, A30_r4, A30_r5, A30_r6, A30_r7, regionA_st s30_r1, finish, Town.cs, hwe, ha, hto, hp, h0]
  · have h0' : ¬ cost < 0 := by omega
    refine .inr ⟨⟨h.nl, true⟩, cost, l, by omega, hb, h0, ?_⟩
    simp [A30, A30_r0, A30_r1, A30_r2, A30_r3, A30_r4, A30_r5, A30_r6, A30_r7, regionA_st s30_r1, finish, Town.cs, hwe, ha, hto, hp, h0', hs]
end
end Go.Proofs.Tryd


namespace Go.Proofs.Tryd
open Go Go.Proofs.AM

attribute [local simp] opsT trOf accOf boxesOf AOp.uses AO.uses objOf heffOf boxOf allPairs AM.befores pairsFrom pairOk AM.ordB hits AX.slot slotsL slotsP AX.slotO Nat.testBit
section
variable {t : Town} {today : Int} {wh : Hd} {days : List Int}
end
end Go.Proofs.Tryd


namespace Go.Proofs.Tryd
open Go Go.Proofs.AM

section
variable {t : Town} {today : Int} {wh : Hd} {days : List Int}
theorem togB_append : ∀ (l a m : List Pp), togB t a (l ++ m) = (togB t a l && togB t (a ++ l) m)
  | [], a, m => by simp [togB]
  | x :: l, a, m => by
    have := togB_append l (a ++ [x]) m
    simp only [List.cons_append, togB, this, List.append_assoc, List.nil_append, Bool.and_assoc]
theorem Chain.all {e : Int} {ds : List Int} {l : List Pp} (h : Chain t today e ds l) : ∀ p ∈ l, paperB t p = true := by
  induction h with
  | nil _ => simp
  | cons h1 h2 _ ih =>
    simp only [fitB, Bool.and_eq_true] at h2
    intro q hq
    simp only [List.mem_cons] at hq
    rcases hq with rfl | hq
    · exact h2.1.1.1.1.1
    · exact ih q hq
theorem Chain.go (hk : t.kinds.all kdB = true) (hpa : 0 ≤ t.pause) {e : Int} {ds : List Int} {l : List Pp} (h : Chain t today e ds l) : ∀ (pr : Option Int), (∀ f, pr = some f → f ≤ e) → goB t today pr l = true := by
  induction h with
  | nil _ => intro pr _; rfl
  | @cons e ds d ds' p l h1 h2 _ ih =>
    intro pr hpr
    simp only [fitB, Bool.and_eq_true, decide_eq_true_eq] at h2
    have hr := end_range h2.1.1.1.1.1 hk
    simp only [goB, stepB, Bool.and_eq_true, decide_eq_true_eq]
    refine ⟨⟨⟨h2.1.1.1.1.1, ?_⟩, h2.1.1.2⟩, ih _ (fun f hf => by cases hf; exact hr.1)⟩
    have h3 := h2.1.2
    cases pr with
    | none => rfl
    | some f =>
      have := hpr f rfl
      simp only [ordB, decide_eq_true_eq]
      omega
theorem Chain.tog (hk : t.kinds.all kdB = true) (hpa : 0 ≤ t.pause) {e : Int} {ds : List Int} {l : List Pp} (h : Chain t today e ds l) : ∀ (pre : List Pp), (∀ q ∈ pre, q ∈ t.held ∨ (q.first ≤ endB t q ∧ endB t q ≤ e)) → togB t pre l = true := by
  induction h with
  | nil _ => intro pr _; rfl
  | @cons e ds d ds' p l h1 h2 _ ih =>
    intro pre hpre
    simp only [fitB, Bool.and_eq_true, decide_eq_true_eq] at h2
    have hr := end_range h2.1.1.1.1.1 hk
    simp only [togB, Bool.and_eq_true]
    have h3 := h2.1.2
    refine ⟨List.all_eq_true.2 fun q hq => ?_, ih _ fun q hq => ?_⟩
    · rcases hpre q hq with hh | ⟨h5, h6⟩
      · exact List.all_eq_true.1 h2.2 q hh
      · unfold goesB
        rw [if_pos (by omega)]
        simp only [decide_eq_true_eq]
        omega
    · simp only [List.mem_append, List.mem_singleton] at hq
      rcases hq with hq | rfl
      · rcases hpre q hq with hh | ⟨h5, h6⟩
        · exact .inl hh
        · exact .inr ⟨h5, by omega⟩
      · exact .inr ⟨hr.1, Int.le_refl _⟩
theorem skipD_split : ∀ {ds : List Int} {e : Int}, ∃ a, ds = a ++ skipD t e ds ∧ ∀ x ∈ a, x ≤ e ∨ covB t t.held x = true
  | [], e => ⟨[], rfl, by simp⟩
  | x :: ds, e => by
    simp only [skipD]
    split
    · rename_i h
      obtain ⟨a, h1, h2⟩ := skipD_split (ds := ds) (e := e)
      refine ⟨x :: a, by rw [List.cons_append, ← h1], fun y hy => ?_⟩
      simp only [List.mem_cons] at hy
      rcases hy with rfl | hy
      · simpa using h
      · exact h2 y hy
    · exact ⟨[], rfl, by simp⟩
theorem Chain.covers {e : Int} {ds : List Int} {l : List Pp} (h : Chain t today e ds l) : ds.Pairwise (· ≤ ·) → ∀ x ∈ ds, x ≤ e ∨ covB t t.held x = true ∨ covB t l x = true := by
  induction h with
  | @nil e ds h1 =>
    intro _ x hx
    obtain ⟨a, h2, h3⟩ := skipD_split (t := t) (ds := ds) (e := e)
    rw [h1, List.append_nil] at h2
    subst h2
    rcases h3 x hx with h | h
    · exact .inl h
    · exact .inr (.inl h)
  | @cons e ds d ds' p l h1 h2 _ ih =>
    intro hso x hx
    obtain ⟨a, h4, h3⟩ := skipD_split (t := t) (ds := ds) (e := e)
    rw [h1] at h4
    simp only [fitB, Bool.and_eq_true, decide_eq_true_eq] at h2
    have hle := pairwise_drop hso h4
    have hc : ∀ y, d ≤ y → y ≤ endB t p → covB t (p :: l) y = true := fun y h5 h6 => by
      have : amid y p.first (endB t p) = true := amid_iff.2 ⟨by omega, h6⟩
      simp [covB, this]
    rw [h4] at hx
    simp only [List.mem_append, List.mem_cons] at hx
    rcases hx with hx | rfl | hx
    · rcases h3 x hx with h | h
      · exact .inl h
      · exact .inr (.inl h)
    · exact .inr (.inr (hc x (Int.le_refl _) h2.1.1.1.2))
    · have hso' : ds'.Pairwise (· ≤ ·) := by
        rw [h4] at hso
        exact (List.pairwise_cons.1 (List.pairwise_append.1 hso).2.1).2
      rcases ih hso' x hx with h | h | h
      · exact .inr (.inr (hc x (hle x hx) h))
      · exact .inr (.inl h)
      · exact .inr (.inr (by
          simp only [covB, List.any_cons, Bool.or_eq_true]
          exact .inr h))
theorem BillW.plan (g : Good t) {cost : Int} {l : List Pp} (h0 : 0 ≤ cost) (h : BillW t today days cost l) : planB t today l = true ∧ l.all (paperB t) = true := by
  obtain ⟨h8, h | ⟨_, hc, hf, he, hb⟩⟩ := h
  · omega
  · have hpa := (amid_iff.1 g.pause).1
    refine ⟨?_, List.all_eq_true.2 hc.all⟩
    simp only [planB, Bool.and_eq_true, decide_eq_true_eq]
    refine ⟨⟨h8, hc.go g.kinds hpa none (fun f h => by cases h)⟩, ?_⟩
    rw [togB_append, g.tog, Bool.true_and]
    exact hc.tog g.kinds hpa _ (fun q hq => by simpa using .inl hq)
theorem BillW.lack (hds : ∀ x ∈ days, 0 ≤ x ∧ x ≤ 999) (hso : days.Pairwise (· ≤ ·)) {cost : Int} {l : List Pp} (h0 : 0 ≤ cost) (h : BillW t today days cost l) : days.filter (lackB t (t.held ++ l)) = [] := by
  obtain ⟨h8, h | ⟨_, hc, hf, he, hb⟩⟩ := h
  · omega
  · rw [List.filter_eq_nil_iff]
    intro x hx
    have h1 := hc.covers hso x hx
    have h2 := hds x hx
    have h3 : barredB t x = false := by
      have := List.any_eq_false.1 hb x hx
      simpa using this
    simp only [lackB, h3, Bool.or_false, Bool.not_eq_true', Bool.not_eq_false, covB, List.any_append, Bool.or_eq_true] at h1 ⊢
    rcases h1 with h1 | h1
    · omega
    · exact h1
end
end Go.Proofs.Tryd


namespace Go.Proofs.Tryd
open Go Go.Proofs.AM

section
variable {t : Town} {today : Int} {wh : Hd} {days : List Int}
end
end Go.Proofs.Tryd


namespace Go.Proofs.Tryd
open Go Go.Proofs.AM

section
variable {t : Town} {today : Int} {wh : Hd} {days : List Int}
theorem fit_sooner {e d today' : Int} (h : today' ≤ today) {p : Pp} (hf : fitB t today e d p = true) : fitB t today' e d p = true := by
  simp only [fitB, Bool.and_eq_true, decide_eq_true_eq] at hf ⊢
  exact ⟨⟨⟨hf.1.1.1, by have := hf.1.1.2; omega⟩, hf.1.2⟩, hf.2⟩
theorem Chain.sooner {e : Int} {ds : List Int} {l : List Pp} (h : Chain t today e ds l) {today' : Int} (hle : today' ≤ today) : Chain t today' e ds l := by
  induction h with
  | nil h1 => exact .nil h1
  | cons h1 h2 _ ih => exact .cons h1 (fit_sooner hle h2) ih
end
end Go.Proofs.Tryd


namespace Go.Proofs.Tryd
open Go Go.Proofs.AM

/-- A slice of numbers: a row that is told, or one of the heap. -/
def PI (K : Nat) (J : List AObj) (v : AV) (l : List Int) : Prop := (∃ h : Hd, v = lstA h In.av l ∧ (l = [] → h.ex = true)) ∨ (∃ j ver, v = .sl 1 (K + j) ver 0 l.length none ∧ J[j]?.bind cont = some (ver, row In.av l)) ∧ l ≠ []
theorem In_row_len (l : List Int) : (row In.av l).length = l.length := by rw [row_len In.len]; omega
theorem PI.keep {K : Nat} {J J' : List AObj} {v : AV} {l : List Int} (h : PI K J v l) (k : Keep J J') : PI K J' v l := by
  rcases h with h | ⟨⟨j, ver, e, h⟩, hn⟩
  · exact .inl h
  · exact .inr ⟨⟨j, ver, e, k _ _ h⟩, hn⟩
theorem PI.len {K : Nat} {J : List AObj} {v : AV} {l : List Int} (h : PI K J v l) : lenA v = some (.int .i64 l.length) := by
  rcases h with ⟨h, rfl, _⟩ | ⟨⟨j, ver, rfl, h⟩, _⟩ <;> rfl
theorem In_plain (l : List Int) : ∀ (hp : List AObj) (s d : Nat) (refs : Bool), mapS (AM.settle hp s refs d) (row In.av l) = some (row In.av l, []) := fun hp s d refs => mapS_plain (fun c hc => plainA.scal (row_scal In.sc _ c hc) d)
theorem PI.settle {K : Nat} {C J : List AObj} {v : AV} {l : List Int} (hC : C.length = K) (h : PI K J v l) (d : Nat) : ∃ h' ids, AM.settle (C ++ J) 0 true (d + 1) v = some (lstA h' In.av l, ids) ∧ ∀ i ∈ ids, K ≤ i := by
  have e1 := In_row_len l
  have e2 := In_plain l
  subst hC
  rcases h with ⟨h, rfl, _⟩ | ⟨⟨j, ver, rfl, h⟩, _⟩
  · exact ⟨h, [], by simp [lstA, e2], by simp⟩
  · have hg : (C ++ J)[C.length + j]? = J[j]? := by simp [List.getElem?_append_right]
    have htk : (row In.av l).take l.length = row In.av l := List.take_of_length_le (Nat.le_of_eq e1)
    refine ⟨⟨some false, false⟩, [C.length + j], ?_, by simp⟩
    cases hj : J[j]? with
    | none => rw [hj] at h; cases h
    | some o =>
      rw [hj] at h
      cases o <;> simp [cont] at h <;> simp [hg, hj, h.1, h.2, e1, htk, e2, lstA]
/-- What is handed back: all of it, settled. -/
theorem PI.out {K : Nat} {C J : List AObj} {v : AV} {l : List Int} (hC : C.length = K) (h : PI K J v l) (d : Nat) : ∃ v' h' ids, slcA 1 v none (some (l.length : Int)) (some (l.length : Int)) = some v' ∧ AM.settle (C ++ J) K false (d + 1) v' = some (lstA h' In.av l, ids) := by
  have e1 := In_row_len l
  have e2 := In_plain l
  subst hC
  rcases h with ⟨h, rfl, _⟩ | ⟨⟨j, ver, rfl, h⟩, hne⟩
  · exact ⟨_, ⟨h.nl, true⟩, [], slc_full In.len l, by simp [lstA, e2]⟩
  · have hg : (C ++ J)[C.length + j]? = J[j]? := by simp [List.getElem?_append_right]
    have htk : (row In.av l).take l.length = row In.av l := List.take_of_length_le (Nat.le_of_eq e1)
    have hl0 : ¬ l.length = 0 := by
      cases l with
      | nil => exact absurd rfl hne
      | cons _ _ => simp
    have hl1 : ¬ (l.length : Int) = 0 := by omega
    refine ⟨.sl 1 (C.length + j) ver 0 l.length (some l.length), ⟨some false, true⟩, [C.length + j], by simp [slcA, hl1, hne], ?_⟩
    cases hj : J[j]? with
    | none => rw [hj] at h; cases h
    | some o =>
      rw [hj] at h
      cases o <;> simp [cont] at h <;> simp [hg, hj, h.1, h.2, e1, htk, e2, lstA]
/-- The same, not cut. -/
theorem PI.back {K : Nat} {C J : List AObj} {v : AV} {l : List Int} (hC : C.length = K) (h : PI K J v l) (d : Nat) : ∃ h' ids, AM.settle (C ++ J) K false (d + 1) v = some (lstA h' In.av l, ids) := by
  have e1 := In_row_len l
  have e2 := In_plain l
  subst hC
  rcases h with ⟨h, rfl, _⟩ | ⟨⟨j, ver, rfl, h⟩, hne⟩
  · exact ⟨h, [], by simp [lstA, e2]⟩
  · have hg : (C ++ J)[C.length + j]? = J[j]? := by simp [List.getElem?_append_right]
    have htk : (row In.av l).take l.length = row In.av l := List.take_of_length_le (Nat.le_of_eq e1)
    refine ⟨⟨some false, false⟩, [C.length + j], ?_⟩
    cases hj : J[j]? with
    | none => rw [hj] at h; cases h
    | some o =>
      rw [hj] at h
      cases o <;> simp [cont] at h <;> simp [hg, hj, h.1, h.2, e1, htk, e2, lstA]
theorem PI.dat {C J : List AObj} (outs : List Int) : PI C.length (J ++ dat outs) (outR (C ++ J).length outs) outs := by
  cases outs with
  | nil => exact .inl ⟨⟨some true, true⟩, rfl, fun _ => rfl⟩
  | cons o os => exact .inr ⟨⟨J.length, os.length, by simp [outR], by simp [Tryd.dat, cont]⟩, by simp⟩
end Go.Proofs.Tryd


namespace Go.Proofs.Tryd
open Go Go.Proofs.AM

attribute [local simp] opsT trOf accOf boxesOf AOp.uses AO.uses objOf heffOf boxOf allPairs AM.befores pairsFrom pairOk AM.ordB hits AX.slot slotsL slotsP AX.slotO Nat.testBit
/-- Some of a list, by a number. -/
def subV (s : Int) : Int → List Int → List Int
  | _, [] => []
  | i, x :: l => if bitB s i = true then x :: subV s (i + 1) l else subV s (i + 1) l
end Go.Proofs.Tryd


namespace Go.Proofs.Tryd
open Go Go.Proofs.AM

section
variable {t : Town} {today money : Int} {wh : Hd} {days : List Int}
end
end Go.Proofs.Tryd


namespace Go.Proofs.Tryd
open Go Go.Proofs.AM

section
variable {t : Town} {today money : Int} {wh : Hd} {days : List Int}
theorem frzAll_keep0 (C : List AObj) (ids : List Nat) (J : List AObj) (h : ∀ i ∈ ids, C.length ≤ i) : ∃ J', frzAll (C ++ J) ids = C ++ J' ∧ Keep J J' ∧ J'.length = J.length := frzAll_keep ids J h
end
end Go.Proofs.Tryd


namespace Go.Proofs.Tryd
open Go Go.Proofs.AM

section
variable {t : Town} {today money : Int} {wh : Hd} {days : List Int}
end
end Go.Proofs.Tryd


namespace Go.Proofs.Tryd
open Go Go.Proofs.AM

section
variable {t : Town} {today money : Int} {days : List Int}
theorem bit_zero (i : Int) : bitB 0 i = false := by
  have : shrI 0 i = 0 := by simp [shrI]
  unfold bitB
  rw [this]
  rfl
theorem sub_zero : ∀ (l : List Int) (i : Int), subV 0 i l = []
  | [], _ => rfl
  | x :: l, i => by simp [subV, bit_zero, sub_zero l]
end
end Go.Proofs.Tryd


namespace Go.Proofs.Tryd
open Go Go.Proofs.AM

attribute [local simp] opsT trOf accOf boxesOf AOp.uses AO.uses objOf heffOf boxOf allPairs AM.befores pairsFrom pairOk AM.ordB hits AX.slot slotsL slotsP AX.slotO Nat.testBit
section
variable {t : Town} {day mon n0 n1 : Int} {wh h : Hd} {days l : List Int}
end
end Go.Proofs.Tryd


namespace Go.Proofs.Tryd
open Go Go.Proofs.AM

section
variable {t : Town} {today mon : Int} {wh : Hd} {days : List Int}
end
end Go.Proofs.Tryd


namespace Go.Proofs.Tryd
open Go Go.Proofs.AM

section
variable {t : Town} {today : Int}
theorem Chain.skip {e : Int} {ds ds' : List Int} {l : List Pp} (h : Chain t today e ds' l) (hs : skipD t e ds = skipD t e ds') : Chain t today e ds l := h.of_skip hs.symm (fun _ _ h => h)
theorem skipD_head {e : Int} : ∀ {ds : List Int} {d : Int} {ds' : List Int}, skipD t e ds = d :: ds' → ¬ d ≤ e ∧ covB t t.held d = false
  | [], _, _, h => by simp [skipD] at h
  | x :: ds, d, ds', h => by
    simp only [skipD] at h
    split at h
    · exact skipD_head h
    · rename_i hn
      cases h
      simpa using hn
theorem feeSum_cons (p : Pp) (l : List Pp) : feeSum t (p :: l) = feeOf t p + feeSum t l := by simp [feeSum]
/-- The second town is easier. -/
structure Ease (t x : Town) : Prop where
  barred : x.barred = t.barred
  held : x.held = t.held
  pause : x.pause ≤ t.pause
  klen : x.kinds.length = t.kinds.length
  kind : ∀ (i : Nat) (a b : Kd), t.kinds[i]? = some a → x.kinds[i]? = some b → b.days = a.days ∧ b.fee ≤ a.fee ∧ b.notice ≤ a.notice
section
variable {x : Town} (h : Ease t x)
include h
theorem Ease.daysOf (p : Pp) : daysOf x p = daysOf t p := by
  unfold Tryd.daysOf
  have hl := h.klen
  cases ht : t.kinds[p.kind.toNat]? with
  | none =>
    have : x.kinds[p.kind.toNat]? = none := by
      rw [List.getElem?_eq_none_iff] at ht ⊢
      omega
    rw [this]
  | some a =>
    cases hx : x.kinds[p.kind.toNat]? with
    | none =>
      rw [List.getElem?_eq_none_iff] at hx
      have := (List.getElem?_eq_some_iff.1 ht).1
      omega
    | some b => exact (h.kind _ _ _ ht hx).1
theorem Ease.fee (p : Pp) : feeOf x p ≤ feeOf t p := by
  unfold feeOf
  have hl := h.klen
  cases ht : t.kinds[p.kind.toNat]? with
  | none =>
    have : x.kinds[p.kind.toNat]? = none := by
      rw [List.getElem?_eq_none_iff] at ht ⊢
      omega
    rw [this]
    exact Int.le_refl _
  | some a =>
    cases hx : x.kinds[p.kind.toNat]? with
    | none =>
      rw [List.getElem?_eq_none_iff] at hx
      have := (List.getElem?_eq_some_iff.1 ht).1
      omega
    | some b => exact (h.kind _ _ _ ht hx).2.1
theorem Ease.notice (p : Pp) : noticeOf x p ≤ noticeOf t p := by
  unfold noticeOf
  have hl := h.klen
  cases ht : t.kinds[p.kind.toNat]? with
  | none =>
    have : x.kinds[p.kind.toNat]? = none := by
      rw [List.getElem?_eq_none_iff] at ht ⊢
      omega
    rw [this]
    exact Int.le_refl _
  | some a =>
    cases hx : x.kinds[p.kind.toNat]? with
    | none =>
      rw [List.getElem?_eq_none_iff] at hx
      have := (List.getElem?_eq_some_iff.1 ht).1
      omega
    | some b => exact (h.kind _ _ _ ht hx).2.2
theorem Ease.endB (p : Pp) : endB x p = endB t p := by unfold Tryd.endB; rw [h.daysOf]
theorem Ease.goes {p q : Pp} (hg : goesB t p q = true) : goesB x p q = true := by
  have hp := h.pause
  unfold goesB at hg ⊢
  rw [h.endB, h.endB]
  split at hg <;> rename_i hc
  · rw [if_pos hc]
    simp only [decide_eq_true_eq] at hg ⊢
    omega
  · rw [if_neg hc]
    simp only [decide_eq_true_eq] at hg ⊢
    omega
theorem Ease.paper (p : Pp) : paperB x p = paperB t p := by unfold paperB; rw [h.klen]
theorem Ease.cov (l : List Pp) (d : Int) : covB x l d = covB t l d := by
  unfold covB
  congr 1
  funext p
  rw [h.endB]
theorem Ease.skip (e : Int) : ∀ ds : List Int, skipD x e ds = skipD t e ds
  | [] => rfl
  | d :: ds => by simp only [skipD, h.held, h.cov, Ease.skip e ds]
theorem Ease.barB (d : Int) : barredB x d = barredB t d := by unfold barredB; rw [h.barred]
theorem Ease.tog : ∀ {l a : List Pp}, togB t a l = true → togB x a l = true
  | [], _, _ => rfl
  | p :: l, a, hg => by
    simp only [togB, Bool.and_eq_true, List.all_eq_true] at hg ⊢
    exact ⟨fun q hq => h.goes (hg.1 q hq), Ease.tog hg.2⟩
end
end
end Go.Proofs.Tryd


namespace Go.Proofs.Tryd
open Go Go.Proofs.AM

section
variable {t : Town}
def inP (t : Town) (p : Pp) (i : Int) : Prop := p.first ≤ i ∧ i < p.first + daysOf t p + t.pause
instance (p : Pp) (i : Int) : Decidable (inP t p i) := by unfold inP; infer_instance
def cntP (t : Town) (i : Int) : List Pp → Int
  | [] => 0
  | p :: l => (if inP t p i then 1 else 0) + cntP t i l
theorem cntP_nn (i : Int) : ∀ l : List Pp, 0 ≤ cntP t i l
  | [] => by simp [cntP]
  | p :: l => by
    have := cntP_nn i l
    simp only [cntP]
    split <;> omega
theorem cntP_pos {i : Int} {q : Pp} (hq : inP t q i) : ∀ {l : List Pp}, q ∈ l → 1 ≤ cntP t i l
  | [], h => by simp at h
  | p :: l, h => by
    simp only [cntP]
    rcases List.mem_cons.1 h with rfl | h
    · have := cntP_nn (t := t) i l
      rw [if_pos hq]
      omega
    · have := cntP_pos hq h
      split <;> omega
theorem cntP_zero {i : Int} : ∀ {l : List Pp}, (∀ q ∈ l, ¬ inP t q i) → cntP t i l = 0
  | [], _ => rfl
  | p :: l, h => by
    simp only [cntP]
    rw [if_neg (h p (by simp)), cntP_zero (fun q hq => h q (by simp [hq]))]
    rfl
theorem marksP_cnt : ∀ (l : List Pp) (f : Nat → Int) (i : Nat), marksP t f l i = f i + cntP t i l
  | [], f, i => by simp [marksP, cntP]
  | p :: l, f, i => by
    simp only [marksP, cntP]
    rw [marksP_cnt l]
    unfold add inP
    split <;> omega
theorem days_pos (hk : t.kinds.all kdB = true) {p : Pp} (hp : paperB t p = true) : 1 ≤ daysOf t p ∧ daysOf t p ≤ 30 ∧ 0 ≤ p.first ∧ p.first ≤ 999 := by
  obtain ⟨k, e1, hkd, e2, h0, h1, h2, h3⟩ := kd_of hp hk
  simp only [kdB, Bool.and_eq_true, amid_iff] at hkd
  omega
theorem goes_disj (hk : t.kinds.all kdB = true) (hpa : 0 ≤ t.pause) {p q : Pp} (hp : paperB t p = true) (hq : paperB t q = true) : goesB t p q = true ↔ ∀ i : Int, inP t p i → ¬ inP t q i := by
  have a := days_pos hk hp
  have b := days_pos hk hq
  unfold goesB inP endB
  constructor
  · intro h i
    split at h <;> simp only [decide_eq_true_eq] at h <;> omega
  · intro h
    have h1 := h p.first
    have h2 := h q.first
    split <;> simp only [decide_eq_true_eq] <;> omega
theorem goes_symm (hk : t.kinds.all kdB = true) (hpa : 0 ≤ t.pause) {p q : Pp} (hp : paperB t p = true) (hq : paperB t q = true) (h : goesB t p q = true) : goesB t q p = true := by
  rw [goes_disj hk hpa hq hp]
  rw [goes_disj hk hpa hp hq] at h
  exact fun i h1 h2 => h i h2 h1
theorem togB_iff : ∀ (l pre : List Pp), togB t pre l = true ↔ (∀ p ∈ l, ∀ q ∈ pre, goesB t p q = true) ∧ l.Pairwise (fun q p => goesB t p q = true)
  | [], pre => by simp [togB]
  | p :: l, pre => by
    simp only [togB, Bool.and_eq_true, List.all_eq_true, togB_iff l, List.pairwise_cons, List.forall_mem_cons, List.mem_append, List.mem_singleton]
    constructor
    · rintro ⟨h1, h2, h3⟩
      exact ⟨⟨h1, fun q hq x hx => h2 q hq x (.inl hx)⟩, fun q hq => h2 q hq p (.inr rfl), h3⟩
    · rintro ⟨⟨h1, h2⟩, h3, h4⟩
      exact ⟨h1, fun q hq x hx => by
        rcases hx with hx | rfl
        · exact h2 q hq x hx
        · exact h3 q hq, h4⟩
theorem tog_cnt (hk : t.kinds.all kdB = true) (gp : amid t.pause 0 20 = true) : ∀ {l : List Pp}, (∀ p ∈ l, paperB t p = true) → (togB t [] l = true ↔ ∀ i : Nat, i < 1059 → cntP t i l ≤ 1) := by
  have hpa := (amid_iff.1 gp)
  intro l hall
  have e : togB t [] l = true ↔ l.Pairwise (fun q p => goesB t p q = true) := by simp [togB_iff]
  rw [e]
  induction l with
  | nil => simp [cntP]
  | cons p l ih =>
    have ih := ih (fun q hq => hall q (by simp [hq])) (by simp [togB_iff])
    have hp := hall p (by simp)
    rw [List.pairwise_cons]
    refine Iff.trans (and_congr_right fun _ => ih) ?_
    constructor
    · rintro ⟨h1, h2⟩ i hi
      simp only [cntP]
      split
      · rename_i hin
        rw [cntP_zero (fun q hq => (goes_disj hk hpa.1 hp (hall q (by simp [hq]))).1 (goes_symm hk hpa.1 (hall q (by simp [hq])) hp (h1 q hq)) _ hin)]
        decide
      · have := h2 i hi
        omega
    · intro h
      refine ⟨fun q hq => ?_, fun i hi => ?_⟩
      · rw [goes_disj hk hpa.1 (hall q (by simp [hq])) hp]
        intro i h1 h2
        have b := days_pos hk hp
        have h2' := h2
        unfold inP at h2'
        obtain ⟨n, rfl⟩ : ∃ n : Nat, (n : Int) = i := ⟨i.toNat, by omega⟩
        have := h n (by omega)
        simp only [cntP] at this
        rw [if_pos h2] at this
        have := cntP_pos h1 hq
        omega
      · have := h i hi
        simp only [cntP] at this
        split at this <;> omega
def all1 (f : Nat → Int) : Nat → Nat → Bool
  | 0, _ => true
  | r + 1, k => decide (f k ≤ 1) && all1 f r (k + 1)
theorem all1_iff (f : Nat → Int) : ∀ r k, all1 f r k = true ↔ ∀ i, k ≤ i → i < k + r → f i ≤ 1
  | 0, k => by simp [all1]; omega
  | r + 1, k => by
    simp only [all1, Bool.and_eq_true, decide_eq_true_eq, all1_iff f r]
    constructor
    · rintro ⟨h1, h2⟩ i h3 h4
      by_cases h : i = k
      · rw [h]; exact h1
      · exact h2 i (by omega) (by omega)
    · exact fun h => ⟨h k (Nat.le_refl _) (by omega), fun i h1 h2 => h i (by omega) (by omega)⟩
theorem goesM_loop (f : Nat → Int) (st : St) : ∀ (r k : Nat), k + r = 1059 →
    loopC E0 [6, 7] [] A85_l0 { ts := [(6, .v (arrV f)), (7, .v (.int .i64 k))], bs := [] } st
    = if all1 f r k = true then some (.exit 0, { ts := [(6, .v (arrV f)), (7, .v (.int .i64 1059)), (17, .v (.bool false))], bs := [] }, st) else some (.ret, { ts := [(4, .v (.bool false))], bs := [] }, st)
  | 0, k, h => by
    have : k = 1059 := by omega
    subst this
    rw [loopC_eq]
    simp [A85_l0, A85_r3, arrV_len, all1]
  | r + 1, k, h => by
    have hlt : k < 1059 := by omega
    have hlt' : (k : Int) < 1059 := by omega
    have hrd := row_get In.len (arr_get f hlt)
    rw [Nat.mul_one] at hrd
    have hw : IntKind.wrap .i64 ((k : Int) + 1) = ((k + 1 : Nat) : Int) := by rw [wrap_small (by omega) (by omega)]; omega
    have ih := goesM_loop f st r (k + 1) (by omega)
    by_cases h1 : f k ≤ 1
    · have h1' : ¬ 1 < f k := by omega
      rw [loopC_norm (fr' := { ts := [(6, .v (arrV f)), (7, .v (.int .i64 ((k + 1 : Nat) : Int)))], bs := [] }) (st' := st) (by
        simp [A85_l0, A85_r3, A85_r4, A85_r5, arrV_len, iaddr_arrV, hlt, hlt', hrd, In.av, h1', hw]), ih]
      simp [all1, h1]
    · have h1' : 1 < f k := by omega
      rw [loopC_eq]
      simp [A85_l0, A85_r3, A85_r5, A85_r6, arrV_len, iaddr_arrV, hlt, hlt', hrd, In.av, h1', all1, h1]
theorem goesM_ev (g : Good t) {h : Hd} {l : List Pp} (hl : l.length ≤ 1000) (hall : ∀ p ∈ l, paperB t p = true) (st : St) : callE E0 false (.fn 85 [] []) [.agg t.cs, lstA h Pp.av l] st = some (.bool (togB t [] l), st) := by
  have hm := fun s => marks_ev (h := h) g.pause g.kinds hl hall s
  have hb : all1 (marksP t (fun _ => 0) l) 1059 0 = togB t [] l := by
    rw [Bool.eq_iff_iff, all1_iff, tog_cnt g.kinds g.pause hall]
    simp only [marksP_cnt, Int.zero_add]
    exact ⟨fun h i hi => h i (by omega) (by omega), fun h i _ hi => h i (by omega)⟩
  have ho := goesM_loop (marksP t (fun _ => 0) l) { st with low := st.heap.length } 1059 0 rfl
  rw [hb] at ho
  generalize marksP t (fun _ => 0) l = F at *
  generalize marksD t (fun _ => 0) l = F2 at *
  rw [callE0 (by decide) (af := A85) rfl rfl]
  simp only [Town.cs] at hm
  simp only [Int.ofNat_zero, Int.cast_ofNat_Int] at ho
  cases ht : togB t [] l with
  | true =>
    rw [ht, if_pos rfl] at ho
    simp [A85, A85_r0, A85_r1, A85_r2, A85_r7, finish, Town.cs, hm, ho]
  | false =>
    rw [ht, if_neg (by simp)] at ho
    simp [A85, A85_r0, A85_r1, A85_r2, A85_r7, finish, Town.cs, hm, ho]
end
/-- Licences behind others, in a new row. -/
theorem join_ev {C J : List AObj} {lv : AV} {l a : List Pp} {ah : Hd} (hv : PV C.length J lv l) (hl : l.length ≤ 100) (ha : a.length ≤ 100) :
    ∃ (v1 : AV) (O1 : List AObj) (v2 : AV) (O2 : List AObj) (f : Nat → Nat), (∀ lo, appA 2 55 16 (.lst (some false) true 0 []) (lstA ah Pp.av a) { heap := C ++ J, low := lo } = some (v1, { heap := C ++ (J ++ O1), low := lo }))
      ∧ (∀ lo, appA 2 55 16 v1 lv { heap := C ++ (J ++ O1), low := lo } = some (v2, { heap := C ++ (J ++ O2), low := f lo }))
      ∧ PV C.length (J ++ O2) v2 (a ++ l) ∧ ∀ x n, C.length + J.length ≤ n → x ≤ C.length → min x (f n) = x := by
  have hs := fun O lo => (hv.keep (Keep.app J O)).slice (lo := lo) (C := C) rfl
  cases a with
  | nil =>
    have a1 : ∀ st, appA 2 55 16 (.lst (some false) true 0 []) (lstA ah Pp.av []) st = some (.lst (some false) true 0 [], st) := fun st => appP_nil (nl := some false) (a := []) _ rfl st
    have r1 : l.length * 16 ≤ room := by unfold room; omega
    have r2 : l.length ≤ room := by unfold room; omega
    cases l with
    | nil =>
      refine ⟨_, [], .lst (some false) true 0 [], [], id, fun lo => by rw [a1, List.append_nil], fun lo => ?_, .inl ⟨⟨some false, true⟩, rfl, fun _ => rfl⟩, fun x n h1 h2 => Nat.min_eq_left (by simp; omega)⟩
      have hs' := hs [] lo
      simp only [List.append_nil] at hs' ⊢
      simp [appA, hs']
    | cons q l =>
      refine ⟨_, [], .sl 2 (C ++ J).length 0 0 (q :: l).length none, [.cells 0 (some (55, 2)) (row Pp.av (q :: l))], id, fun lo => by rw [a1, List.append_nil], fun lo => ?_, .inr ⟨J.length, 0, by simp, by simp [cont]⟩, fun x n h1 h2 => Nat.min_eq_left (by simp; omega)⟩
      have hs' := hs [] lo
      simp only [List.append_nil] at hs' ⊢
      simp only [List.length_cons] at r1 r2 hs' ⊢
      simp [appA, hs', alloc, r1, r2]
  | cons p a =>
    have a1 : ∀ st, appA 2 55 16 (.lst (some false) true 0 []) (lstA ah Pp.av (p :: a)) st = _ := fun st => appP_ev (nl := some false) (a := []) (h := ah) (by simp at ha ⊢; omega) st
    cases l with
    | nil =>
      refine ⟨.sl 2 (C ++ J).length 0 0 (p :: a).length none, [.cells 0 (some (55, 2)) (row Pp.av (p :: a))], .sl 2 (C ++ J).length 0 0 (p :: a).length none, [.cells 0 (some (55, 2)) (row Pp.av (p :: a))], id, fun lo => by rw [a1]; simp, fun lo => ?_, .inr ⟨J.length, 0, by simp, by simp [cont]⟩, fun x n h1 h2 => Nat.min_eq_left (by simp; omega)⟩
      have hs' := hs [.cells 0 (some (55, 2)) (row Pp.av (p :: a))] lo
      simp [appA, hs']
    | cons q l =>
      have e2 := row_len Pp.len (p :: a)
      have e3 : row Pp.av ((p :: a) ++ q :: l) = row Pp.av (p :: a) ++ row Pp.av (q :: l) := row_append _ _
      have r1 : ((p :: a).length + (q :: l).length) * 16 ≤ room := by unfold room; omega
      have r2 : (p :: a).length + (q :: l).length ≤ room := by unfold room; omega
      refine ⟨.sl 2 (C ++ J).length 0 0 (p :: a).length none, [.cells 0 (some (55, 2)) (row Pp.av (p :: a))], .sl 2 (C ++ J).length 1 0 ((p :: a) ++ q :: l).length none, [.cells 1 (some (55, 2)) (row Pp.av ((p :: a) ++ q :: l))], fun lo => min lo (C.length + J.length), fun lo => by rw [a1]; simp, fun lo => ?_, .inr ⟨J.length, 1, by simp, by simp [cont]⟩, fun x n h1 h2 => by simp only; omega⟩
      have hs' := hs [.cells 0 (some (55, 2)) (row Pp.av (p :: a))] lo
      have hg : (C ++ (J ++ [AObj.cells 0 (some (55, 2)) (row Pp.av (p :: a))]))[C.length + J.length]? = some (.cells 0 (some (55, 2)) (row Pp.av (p :: a))) := by simp [List.getElem?_append_right]
      have hst : ∀ o, (C ++ (J ++ [AObj.cells 0 (some (55, 2)) (row Pp.av (p :: a))])).set (C.length + J.length) o = C ++ (J ++ [o]) := fun o => by simp [List.set_append_right]
      rw [e3]
      generalize row Pp.av (p :: a) = ra at *
      generalize row Pp.av (q :: l) = rl at *
      simp only [List.length_cons] at e2 r1 r2 hs'
      simp [appA, hs', e2, r1, r2, mods, hg, hst]
      omega
end Go.Proofs.Tryd


namespace Go.Proofs.Tryd
open Go Go.Proofs.AM

section
variable {t : Town}
theorem plans_loop (hk : t.kinds.all kdB = true) {today : Int} (ht : amid today 0 999 = true) {h : Hd} {l : List Pp} (hl : l.length ≤ 1000) (st : St) (hlo : st.low ≤ st.heap.length) : ∀ (b a : List Pp) (k : Int) (pr : Option Int), k = a.length → l = a ++ b → Prev a pr → (∀ p ∈ b, paperB t p = true) →
    loopC E0 [1, 2, 3, 7] [3] A44_l0 { ts := [(1, .v (.int .i64 today)), (2, .v (lstA h Pp.av l)), (3, .loc 3 0), (7, .v (.int .i64 k))], bs := [(3, t.cs)] } st
    = if goB t today pr b = true then some (.exit 0, { ts := [(1, .v (.int .i64 today)), (2, .v (lstA h Pp.av l)), (3, .loc 3 0), (7, .v (.int .i64 l.length)), (20, .v (.bool false))], bs := [(3, t.cs)] }, st)
      else some (.ret, { ts := [(6, .v (.bool false))], bs := [] }, st)
  | [], a, k, pr, hk0, e, _, _ => by
    simp only [List.append_nil] at e
    subst e hk0
    rw [loopC_eq]
    simp [A44_l0, A44_r4, goB]
  | p :: b, a, k, pr, hk0, e, hpr, hall => by
    subst hk0
    have hlt : a.length < l.length := by rw [e]; simp
    have hd : (row Pp.av l).drop (a.length * 2) = Pp.av p ++ row Pp.av b := by rw [e, row_drop Pp.len]; rfl
    have hw : IntKind.wrap .i64 ((a.length : Int) + 1) = (a.length : Int) + 1 := wrap_small (by omega) (by omega)
    have hm : min st.low st.heap.length = st.low := Nat.min_eq_left hlo
    have htd := amid_iff.1 ht
    have ih := plans_loop hk ht (h := h) hl st hlo b (a ++ [p]) _ (some p.first) rfl (by simp [e]) (.inr ⟨a, p, rfl, rfl⟩) (fun x hx => hall x (by simp [hx]))
    have hp := hall p (by simp)
    obtain ⟨kk, e1, e2, n1, n2, k0, k1, f0, f1⟩ := kn_of hp hk
    have hdk := row_get Kd.len e1
    have w1 : IntKind.wrap .i64 (p.first - today) = p.first - today := wrap_small (by omega) (by omega)
    by_cases hn : p.first - today < kk.notice
    · have hn' : ¬ kk.notice ≤ p.first - today := by omega
      rw [loopC_eq]
      simp [A44_l0, A44_r4, A44_r6, A44_r7, regionA_st s44_r6, hm, hlt, hd, hw, Pp.av, Town.cs, hp, goB, stepB, e2, hn, hn', k0, k1, hdk, Kd.av, w1]
    · have hn' : kk.notice ≤ p.first - today := by omega
      rcases hpr with ⟨rfl, rfl⟩ | ⟨a', q, rfl, rfl⟩
      · have h1w : IntKind.wrap .i64 1 = 1 := by decide
        simp only [List.length_nil, Nat.zero_mul, List.drop_zero] at hd hlt
        rw [loopC_norm (fr' := { ts := [(1, .v (.int .i64 today)), (2, .v (lstA h Pp.av l)), (3, .loc 3 0), (7, .v (.int .i64 (([] ++ [p] : List Pp).length : Int)))], bs := [(3, t.cs)] }) (st' := st) (by
          simp [A44_l0, A44_r4, A44_r5, A44_r6, regionA_st s44_r6, hm, hlt, hd, Pp.av, Town.cs, hn, k0, k1, hdk, Kd.av, w1, h1w]), ih]
        simp [goB, stepB, ordB, hp, e2, hn']
      · have hpos : (0 : Int) < (a'.length : Int) + 1 := by omega
        have w2 : IntKind.wrap .i64 ((a'.length : Int) + 1 - 1) = a'.length := by rw [wrap_small (by omega) (by simp at hlt; omega)]; omega
        have w3 : IntKind.wrap .i64 (a'.length : Int) = a'.length := wrap_small (by omega) (by simp at hlt; omega)
        have hlt' : a'.length < l.length := by simp at hlt; omega
        have hd2 : (row Pp.av l).drop (a'.length * 2) = Pp.av q ++ row Pp.av (p :: b) := by
          have : l = a' ++ (q :: p :: b) := by rw [e]; simp
          rw [this, row_drop Pp.len]; rfl
        simp only [List.length_append, List.length_singleton] at hd hw hlt
        have hpn : ¬ (a'.length : Int) + 1 ≤ 0 := by omega
        have hlt3 : (a'.length : Int) + 1 < l.length := by omega
        have hT : ((a'.length : Int) + 1).toNat = a'.length + 1 := by omega
        have h0 : (0 : Int) ≤ (a'.length : Int) + 1 := by omega
        have hw5 : IntKind.wrap .i64 ((a'.length : Int) + 1 + 1) = (a'.length : Int) + 2 := by rw [wrap_small (by omega) (by omega)]; omega
        by_cases ho : p.first < q.first
        · have ho' : ¬ q.first ≤ p.first := by omega
          rw [loopC_eq]
          simp [A44_l0, A44_r4, A44_r6, A44_r7, regionA_st s44_r6, hm, hlt', hlt3, hT, h0, hd, hd2, hw, Pp.av, Town.cs, hp, goB, stepB, ordB, hpos, hpn, w1, w2, w3, ho, ho', hn, k0, k1, hdk, Kd.av]
        · have ho' : q.first ≤ p.first := by omega
          rw [loopC_norm (fr' := { ts := [(1, .v (.int .i64 today)), (2, .v (lstA h Pp.av l)), (3, .loc 3 0), (7, .v (.int .i64 ((a' ++ [q] ++ [p] : List Pp).length : Int)))], bs := [(3, t.cs)] }) (st' := st) (by
            simp [A44_l0, A44_r4, A44_r5, A44_r6, regionA_st s44_r6, hm, hlt', hlt3, hT, h0, hd, hd2, hw, Pp.av, Town.cs, hpos, hpn, w1, w2, w3, ho, hn, k0, k1, hdk, Kd.av, hw5]), ih]
          simp [goB, stepB, ordB, hp, e2, hn', ho']
theorem plans_ev (hf : t.Fits) (g : Good t) {today : Int} (ht : amid today 0 999 = true) {h : Hd} {l : List Pp} (hl : l.length ≤ 100) (st : St) : callE E0 false (.fn 44 [] []) [.agg t.cs, .int .i64 today, lstA h Pp.av l] st = some (.bool (planB t today l), st) := by
  rw [callE0 (by decide) (af := A44) rfl rfl]
  have hP := fun s => papers_ev hf (h := h) (l := l) (by omega) s
  simp only [Town.cs] at hP
  unfold planB
  by_cases h8 : l.length ≤ 8
  · have h8' : ¬ (8 : Int) < l.length := by omega
    cases ha : l.all (paperB t) with
    | false =>
      have hg : goB t today none l = false := by
        cases hg : goB t today none l with
        | false => rfl
        | true =>
          rw [List.all_eq_true.2 (goB_all hg)] at ha
          cases ha
      rw [ha] at hP
      simp [A44, A44_r0, A44_r1, A44_r2, finish, Town.cs, hP, h8, h8', hg]
    | true =>
      rw [ha] at hP
      have hall := List.all_eq_true.1 ha
      have hlo := plans_loop g.kinds ht (h := h) (l := l) (by omega) { st with low := st.heap.length } (Nat.le_refl _) l [] 0 none rfl rfl (.inl ⟨rfl, rfl⟩) hall
      simp only [Town.cs] at hlo
      cases hg : goB t today none l with
      | false =>
        rw [hg, if_neg (by simp)] at hlo
        simp [A44, A44_r0, A44_r1, A44_r3, finish, Town.cs, hP, h8, h8', hlo]
      | true =>
        rw [hg, if_pos rfl] at hlo
        obtain ⟨v1, O1, v2, O2, f, b1, b2, b3, b4⟩ := join_ev (C := st.heap) (J := []) (lv := lstA ⟨h.nl, true⟩ Pp.av l) (l := l) (a := t.held) (ah := t.hh) (.inl ⟨_, rfl, fun _ => rfl⟩) hl (by have := g.nh; omega)
        have b2' : ∀ lo, appA 2 55 16 v1 (lstA h Pp.av l) { heap := st.heap ++ O1, low := lo } = some (v2, { heap := st.heap ++ O2, low := f lo }) := fun lo => by
          have := b2 lo
          simp only [List.nil_append] at this
          rw [← this]
          unfold appA sliceCells lstA
          rfl
        simp only [List.append_nil, List.nil_append, List.length_nil, Nat.add_zero] at b1 b3 b4
        obtain ⟨h2, ids2, p1, p2⟩ := b3.settle rfl 7
        obtain ⟨J1, z1, z2, z3⟩ := frzAll_keep0 st.heap ids2 O2 p2
        have hG := fun s => goesM_ev g (h := h2) (l := t.held ++ l) (by have := g.nh; simp; omega) (fun p hp => by
          rcases List.mem_append.1 hp with hp | hp
          · exact List.all_eq_true.1 g.held p hp
          · exact hall p hp) s
        have m1 : ∀ n, min st.heap.length (f (st.heap.length + n)) = st.heap.length := fun n => b4 _ _ (by omega) (Nat.le_refl _)
        have m2 := b4 st.heap.length st.heap.length (Nat.le_refl _) (Nat.le_refl _)
        simp only [Town.cs] at hG
        simp [A44, A44_r0, A44_r1, A44_r3, A44_r8, regionA_st s44_r8, finish, Town.cs, hP, h8, h8', hlo, b1, b2', p1, z1, hG, m1, m2]
  · have h8' : (8 : Int) < l.length := by omega
    simp [A44, A44_r0, A44_r1, A44_r2, finish, Town.cs, h8, h8']
theorem feesM_loop (g : Good t) {h : Hd} {l : List Pp} (hl : l.length ≤ 100) (hall : ∀ p ∈ l, paperB t p = true) (st : St) (hlo : st.low ≤ st.heap.length) : ∀ (b a : List Pp) (k c : Int), k = a.length → l = a ++ b → 0 ≤ c → c ≤ 1000 * a.length →
    loopC E0 [1, 2, 5, 6] [2] A45_l0 { ts := [(1, .v (lstA h Pp.av l)), (2, .loc 2 0), (5, .v (.int .i64 c)), (6, .v (.int .i64 k))], bs := [(2, t.cs)] } st
    = some (.exit 0, { ts := [(1, .v (lstA h Pp.av l)), (2, .loc 2 0), (5, .v (.int .i64 (c + feeSum t b))), (6, .v (.int .i64 l.length)), (10, .v (.bool false))], bs := [(2, t.cs)] }, st)
  | [], a, k, c, hk, e, _, _ => by
    simp only [List.append_nil] at e
    subst e hk
    rw [loopC_eq]
    simp [A45_l0, A45_r3, feeSum]
  | p :: b, a, k, c, hk, e, h0, h1 => by
    subst hk
    have hm : min st.low st.heap.length = st.low := Nat.min_eq_left hlo
    have hp := hall p (by simp [e])
    obtain ⟨kk, e1, _, _, k0, k1, _⟩ := kd_of hp g.kinds
    have hfe := fee_of hp g.kinds e1
    have hdk := row_get Kd.len e1
    have hlt : a.length < l.length := by rw [e]; simp
    have hd : (row Pp.av l).drop (a.length * 2) = Pp.av p ++ row Pp.av b := by rw [e, row_drop Pp.len]; rfl
    have hw : IntKind.wrap .i64 ((a.length : Int) + 1) = (a.length : Int) + 1 := wrap_small (by omega) (by omega)
    have hw2 : IntKind.wrap .i64 (c + kk.fee) = c + kk.fee := wrap_small (by omega) (by omega)
    rw [loopC_norm (fr' := { ts := [(1, .v (lstA h Pp.av l)), (2, .loc 2 0), (5, .v (.int .i64 (c + kk.fee))), (6, .v (.int .i64 ((a ++ [p]).length : Int)))], bs := [(2, t.cs)] }) (st' := st) (by
      simp [A45_l0, A45_r3, A45_r4, A45_r5, regionA_st s45_r5, Town.cs, hm, hlt, hd, hw, hw2, Pp.av, k0, k1, hdk, Kd.av]), feesM_loop g hl hall st hlo b (a ++ [p]) _ (c + kk.fee) rfl (by simp [e]) (by omega) (by simp; omega)]
    have : feeSum t (p :: b) = kk.fee + feeSum t b := by simp [feeSum, hfe.1]
    rw [this, Int.add_assoc]
theorem feesM_ev (g : Good t) {h : Hd} {l : List Pp} (hl : l.length ≤ 100) (hall : ∀ p ∈ l, paperB t p = true) (st : St) : callE E0 false (.fn 45 [] []) [.agg t.cs, lstA h Pp.av l] st = some (.int .i64 (feeSum t l), st) := by
  have ho := feesM_loop g (h := h) hl hall { st with low := st.heap.length } (Nat.le_refl _) l [] 0 0 rfl rfl (by omega) (by simp)
  rw [callE0 (by decide) (af := A45) rfl rfl]
  simp only [Town.cs, Int.zero_add] at ho
  simp [A45, A45_r0, A45_r1, A45_r2, A45_r6, finish, Town.cs, ho]
end
end Go.Proofs.Tryd


namespace Go.Proofs.Tryd
open Go Go.Proofs.AM

theorem pick_ev {h : Hd} {l : List Int} (hl : l.length ≤ 9223372036854775807) (n : Int) : ∃ v : Int, ∀ st, callE E0 false (.fn 84 [] []) [lstA h In.av l, .int .i64 n] st = some (.int .i64 v, st) := by
  cases l with
  | nil =>
    refine ⟨0, fun st => ?_⟩
    rw [callE0 (by decide) (af := A84) rfl rfl]
    simp [A84, A84_r0, A84_r1, A84_r2, finish]
  | cons x l =>
    have hT := fun s => turn_ev (x := n) (n := ((x :: l).length : Int)) (by simp; omega) (by omega) s
    have hr := turnI_range (x := n) (n := ((x :: l).length : Int)) (by simp; omega)
    obtain ⟨j, hj⟩ : ∃ j : Nat, turnI n ((x :: l).length : Int) = j := ⟨(turnI n ((x :: l).length : Int)).toNat, by omega⟩
    rw [hj] at hT hr
    have hlt : j < (x :: l).length := by omega
    obtain ⟨y, hy⟩ : ∃ y, (x :: l)[j]? = some y := ⟨_, List.getElem?_eq_getElem hlt⟩
    have hrd := row_get In.len hy
    rw [Nat.mul_one] at hrd
    refine ⟨y, fun st => ?_⟩
    have hne : (((x :: l).length : Int) == 0) = false := by simp; omega
    generalize x :: l = L at *
    rw [callE0 (by decide) (af := A84) rfl rfl]
    simp [A84, A84_r0, A84_r1, A84_r3, finish, hT, hne, hlt, hrd, In.av]
@[simp] theorem paperM_ev (a b : Int) (st : St) : callE E0 false (.fn 50 [] []) [.int .i64 a, .int .i64 b] st = some (.agg [.int .i64 a, .int .i64 b], st) := by
  rw [callE0 (by decide) (af := A50) rfl rfl]
  simp [A50, A50_r0, A50_r1, finish]
/-- A licence behind others, in a new row. -/
theorem snoc_ev {C J : List AObj} {lv : AV} {l : List Pp} (hv : PV C.length J lv l) (hl : l.length ≤ 100) (p : Pp) :
    ∃ (v1 : AV) (O1 : List AObj) (v2 : AV) (O2 : List AObj) (f : Nat → Nat), (∀ lo, appA 2 55 16 (.lst (some false) true 0 []) lv { heap := C ++ J, low := lo } = some (v1, { heap := C ++ (J ++ O1), low := lo }))
      ∧ (∀ lo, appA 2 55 16 v1 (.lst (some false) true 1 p.av) { heap := C ++ (J ++ O1), low := lo } = some (v2, { heap := C ++ (J ++ O2), low := f lo }))
      ∧ PV C.length (J ++ O2) v2 (l ++ [p]) ∧ ∀ x n, C.length + J.length ≤ n → x ≤ C.length → min x (f n) = x := by
  have hs := fun lo => hv.slice (lo := lo) (C := C) rfl
  have e0 : row Pp.av [p] = p.av := by simp [row]
  have er : (1 : Nat) * 16 ≤ room ∧ 1 ≤ room := by unfold room; omega
  cases l with
  | nil =>
    refine ⟨.lst (some false) true 0 [], [], .sl 2 (C ++ J).length 0 0 1 none, [.cells 0 (some (55, 2)) (row Pp.av [p])], id, fun lo => ?_, fun lo => ?_, .inr ⟨J.length, 0, by simp, by simp [cont]⟩, fun x n h1 h2 => Nat.min_eq_left (by simp; omega)⟩
    · have hs' := hs lo
      simp [appA, hs']
    · have r1 : 16 ≤ room := by unfold room; omega
      simp [appA, sliceCells, alloc, Pp.av, r1, er.2, row]
  | cons q l =>
    have r1 : (q :: l).length * 16 ≤ room := by unfold room; omega
    have r2 : (q :: l).length ≤ room := by unfold room; omega
    have r3 : ((q :: l).length + 1) * 16 ≤ room := by unfold room; omega
    have r4 : (q :: l).length + 1 ≤ room := by unfold room; omega
    have e2 := row_len Pp.len (q :: l)
    have e3 : row Pp.av ((q :: l) ++ [p]) = row Pp.av (q :: l) ++ row Pp.av [p] := row_append _ _
    refine ⟨.sl 2 (C ++ J).length 0 0 (q :: l).length none, [.cells 0 (some (55, 2)) (row Pp.av (q :: l))], .sl 2 (C ++ J).length 1 0 ((q :: l) ++ [p]).length none, [.cells 1 (some (55, 2)) (row Pp.av ((q :: l) ++ [p]))], fun lo => min lo (C.length + J.length), fun lo => ?_, fun lo => ?_, .inr ⟨J.length, 1, by simp, by simp [cont]⟩, fun x n h1 h2 => by simp only; omega⟩
    · have hs' := hs lo
      simp only [List.length_cons] at r1 r2 hs'
      simp [appA, hs', alloc, r1, r2]
    · have hg : (C ++ (J ++ [AObj.cells 0 (some (55, 2)) (row Pp.av (q :: l))]))[C.length + J.length]? = some (.cells 0 (some (55, 2)) (row Pp.av (q :: l))) := by simp [List.getElem?_append_right]
      have hst : ∀ o, (C ++ (J ++ [AObj.cells 0 (some (55, 2)) (row Pp.av (q :: l))])).set (C.length + J.length) o = C ++ (J ++ [o]) := fun o => by simp [List.set_append_right]
      rw [e3, e0]
      generalize row Pp.av (q :: l) = ra at *
      simp only [List.length_cons] at e2 r3 r4
      simp [appA, sliceCells, Pp.av, e2, r3, r4, mods, hg, hst]
section
variable {t : Town} {day : Int} {wh bh : Hd} {days bits : List Int}
attribute [local simp] opsT trOf accOf boxesOf AOp.uses AO.uses objOf heffOf boxOf allPairs AM.befores pairsFrom pairOk AM.ordB hits AX.slot slotsL slotsP AX.slotO Nat.testBit
def dreg12 : AC := .region A43_r12 (some [[], [], [], [1, 2], [3], [], [], [6], [], [7, 8], [9], [5, 10], [], [12], [], [13, 14], [15], [16], [11, 17, 11], [4, 18], [19], [0, 20, 18], [], [22, 21, 21, 0, 1, 2, 3, 4, 5, 6, 7, 8, 9, 10, 11, 12, 13, 14, 15, 16, 17, 18, 19, 20, 21, 22]]) [1, 2, 3, 4, 10, 11, 14, 15, 17] [4, 17]
set_option maxHeartbeats 2000000 in
theorem dreg12_ev (g : Good t) (hbl : bits.length ≤ 9223372036854775807) (hn : days.length ≤ 8) {i : Nat} {d : Int} (hd : days[i]? = some d) (hdr : 0 ≤ d ∧ d ≤ 999) {k : Nat} (hk : k < t.kinds.length) {n : Int} (hn0 : 0 ≤ n ∧ n < 6) {ov a14 : AV} (H : List AObj) (lo : Nat) (hlo : lo ≤ H.length) :
    ∃ f : Int, codeE E0 dreg12 { ts := [(1, .v (.int .i64 day)), (2, .v (lstA wh In.av days)), (3, .v (lstA bh In.av bits)), (4, .loc 4 0), (10, .v ov), (11, .v (.int .i64 i)), (14, .v a14), (15, .v (.int .i64 n)), (16, .v (.int .i64 k))], bs := [(4, t.cs)] } { heap := H, low := lo }
      = some (.norm, { ts := [(1, .v (.int .i64 day)), (2, .v (lstA wh In.av days)), (3, .v (lstA bh In.av bits)), (4, .loc 4 0), (10, .v ov), (11, .v (.int .i64 i)), (14, .v a14), (15, .v (.int .i64 n)), (17, .loc 17 0)], bs := [(4, t.cs), (17, [.int .i64 k, .int .i64 f])] }, { heap := H, low := lo }) := by
  have hlt := (List.getElem?_eq_some_iff.1 hd).1
  obtain ⟨v, hv⟩ := pick_ev (h := bh) hbl (3 * (i : Int) + n + 1)
  obtain ⟨kk, hkk⟩ : ∃ kk, t.kinds[k]? = some kk := ⟨_, List.getElem?_eq_getElem hk⟩
  have hkd : kdB kk = true := List.all_eq_true.1 g.kinds kk (List.mem_of_getElem? hkk)
  simp only [kdB, Bool.and_eq_true, amid_iff] at hkd
  have hT := fun s => turn_ev (x := v) (n := kk.days) (by omega) (by omega) s
  have hr := turnI_range (x := v) (n := kk.days) (by omega)
  have w1 : IntKind.wrap .i64 (3 * (i : Int)) = 3 * (i : Int) := wrap_small (by omega) (by omega)
  have w2 : IntKind.wrap .i64 (3 * (i : Int) + n) = 3 * (i : Int) + n := wrap_small (by omega) (by omega)
  have w3 : IntKind.wrap .i64 (3 * (i : Int) + n + 1) = 3 * (i : Int) + n + 1 := wrap_small (by omega) (by omega)
  have w4 : IntKind.wrap .i64 (d - turnI v kk.days) = d - turnI v kk.days := wrap_small (by omega) (by omega)
  have hrd := row_get In.len hd
  rw [Nat.mul_one] at hrd
  have hrk := row_get Kd.len hkk
  have hm : min lo H.length = lo := Nat.min_eq_left hlo
  exact ⟨_, by
    simp [dreg12, A43_r12, regionA, Town.cs, hlt, hrd, In.av, w1, w2, w3, hv, hk, hrk, Kd.av, hT, w4, hm]
    rfl⟩
end
end Go.Proofs.Tryd


namespace Go.Proofs.Tryd
open Go Go.Proofs.AM

theorem A43_l0_eq : A43_l0 = .seq (.seq (.region A43_r9 none [1, 2, 3, 4, 10, 11, 14, 15, 61] [4]) (.cond (.t 61) (.skip) (.exit 2))) (.seq (.block 3 (.seq (.region A43_r11 (some [[], [], [1], [], [2, 3], [0, 4], [], [6], [7], [5, 8, 5], [9, 9, 0, 1, 2, 3, 4, 5, 6, 7, 8, 9]]) [1, 2, 3, 4, 10, 11, 14, 15, 16] [4]) (.seq dreg12 (.seq (.region A43_r13 (some [[], [], [0, 1], [], [3], [2, 4, 2], [5, 5, 0, 1, 2, 3, 4, 5]]) [1, 2, 3, 4, 10, 11, 14, 15, 18] [4]) (.seq (.region A43_r14 none [1, 2, 3, 4, 10, 11, 14, 15, 18, 105] [4]) (.cond (.t 105) (.region A43_r15 none [1, 2, 3, 4, 10, 11, 14, 15] [4]) (.skip))))))) (.region A43_r10 none [1, 2, 3, 4, 10, 11, 14, 15] [4])) := rfl
section
variable {t : Town} {day : Int} {wh bh : Hd} {days bits : List Int}
def frD (t : Town) (day : Int) (wh bh : Hd) (days bits : List Int) (i : Nat) (ov : AV) (ex : List (Nat × TV)) : Fr :=
  { ts := [(1, .v (.int .i64 day)), (2, .v (lstA wh In.av days)), (3, .v (lstA bh In.av bits)), (4, .loc 4 0), (10, .v ov), (11, .v (.int .i64 i))] ++ ex, bs := [(4, t.cs)] }
theorem drawn_in (hf : t.Fits) (g : Good t) (hto : amid day 0 999 = true) (hbl : bits.length ≤ 9223372036854775807) (hn : days.length ≤ 8) {i : Nat} {d : Int} (hd : days[i]? = some d) (hdr : 0 ≤ d ∧ d ≤ 999) (C : List AObj) : ∀ (r : Nat) (n : Int) (found : Bool) (ov : AV) (l : List Pp) (J : List AObj), n + r = 6 → 0 ≤ n → PV C.length J ov l → planB t day l = true →
    ∃ n' found' ov' l' J', loopC E0 [1, 2, 3, 4, 10, 11, 14, 15] [4] A43_l0 (frD t day wh bh days bits i ov [(14, .v (.bool found)), (15, .v (.int .i64 n))]) { heap := C ++ J, low := C.length }
      = some (.exit 2, frD t day wh bh days bits i ov' [(14, .v (.bool found')), (15, .v (.int .i64 n')), (61, .v (.bool false))], { heap := C ++ J', low := C.length }) ∧ PV C.length J' ov' l' ∧ planB t day l' = true
  | 0, n, found, ov, l, J, hr, h0, hv, hp => by
    have : n = 6 := by omega
    subst this
    refine ⟨6, found, ov, l, J, ?_, hv, hp⟩
    rw [loopC_eq]
    simp [A43_l0, A43_r9, frD]
  | r + 1, n, true, ov, l, J, hr, h0, hv, hp => by
    refine ⟨n, true, ov, l, J, ?_, hv, hp⟩
    have hlt : n < 6 := by omega
    rw [loopC_eq]
    simp [A43_l0, A43_r9, frD, hlt]
  | r + 1, n, false, ov, l, J, hr, h0, hv, hp => by
    have hlt : n < 6 := by omega
    have hil := (List.getElem?_eq_some_iff.1 hd).1
    have gn := amid_iff.1 g.n
    have hp' := hp
    simp only [planB, Bool.and_eq_true, decide_eq_true_eq] at hp'
    obtain ⟨v, hv84⟩ := pick_ev (h := bh) hbl (3 * (i : Int) + n)
    have hT := fun s => turn_ev (x := v) (n := t.kinds.length) (by omega) (by omega) s
    have htr := turnI_range (x := v) (n := t.kinds.length) (by omega)
    obtain ⟨k, hk⟩ : ∃ k : Nat, turnI v t.kinds.length = k := ⟨(turnI v t.kinds.length).toNat, by omega⟩
    rw [hk] at hT htr
    have hkl : k < t.kinds.length := by omega
    obtain ⟨f, h12⟩ := dreg12_ev (day := day) (wh := wh) (bh := bh) g hbl hn hd hdr hkl (n := n) ⟨h0, hlt⟩ (ov := ov) (a14 := .bool false) (C ++ J) C.length (by simp)
    obtain ⟨v1, O1, v2, O2, fl, s1, s2, s3, s4⟩ := snoc_ev hv (by omega) ⟨k, f⟩
    obtain ⟨h2, ids2, p1, p2⟩ := s3.settle (C := C) rfl 7
    obtain ⟨J1, z1, z2, z3⟩ := frzAll_keep0 C ids2 (J ++ O2) p2
    have hP := fun s => plans_ev hf g hto (h := h2) (l := l ++ [⟨k, f⟩]) (by simp; omega) s
    have w1 : IntKind.wrap .i64 (3 * (i : Int)) = 3 * (i : Int) := wrap_small (by omega) (by omega)
    have w2 : IntKind.wrap .i64 (3 * (i : Int) + n) = 3 * (i : Int) + n := wrap_small (by omega) (by omega)
    have w3 : IntKind.wrap .i64 (n + 1) = n + 1 := wrap_small (by omega) (by omega)
    have m1 : ∀ x, min C.length (fl (C.length + (J.length + x))) = C.length := fun x => s4 _ _ (by omega) (Nat.le_refl _)
    have m2 : min C.length (fl (C.length + J.length)) = C.length := s4 _ _ (Nat.le_refl _) (Nat.le_refl _)
    have hmz : ∀ x, min C.length (C.length + x) = C.length := fun x => Nat.min_eq_left (by omega)
    simp only [Pp.av] at s2
    simp only [Town.cs] at hP h12
    cases hpl : planB t day (l ++ [⟨k, f⟩]) with
    | true =>
      rw [hpl] at hP
      obtain ⟨n', found', ov', l', J', i1, i2, i3⟩ := drawn_in hf g hto hbl hn hd hdr C r (n + 1) true v2 (l ++ [⟨k, f⟩]) J1 (by omega) (by omega) (s3.keep z2) hpl
      refine ⟨n', found', ov', l', J', ?_, i2, i3⟩
      rw [← i1]
      apply loopC_norm
      simp [A43_l0_eq, A43_r9, A43_r10, A43_r11, A43_r13, A43_r14, A43_r15, regionA_st s43_r11, regionA_st s43_r13, frD, Town.cs, hlt, w1, w2, w3, hv84, hT, h12, s1, s2, m1, m2, hmz, p1, z1, hP]
    | false =>
      rw [hpl] at hP
      obtain ⟨n', found', ov', l', J', i1, i2, i3⟩ := drawn_in hf g hto hbl hn hd hdr C r (n + 1) false ov l J1 (by omega) (by omega) ((hv.keep (Keep.app J O2)).keep z2) hp
      refine ⟨n', found', ov', l', J', ?_, i2, i3⟩
      rw [← i1]
      apply loopC_norm
      simp [A43_l0_eq, A43_r9, A43_r10, A43_r11, A43_r13, A43_r14, A43_r15, regionA_st s43_r11, regionA_st s43_r13, frD, Town.cs, hlt, w1, w2, w3, hv84, hT, h12, s1, s2, m1, m2, hmz, p1, z1, hP]
end
end Go.Proofs.Tryd


namespace Go.Proofs.Tryd
open Go Go.Proofs.AM

section
variable {t : Town} {day : Int} {wh bh : Hd} {days bits : List Int}
theorem In_get {l : List Int} {i : Nat} {d : Int} (h : l[i]? = some d) : (row In.av l).drop i = .int .i64 d :: row In.av (l.drop (i + 1)) := by
  have := row_get In.len h
  rw [Nat.mul_one] at this
  simpa [In.av] using this
theorem plan_facts {l : List Pp} (hp : planB t day l = true) : l.length ≤ 8 ∧ (∀ p ∈ l, paperB t p = true) := by
  simp only [planB, Bool.and_eq_true, decide_eq_true_eq] at hp
  exact ⟨hp.1.1, goB_all hp.1.2⟩
theorem join_all (g : Good t) {l : List Pp} (hp : planB t day l = true) : ∀ p ∈ t.held ++ l, paperB t p = true := fun p hq => by
  rcases List.mem_append.1 hq with hq | hq
  · exact List.all_eq_true.1 g.held p hq
  · exact (plan_facts hp).2 p hq
theorem drawn_out (hf : t.Fits) (g : Good t) (hto : amid day 0 999 = true) (hbl : bits.length ≤ 9223372036854775807) (hn : days.length ≤ 8) (hdr : ∀ x ∈ days, 0 ≤ x ∧ x ≤ 999) (C : List AObj) : ∀ (b a : List Int) (ov : AV) (l : List Pp) (J : List AObj), days = a ++ b → PV C.length J ov l → planB t day l = true →
    ∃ ov' l' J', loopC E0 [1, 2, 3, 4, 10, 11] [4] A43_l1 (frD t day wh bh days bits a.length ov []) { heap := C ++ J, low := C.length }
      = some (.exit 0, frD t day wh bh days bits days.length ov' [(26, .v (.bool false))], { heap := C ++ J', low := C.length }) ∧ PV C.length J' ov' l' ∧ planB t day l' = true
  | [], a, ov, l, J, e, hv, hp => by
    simp only [List.append_nil] at e
    subst e
    refine ⟨ov, l, J, ?_, hv, hp⟩
    rw [loopC_eq]
    simp [A43_l1, A43_r3, frD]
  | d :: b, a, ov, l, J, e, hv, hp => by
    have hlt : a.length < days.length := by rw [e]; simp
    have hd : days[a.length]? = some d := by rw [e]; simp
    have hrd := In_get hd
    have hdd := hdr d (List.mem_of_getElem? hd)
    have hw : IntKind.wrap .i64 ((a.length : Int) + 1) = (a.length : Int) + 1 := wrap_small (by omega) (by omega)
    obtain ⟨l8, lall⟩ := plan_facts hp
    have gh := g.nh
    obtain ⟨v1, O1, v2, O2, f, b1, b2, b3, b4⟩ := join_ev (ah := t.hh) (a := t.held) hv (by omega) (by omega)
    obtain ⟨h2, ids2, p1, p2⟩ := b3.settle (C := C) rfl 7
    obtain ⟨J1, z1, z2, z3⟩ := frzAll_keep0 C ids2 (J ++ O2) p2
    have hv1 := (hv.keep (Keep.app J O2)).keep z2
    have hM := fun s => marks_ev (h := h2) g.pause g.kinds (l := t.held ++ l) (by simp; omega) (join_all g hp) s
    have m1 : ∀ x, min C.length (f (C.length + (J.length + x))) = C.length := fun x => b4 _ _ (by omega) (Nat.le_refl _)
    have m2 : min C.length (f (C.length + J.length)) = C.length := b4 _ _ (Nat.le_refl _) (Nat.le_refl _)
    have hmz : ∀ x, min C.length (C.length + x) = C.length := fun x => Nat.min_eq_left (by omega)
    have hB := fun s => bars_ev hf d s
    obtain ⟨dn, hdn⟩ : ∃ dn : Nat, (dn : Int) = d := ⟨d.toNat, by omega⟩
    have hdl : dn < 1059 := by omega
    have hdl' : (dn : Int) < 1059 := by omega
    generalize hF : marksD t (fun _ => 0) (t.held ++ l) = F at hM
    generalize marksP t (fun _ => 0) (t.held ++ l) = G2 at hM
    have hFd := In_get (arr_get F hdl)
    simp only [Town.cs] at hM hB
    subst hdn
    have next : ∀ (ov1 : AV) (l1 : List Pp) (J2 : List AObj), PV C.length J2 ov1 l1 → planB t day l1 = true →
        codeE E0 A43_l1 (frD t day wh bh days bits a.length ov []) { heap := C ++ J, low := C.length } = some (.norm, frD t day wh bh days bits (a ++ [(dn : Int)]).length ov1 [], { heap := C ++ J2, low := C.length }) →
        ∃ ov' l' J', loopC E0 [1, 2, 3, 4, 10, 11] [4] A43_l1 (frD t day wh bh days bits a.length ov []) { heap := C ++ J, low := C.length }
          = some (.exit 0, frD t day wh bh days bits days.length ov' [(26, .v (.bool false))], { heap := C ++ J', low := C.length }) ∧ PV C.length J' ov' l' ∧ planB t day l' = true := fun ov1 l1 J2 hv2 hp2 hcode => by
      obtain ⟨ov', l', J', i1, i2, i3⟩ := drawn_out hf g hto hbl hn hdr C b (a ++ [(dn : Int)]) ov1 l1 J2 (by simp [e]) hv2 hp2
      refine ⟨ov', l', J', ?_, i2, i3⟩
      rw [← i1]
      exact loopC_norm (b := A43_l1) hcode
    cases hb : barredB t dn with
    | true =>
      rw [hb] at hB
      refine next ov l J1 hv1 hp ?_
      simp [A43_l1, A43_r3, A43_r4, A43_r5, A43_r6, regionA_st s43_r5, regionA_st s43_r6, frD, Town.cs, hlt, b1, b2, m1, m2, hmz, p1, z1, hM, hrd, hB, hw]
    | false =>
      rw [hb] at hB
      by_cases hc : 0 < F dn
      · refine next ov l J1 hv1 hp ?_
        simp [A43_l1, A43_r3, A43_r4, A43_r5, A43_r6, regionA_st s43_r5, regionA_st s43_r6, frD, Town.cs, hlt, b1, b2, m1, m2, hmz, p1, z1, hM, hrd, hB, hw, iaddr_arrV, hdl, hdl', hFd, hc]
      · obtain ⟨n', found', ov', l', J', i1, i2, i3⟩ := drawn_in (wh := wh) (bh := bh) hf g hto hbl hn hd hdd C 6 0 false ov l J1 (by omega) (by omega) hv1 hp
        refine next ov' l' J' i2 i3 ?_
        simp only [frD, Town.cs, List.cons_append, List.nil_append] at i1
        simp [A43_l1, A43_r3, A43_r4, A43_r5, A43_r6, A43_r7, A43_r8, regionA_st s43_r5, regionA_st s43_r6, frD, Town.cs, hlt, b1, b2, m1, m2, hmz, p1, z1, hM, hrd, hB, hw, iaddr_arrV, hdl, hdl', hFd, hc, i1]
theorem drawn_all (hf : t.Fits) (hn : days.length ≤ 8) (hdr : ∀ x ∈ days, 0 ≤ x ∧ x ≤ 999) (F : Nat → Int) {ov : AV} (st : St) (hlo : st.low ≤ st.heap.length) : ∀ (b a : List Int) (all : Bool), days = a ++ b →
    loopC E0 [2, 4, 10, 19, 21, 22] [4] A43_l2 { ts := [(2, .v (lstA wh In.av days)), (4, .loc 4 0), (10, .v ov), (19, .v (arrV F)), (21, .v (.bool all)), (22, .v (.int .i64 a.length))], bs := [(4, t.cs)] } st
    = some (.exit 4, { ts := [(2, .v (lstA wh In.av days)), (4, .loc 4 0), (10, .v ov), (19, .v (arrV F)), (21, .v (.bool (all && b.all fun d => decide (0 < F d.toNat) && !barredB t d))), (22, .v (.int .i64 days.length)), (121, .v (.bool false))], bs := [(4, t.cs)] }, st)
  | [], a, all, e => by
    simp only [List.append_nil] at e
    subst e
    rw [loopC_eq]
    simp [A43_l2, A43_r19]
  | d :: b, a, all, e => by
    have hlt : a.length < days.length := by rw [e]; simp
    have hd : days[a.length]? = some d := by rw [e]; simp
    have hrd := In_get hd
    have hdd := hdr d (List.mem_of_getElem? hd)
    have hm : min st.low st.heap.length = st.low := Nat.min_eq_left hlo
    have hw : IntKind.wrap .i64 ((a.length : Int) + 1) = (a.length : Int) + 1 := wrap_small (by omega) (by omega)
    have hB := fun s => bars_ev hf d s
    obtain ⟨dn, hdn⟩ : ∃ dn : Nat, (dn : Int) = d := ⟨d.toNat, by omega⟩
    have hdl : dn < 1059 := by omega
    have hdl' : (dn : Int) < 1059 := by omega
    have hFd := In_get (arr_get F hdl)
    simp only [Town.cs] at hB
    subst hdn
    have ih := fun all' => drawn_all hf hn hdr F (ov := ov) st hlo b (a ++ [(dn : Int)]) all' (by simp [e])
    have step : ∀ all' : Bool, all' = (all && (decide (0 < F dn) && !barredB t dn)) → codeE E0 A43_l2 { ts := [(2, .v (lstA wh In.av days)), (4, .loc 4 0), (10, .v ov), (19, .v (arrV F)), (21, .v (.bool all)), (22, .v (.int .i64 a.length))], bs := [(4, t.cs)] } st = some (.norm, { ts := [(2, .v (lstA wh In.av days)), (4, .loc 4 0), (10, .v ov), (19, .v (arrV F)), (21, .v (.bool all')), (22, .v (.int .i64 ((a ++ [(dn : Int)]).length : Int)))], bs := [(4, t.cs)] }, st) := fun all' ha => by
      subst ha
      cases all with
      | false => simp [A43_l2, A43_r19, A43_r20, A43_r21, regionA_st s43_r21, Town.cs, hlt, hrd, hm, hw]
      | true =>
        by_cases hc : 0 < F dn
        · cases hb : barredB t dn <;> rw [hb] at hB <;> simp [A43_l2, A43_r19, A43_r20, A43_r21, regionA_st s43_r21, Town.cs, hlt, hrd, hm, hw, iaddr_arrV, hdl, hdl', hFd, hc, hB]
        · simp [A43_l2, A43_r19, A43_r20, A43_r21, regionA_st s43_r21, Town.cs, hlt, hrd, hm, hw, iaddr_arrV, hdl, hdl', hFd, hc]
    have h1 := loopC_norm (ks := [2, 4, 10, 19, 21, 22]) (kb := [4]) (b := A43_l2) (fr := { ts := [(2, .v (lstA wh In.av days)), (4, .loc 4 0), (10, .v ov), (19, .v (arrV F)), (21, .v (.bool all)), (22, .v (.int .i64 a.length))], bs := [(4, t.cs)] }) (step _ rfl)
    rw [h1, ih]
    simp [Bool.and_assoc]
theorem lack_nil (hk : t.kinds.all kdB = true) {l : List Pp} (hall : ∀ p ∈ l, paperB t p = true) {days : List Int} (hdr : ∀ x ∈ days, 0 ≤ x ∧ x ≤ 999) : (days.all fun d => decide (0 < marksD t (fun _ => 0) l d.toNat) && !barredB t d) = decide (days.filter (lackB t l) = []) := by
  rw [Bool.eq_iff_iff, decide_eq_true_eq, List.filter_eq_nil_iff, List.all_eq_true]
  have key : ∀ x ∈ days, ((decide (0 < marksD t (fun _ => 0) l x.toNat) && !barredB t x) = true ↔ ¬ lackB t l x = true) := fun x hx => by
    have hr := hdr x hx
    obtain ⟨dn, rfl⟩ : ∃ dn : Nat, (dn : Int) = x := ⟨x.toNat, by omega⟩
    have := (marksD_pos hk (d := dn) (l := l) (f := fun _ => 0) hall (by simp)).1
    simp only [Int.lt_irrefl, false_or] at this
    simp only [Int.toNat_natCast, lackB, Bool.and_eq_true, decide_eq_true_eq, this]
    cases covB t l dn <;> cases barredB t dn <;> simp
  exact ⟨fun h x hx => (key x hx).1 (h x hx), fun h x hx => (key x hx).2 (h x hx)⟩
theorem drawn_ev (hf : t.Fits) (g : Good t) (hto : amid day 0 999 = true) (hbl : bits.length ≤ 9223372036854775807) (hn : days.length ≤ 8) (hdr : ∀ x ∈ days, 0 ≤ x ∧ x ≤ 999) (st : St) :
    ∃ h l, planB t day l = true ∧ callE E0 false (.fn 43 [] []) [.agg t.cs, .int .i64 day, lstA wh In.av days, lstA bh In.av bits] st = some (.tup [lstA h Pp.av l, .bool (decide (days.filter (lackB t (t.held ++ l)) = []))], st) := by
  have hp0 : planB t day [] = true := by simp [planB, goB, g.tog]
  obtain ⟨ov, l, J, i1, i2, i3⟩ := drawn_out (wh := wh) (bh := bh) hf g hto hbl hn hdr st.heap days [] (.lst (some true) true 0 []) [] [] rfl (.inl ⟨⟨some true, true⟩, rfl, fun _ => rfl⟩) hp0
  obtain ⟨l8, lall⟩ := plan_facts i3
  have gh := g.nh
  obtain ⟨v1, O1, v2, O2, f, b1, b2, b3, b4⟩ := join_ev (ah := t.hh) (a := t.held) i2 (by omega) (by omega)
  obtain ⟨h2, ids2, p1, p2⟩ := b3.settle (C := st.heap) rfl 7
  obtain ⟨J1, z1, z2, z3⟩ := frzAll_keep0 st.heap ids2 (J ++ O2) p2
  have hv1 := (i2.keep (Keep.app J O2)).keep z2
  have hM := fun s => marks_ev (h := h2) g.pause g.kinds (l := t.held ++ l) (by simp; omega) (join_all g i3) s
  have hlk := lack_nil g.kinds (join_all g i3) hdr
  have m1 : ∀ x, min st.heap.length (f (st.heap.length + (J.length + x))) = st.heap.length := fun x => b4 _ _ (by omega) (Nat.le_refl _)
  have m2 : min st.heap.length (f (st.heap.length + J.length)) = st.heap.length := b4 _ _ (Nat.le_refl _) (Nat.le_refl _)
  have hmz : ∀ x, min st.heap.length (st.heap.length + x) = st.heap.length := fun x => Nat.min_eq_left (by omega)
  have hA := drawn_all (wh := wh) (ov := ov) hf hn hdr (marksD t (fun _ => 0) (t.held ++ l)) { heap := st.heap ++ J1, low := st.heap.length } (by simp) days [] true rfl
  rw [Bool.true_and, hlk] at hA
  obtain ⟨h', ids', q1⟩ := hv1.settle_own (C := st.heap) rfl st.heap.length (Nat.le_refl _) 6
  refine ⟨h', l, i3, ?_⟩
  generalize marksD t (fun _ => 0) (t.held ++ l) = F at *
  generalize marksP t (fun _ => 0) (t.held ++ l) = G2 at *
  simp only [frD, Town.cs, List.cons_append, List.nil_append, List.append_nil, List.length_nil, Int.ofNat_zero, Int.cast_ofNat_Int] at i1 hA hM
  rw [callE0 (by decide) (af := A43) rfl rfl]
  simp [A43, A43_r0, A43_r1, A43_r2, A43_r16, A43_r17, A43_r18, A43_r22, regionA_st s43_r16, finish, Town.cs, i1, b1, b2, m1, m2, hmz, p1, z1, hM, hA, q1]
end
end Go.Proofs.Tryd


namespace Go.Proofs.Tryd
open Go Go.Proofs.AM

section
variable {t : Town} {today : Int}
theorem feeSum_nn (hk : t.kinds.all kdB = true) : ∀ {l : List Pp}, (∀ p ∈ l, paperB t p = true) → 0 ≤ feeSum t l ∧ feeSum t l ≤ 1000 * l.length
  | [], _ => by simp [feeSum]
  | p :: l, h => by
    have ih := feeSum_nn hk (l := l) (fun q hq => h q (by simp [hq]))
    obtain ⟨kk, e1, _⟩ := kd_of (h p (by simp)) hk
    have := fee_of (h p (by simp)) hk e1
    rw [feeSum_cons, List.length_cons]
    omega
theorem goB_facts : ∀ {l : List Pp} {pr : Option Int}, goB t today pr l = true → l.Pairwise (fun q p => q.first ≤ p.first) ∧ (∀ f, pr = some f → ∀ p ∈ l, f ≤ p.first) ∧ ∀ p ∈ l, noticeOf t p ≤ p.first - today
  | [], _, _ => by simp
  | p :: l, pr, h => by
    simp only [goB, stepB, Bool.and_eq_true, decide_eq_true_eq] at h
    obtain ⟨h1, h2, h3⟩ := goB_facts h.2
    have h4 := h2 p.first rfl
    refine ⟨List.pairwise_cons.2 ⟨h4, h1⟩, fun f hf q hq => ?_, fun q hq => ?_⟩
    · subst hf
      have := h.1.1.2
      simp only [ordB, decide_eq_true_eq] at this
      rcases List.mem_cons.1 hq with rfl | hq
      · exact this
      · have := h4 q hq
        omega
    · rcases List.mem_cons.1 hq with rfl | hq
      · exact h.1.2
      · exact h3 q hq
theorem V_opt (hk : t.kinds.all kdB = true) (hpa : 0 ≤ t.pause) : ∀ (l : List Pp) (n : Nat) (e : Int) (ds : List Int), ds.length ≤ n → (∀ p ∈ l, paperB t p = true) → l.Pairwise (fun q p => goesB t p q = true ∧ q.first ≤ p.first) → (∀ p ∈ l, e + t.pause + 1 ≤ p.first ∧ noticeOf t p ≤ p.first - today ∧ ∀ q ∈ t.held, goesB t p q = true) →
    (∀ x ∈ ds, x ≤ e ∨ covB t t.held x = true ∨ covB t l x = true) → ds.Pairwise (· < ·) → V t today n e ds ≤ 16 * feeSum t l + l.length
  | l, n, e, ds, hn, hall, hpw, hfa, hcov, hso => by
    have hfn := feeSum_nn hk hall
    cases hs : skipD t e ds with
    | nil =>
      rw [V_nil hs]
      omega
    | cons d ds1 =>
      obtain ⟨a, ha1, ha2⟩ := skipD_split (t := t) (ds := ds) (e := e)
      rw [hs] at ha1
      have hd := skipD_head hs
      have hlt := (skipD_sub t e hs).1
      have hdm : d ∈ ds := by rw [ha1]; simp
      have hdc : covB t l d = true := by
        rcases hcov d hdm with h | h | h
        · exact absurd h hd.1
        · rw [hd.2] at h; cases h
        · exact h
      have hso2 : (d :: ds1).Pairwise (· < ·) := by
        rw [ha1] at hso
        exact (List.pairwise_append.1 hso).2.1
      cases l with
      | nil => simp [covB] at hdc
      | cons p l =>
        obtain ⟨n, rfl⟩ : ∃ m, n = m + 1 := ⟨n - 1, by omega⟩
        have hp := hall p (by simp)
        have hr := end_range hp hk
        obtain ⟨f1, f2, f3⟩ := hfa p (by simp)
        have hpw' := List.pairwise_cons.1 hpw
        have hnext : ∀ q ∈ l, endB t p + t.pause + 1 ≤ q.first := fun q hq => by
          obtain ⟨g1, g2⟩ := hpw'.1 q hq
          have hdq := days_pos hk (hall q (by simp [hq]))
          have hdp := days_pos hk hp
          unfold goesB endB at *
          split at g1 <;> simp only [decide_eq_true_eq] at g1 <;> omega
        rw [feeSum_cons, List.length_cons]
        have hfp : 0 ≤ feeOf t p := by
          obtain ⟨kk, e1, _⟩ := kd_of hp hk
          have := fee_of hp hk e1
          omega
        by_cases hc : p.first ≤ d ∧ d ≤ endB t p
        · have hfit : fitB t today e d p = true := by
            simp only [fitB, Bool.and_eq_true, decide_eq_true_eq, List.all_eq_true]
            exact ⟨⟨⟨⟨⟨hp, hc.1⟩, hc.2⟩, f2⟩, f1⟩, f3⟩
          have h1 := (V_least (today := today) (n := n) hs).low _ ⟨p, hfit, rfl⟩
          have ih := V_opt hk hpa l n (endB t p) ds1 (by omega) (fun q hq => hall q (by simp [hq])) hpw'.2 (fun q hq => ⟨hnext q hq, (hfa q (by simp [hq])).2⟩) (fun x hx => by
            rcases hcov x (by rw [ha1]; simp [hx]) with h | h | h
            · exact .inl (by omega)
            · exact .inr (.inl h)
            · have e : covB t (p :: l) x = (amid x p.first (endB t p) || covB t l x) := by simp [covB]
              rw [e, Bool.or_eq_true, amid_iff] at h
              rcases h with h | h
              · exact .inl h.2
              · exact .inr (.inr h)) (List.pairwise_cons.1 hso2).2
          omega
        · have hdc' : covB t l d = true := by
            have e : covB t (p :: l) d = (amid d p.first (endB t p) || covB t l d) := by simp [covB]
            rw [e, Bool.or_eq_true, amid_iff] at hdc
            rcases hdc with h | h
            · exact absurd h hc
            · exact h
          have hdgt : endB t p < d := by
            simp only [covB, List.any_eq_true] at hdc'
            obtain ⟨q, hq, h⟩ := hdc'
            have h1 := hnext q hq
            rw [amid_iff] at h
            omega
          have ih := V_opt hk hpa l (n + 1) e ds hn (fun q hq => hall q (by simp [hq])) hpw'.2 (fun q hq => hfa q (by simp [hq])) (fun x hx => by
            rcases hcov x hx with h | h | h
            · exact .inl h
            · exact .inr (.inl h)
            · have e1 : covB t (p :: l) x = (amid x p.first (endB t p) || covB t l x) := by simp [covB]
              rw [e1, Bool.or_eq_true, amid_iff] at h
              rcases h with h | h
              · rw [ha1] at hx
                rcases List.mem_append.1 hx with hx | hx
                · rcases ha2 x hx with h' | h'
                  · exact .inl h'
                  · exact .inr (.inl h')
                · rcases List.mem_cons.1 hx with rfl | hx
                  · omega
                  · have := (List.pairwise_cons.1 hso2).1 x hx
                    omega
              · exact .inr (.inr h)) hso
          omega
  termination_by l => l.length
theorem plan_opt (g : Good t) {days : List Int} (hw : wantB days = true) {l : List Pp} (hp : planB t today l = true) (hlk : days.filter (lackB t (t.held ++ l)) = []) : priceV t today days ≤ 16 * feeSum t l + l.length := by
  have hpa := (amid_iff.1 g.pause)
  have hw' := hw
  simp only [wantB, Bool.and_eq_true, decide_eq_true_eq] at hw'
  have s1 := (rise_facts (e := -1) (by omega) hw'.2).2
  have hp' := hp
  simp only [planB, Bool.and_eq_true, decide_eq_true_eq] at hp'
  obtain ⟨l8, lall⟩ := plan_facts hp
  obtain ⟨g1, _, g3⟩ := goB_facts hp'.1.2
  rw [togB_iff] at hp'
  have htp := List.pairwise_append.1 hp'.2.2
  rw [List.filter_eq_nil_iff] at hlk
  have hlk' : ∀ x ∈ days, covB t (t.held ++ l) x = true ∧ barredB t x = false := fun x hx => by
    have := hlk x hx
    simp only [lackB, Bool.not_eq_true, Bool.or_eq_false_iff, Bool.not_eq_false'] at this
    exact this
  have hb : days.any (barredB t) = false := by
    rw [List.any_eq_false]
    intro x hx
    rw [(hlk' x hx).2]
    simp
  rw [priceV, hb, if_neg (by simp)]
  refine V_opt g.kinds hpa.1 l 8 (-1000) days hw'.1 lall (htp.2.1.and g1) (fun p hp => ⟨?_, g3 p hp, fun q hq => htp.2.2 q hq p hp⟩) (fun x hx => ?_) s1
  · have := days_pos g.kinds (lall p hp)
    omega
  · have := (hlk' x hx).1
    simp only [covB, List.any_append, Bool.or_eq_true] at this ⊢
    exact .inr this
end
end Go.Proofs.Tryd


namespace Go.Proofs.Tryd
open Go Go.Proofs.AM

section
variable {t : Town} {day : Int} {wh bh : Hd} {days bits : List Int}
theorem cheap_loop (hf : t.Fits) (hn : days.length ≤ 8) (hdr : ∀ x ∈ days, 0 ≤ x ∧ x ≤ 999) (F : Nat → Int) (hok : ∀ x ∈ days, 0 < F x.toNat ∧ barredB t x = false) {a10 a12 a14 a15 : AV} (st : St) (hlo : st.low ≤ st.heap.length) : ∀ (b a : List Int), days = a ++ b →
    loopC E0 [2, 4, 10, 12, 14, 15, 24, 26] [4] A9_l0 { ts := [(2, .v (lstA wh In.av days)), (4, .loc 4 0), (10, .v a10), (12, .v a12), (14, .v a14), (15, .v a15), (24, .v (arrV F)), (26, .v (.int .i64 a.length))], bs := [(4, t.cs)] } st
    = some (.exit 0, { ts := [(2, .v (lstA wh In.av days)), (4, .loc 4 0), (10, .v a10), (12, .v a12), (14, .v a14), (15, .v a15), (24, .v (arrV F)), (26, .v (.int .i64 days.length)), (178, .v (.bool false))], bs := [(4, t.cs)] }, st)
  | [], a, e => by
    simp only [List.append_nil] at e
    subst e
    rw [loopC_eq]
    simp [A9_l0, A9_r19]
  | d :: b, a, e => by
    have hlt : a.length < days.length := by rw [e]; simp
    have hd : days[a.length]? = some d := by rw [e]; simp
    have hrd := In_get hd
    have hdm := List.mem_of_getElem? hd
    have hdd := hdr d hdm
    have hdo := hok d hdm
    have hm : min st.low st.heap.length = st.low := Nat.min_eq_left hlo
    have hw : IntKind.wrap .i64 ((a.length : Int) + 1) = (a.length : Int) + 1 := wrap_small (by omega) (by omega)
    have hB := fun s => bars_ev hf d s
    rw [hdo.2] at hB
    obtain ⟨dn, hdn⟩ : ∃ dn : Nat, (dn : Int) = d := ⟨d.toNat, by omega⟩
    have hdl : dn < 1059 := by omega
    have hdl' : (dn : Int) < 1059 := by omega
    have hFd := In_get (arr_get F hdl)
    simp only [Town.cs] at hB
    subst hdn
    have hF0 : (F dn == 0) = false := by have := hdo.1; simp at this ⊢; omega
    rw [loopC_norm (fr' := { ts := [(2, .v (lstA wh In.av days)), (4, .loc 4 0), (10, .v a10), (12, .v a12), (14, .v a14), (15, .v a15), (24, .v (arrV F)), (26, .v (.int .i64 ((a ++ [(dn : Int)]).length : Int)))], bs := [(4, t.cs)] }) (st' := st) (by
      simp [A9_l0, A9_r19, A9_r20, A9_r21, regionA_st s9_r21, Town.cs, hlt, hrd, hm, hw, iaddr_arrV, hdl, hdl', hFd, hF0, hB]), cheap_loop hf hn hdr F hok st hlo b (a ++ [(dn : Int)]) (by simp [e])]
set_option maxHeartbeats 4000000 in
theorem cheapLaw_ev (hf : t.Fits) (hwl : days.length ≤ 9223372036854775807) (hbl : bits.length ≤ 9223372036854775807) (today : Int) (st : St) : callE E0 false (.fn 9 [] []) [.agg t.cs, .int .i64 today, lstA wh In.av days, lstA bh In.av bits] st = some (.bool true, st) := by
  have hS := fun s => sound_ev (t := t) hf s
  have hR := fun s => rises_ev (h := wh) hwl s
  rw [callE0 (by decide) (af := A9) rfl rfl]
  cases hc : checkB t with
  | false =>
    simp only [Town.cs, hc] at hS
    simp [A9, A9_r0, A9_r1, A9_r2, finish, Town.cs, hS]
  | true =>
    cases hw : wantB days with
    | false =>
      simp only [Town.cs, hc] at hS
      unfold wantB at hw
      cases hr : riseB (-1) days with
      | false =>
        simp only [hr] at hR
        simp [A9, A9_r0, A9_r1, A9_r2, finish, Town.cs, hS, hR]
      | true =>
        simp only [hr] at hR
        rw [hr, Bool.and_true, decide_eq_false_iff_not] at hw
        have h8 : (8 : Int) < days.length := by omega
        simp [A9, A9_r0, A9_r1, A9_r2, finish, Town.cs, hS, hR, h8]
    | true =>
      have g := good_of hc
      have hw' := hw
      simp only [wantB, Bool.and_eq_true, decide_eq_true_eq] at hw'
      obtain ⟨w1, w2, w3⟩ := want_facts hw
      have h8 : ¬ (8 : Int) < days.length := by omega
      have hT := fun s => turn_ev (x := today) (n := 1000) (by omega) (by omega) s
      have htr := turnI_range (x := today) (n := 1000) (by omega)
      generalize turnI today 1000 = day at *
      have hto : amid day 0 999 = true := amid_iff.2 ⟨htr.1, by omega⟩
      have gh := g.nh
      have hF := fun s => fee_ok (wh := wh) hf hc hto hw s
      obtain ⟨ho, o, hop, hD⟩ := drawn_ev (wh := wh) (bh := bh) hf g hto hbl w1 w2 { heap := st.heap, low := st.heap.length }
      obtain ⟨o8, oall⟩ := plan_facts hop
      have hI := fun s => isPlan_ok (h := ho) (plan := o) hf hc hto (by omega) s
      rw [hop] at hI
      have hro : rightB t o = true := by
        simp only [rightB, Bool.and_eq_true, decide_eq_true_eq]
        exact ⟨o8, List.all_eq_true.2 oall⟩
      have hK := fun s => lacking_ok (h := ho) (hw := wh) hf hc hw hro s
      have hFo := fun s => feesM_ev g (h := ho) (l := o) (by omega) oall s
      have hopt : days.filter (lackB t (t.held ++ o)) = [] → priceV t day days ≤ 16 * feeSum t o + o.length := fun h => plan_opt g hw hop h
      have hfo := feeSum_nn g.kinds oall
      have n1 : (never : Int) = 1073741824 := rfl
      generalize hlk : days.filter (lackB t (t.held ++ o)) = lk at *
      have hle : (decide (lk.length = 0)) = decide (lk = []) := by cases lk <;> simp
      simp only [Town.cs, hc, hw'.2] at hS hR hF hD hI hK hFo
      rcases cheapest_ok (wh := wh) hf hc hto hw { heap := st.heap, low := st.heap.length } with ⟨hn, hC⟩ | ⟨h, cost, l, hn, hbw, h0, hC⟩
      · simp only [hn, if_true] at hF
        simp only [Town.cs] at hC
        have hne : ¬ lk = [] := fun h => by
          have := hopt h
          omega
        have hne2 : lk.length ≠ 0 := fun h => hne (List.eq_nil_of_length_eq_zero h)
        have hne3 : ((lk.length : Int) == 0) = false := by simp; exact hne
        simp [A9, A9_r0, A9_r1, A9_r3, A9_r4, A9_r5, A9_r6, A9_r7, A9_r8, A9_r9, A9_r11, A9_r12, finish, Town.cs, hS, hR, h8, hT, hF, hD, hI, hK, hC, daysV, hne, hne3]
      · simp only [hn, if_false] at hF
        obtain ⟨hpl, hal⟩ := hbw.plan g h0
        have hlkl := hbw.lack w2 w3 h0
        obtain ⟨l8, lall⟩ := plan_facts hpl
        have hrl : rightB t l = true := by
          simp only [rightB, Bool.and_eq_true, decide_eq_true_eq]
          exact ⟨l8, hal⟩
        have hI2 := fun s => isPlan_ok (h := h) (plan := l) hf hc hto (by omega) s
        rw [hpl] at hI2
        have hK2 := fun s => lacking_ok (h := h) (hw := wh) hf hc hw hrl s
        rw [hlkl] at hK2
        have hP := fun s => plans_ev hf g hto (h := h) (l := l) (by omega) s
        rw [hpl] at hP
        have hFl := fun s => feesM_ev g (h := h) (l := l) (by omega) lall s
        rcases hbw.facts g.kinds with ⟨x1, _⟩ | ⟨_, x1, x2, x3, x4⟩
        · omega
        have hfs : feeSum t l = cost := by
          rcases hbw.2 with ⟨x, _⟩ | ⟨_, _, x, _⟩
          · omega
          · exact x.symm
        rw [hfs] at hFl
        rw [← x2] at hF
        have hpv : PV st.heap.length [] (lstA ⟨h.nl, true⟩ Pp.av l) l := .inl ⟨⟨h.nl, true⟩, rfl, fun _ => rfl⟩
        obtain ⟨v1, O1, v2, O2, f, b1, b2, b3, b4⟩ := join_ev (C := st.heap) (J := []) (ah := t.hh) (a := t.held) hpv (by omega) (by omega)
        have b2' : ∀ lo, appA 2 55 16 v1 (lstA h Pp.av l) { heap := st.heap ++ O1, low := lo } = some (v2, { heap := st.heap ++ O2, low := f lo }) := fun lo => by
          have := b2 lo
          simp only [List.nil_append] at this
          rw [← this]
          unfold appA sliceCells lstA
          rfl
        simp only [List.append_nil, List.nil_append, List.length_nil, Nat.add_zero] at b1 b3 b4
        obtain ⟨h2, ids2, p1, p2⟩ := b3.settle rfl 7
        obtain ⟨J1, z1, z2, z3⟩ := frzAll_keep0 st.heap ids2 O2 p2
        have hM := fun s => marks_ev (h := h2) g.pause g.kinds (l := t.held ++ l) (by simp; omega) (join_all g hpl) s
        have m1 : ∀ n, min st.heap.length (f (st.heap.length + n)) = st.heap.length := fun n => b4 _ _ (by omega) (Nat.le_refl _)
        have m2 := b4 st.heap.length st.heap.length (Nat.le_refl _) (Nat.le_refl _)
        have hln := lack_nil g.kinds (join_all g hpl) w2
        rw [hlkl] at hln
        simp only [decide_true, List.all_eq_true, Bool.and_eq_true, decide_eq_true_eq, Bool.not_eq_true'] at hln
        have hlo := fun a10 a12 a14 a15 => cheap_loop (wh := wh) (a10 := a10) (a12 := a12) (a14 := a14) (a15 := a15) hf w1 w2 (marksD t (fun _ => 0) (t.held ++ l)) (fun x hx => hln x hx) { heap := st.heap ++ J1, low := st.heap.length } (by simp) days [] rfl
        generalize marksD t (fun _ => 0) (t.held ++ l) = F at *
        generalize marksP t (fun _ => 0) (t.held ++ l) = G2 at *
        simp only [Town.cs, List.length_nil, Int.ofNat_zero, Int.cast_ofNat_Int] at hC hI2 hK2 hP hFl hM hlo
        have hd0 : daysV [] = lstA ⟨some true, true⟩ In.av [] := rfl
        by_cases hlkn : lk = []
        · have ho := hopt hlkn
          subst hlkn
          by_cases hgt : cost < feeSum t o
          · simp [A9, A9_r0, A9_r1, A9_r3, A9_r4, A9_r5, A9_r6, A9_r7, A9_r8, A9_r9, A9_r11, A9_r13, A9_r14, A9_r15, A9_r17, A9_r18, A9_r23, regionA_st s9_r17, finish, Town.cs, hS, hR, h8, hT, hF, hD, hI, hK, hC, hd0, hI2, hK2, hP, hFl, hFo, b1, b2', p1, z1, hM, m1, m2, hlo, hgt]
          · have heq : feeSum t o = cost := by omega
            have hge : l.length ≤ o.length := by omega
            simp [A9, A9_r0, A9_r1, A9_r3, A9_r4, A9_r5, A9_r6, A9_r7, A9_r8, A9_r9, A9_r11, A9_r13, A9_r14, A9_r15, A9_r17, A9_r18, A9_r23, regionA_st s9_r17, finish, Town.cs, hS, hR, h8, hT, hF, hD, hI, hK, hC, hd0, hI2, hK2, hP, hFl, hFo, b1, b2', p1, z1, hM, m1, m2, hlo, heq, hge]
        · have hne3 : ((lk.length : Int) == 0) = false := by simp; exact hlkn
          simp [A9, A9_r0, A9_r1, A9_r3, A9_r4, A9_r5, A9_r6, A9_r7, A9_r8, A9_r9, A9_r11, A9_r13, A9_r14, A9_r15, A9_r17, A9_r18, A9_r23, regionA_st s9_r17, finish, Town.cs, hS, hR, h8, hT, hF, hD, hI, hK, hC, hd0, daysV, hI2, hK2, hP, hFl, hFo, b1, b2', p1, z1, hM, m1, m2, hlo, hlkn, hne3]
end
end Go.Proofs.Tryd

