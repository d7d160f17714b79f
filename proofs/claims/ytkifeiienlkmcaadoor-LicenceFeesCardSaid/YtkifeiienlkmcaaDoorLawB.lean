/-
  The program's planner: plans in the heap.
-/
import Derived.Test.YtkifeiienlkmcaaDoorLawA
set_option linter.all false
namespace Go.Proofs.Tryd
open Go Go.Proofs.AM

def cont : AObj → Option (Nat × List AV)
  | .cells v _ cs => some (v, cs)
  | .frz v cs => some (v, cs)
  | _ => none
/-- What lies there still lies there. -/
def Keep (J J' : List AObj) : Prop := ∀ (j : Nat) (o : Nat × List AV), J[j]?.bind cont = some o → J'[j]?.bind cont = some o
theorem Keep.refl (J : List AObj) : Keep J J := fun _ _ h => h
theorem Keep.trans {J J' J'' : List AObj} (h : Keep J J') (h' : Keep J' J'') : Keep J J'' := fun j o e => h' j o (h j o e)
theorem Keep.app (J O : List AObj) : Keep J (J ++ O) := fun j o e => by
  cases hj : J[j]? with
  | none => rw [hj] at e; cases e
  | some x =>
    have hlt := (List.getElem?_eq_some_iff.1 hj).1
    rw [List.getElem?_append_left hlt]
    exact e
theorem cont_frz1 (o : AObj) : cont (frz1 o) = cont o := by cases o <;> rfl
theorem Keep.frz (J : List AObj) (j : Nat) : ∀ o, J[j]? = some o → Keep J (J.set j (frz1 o)) := fun o ho i c e => by
  rw [List.getElem?_set]
  split
  · rename_i h
    subst h
    rw [ho] at e
    have hlt := (List.getElem?_eq_some_iff.1 ho).1
    rw [if_pos hlt]
    simpa [cont_frz1] using e
  · exact e
/-- A slice of licences: a row that is told, or one of the heap, behind the first objects. -/
def PV (K : Nat) (J : List AObj) (v : AV) (l : List Pp) : Prop := (∃ h : Hd, v = lstA h Pp.av l ∧ (l = [] → h.ex = true)) ∨ ∃ j ver, v = .sl 2 (K + j) ver 0 l.length none ∧ J[j]?.bind cont = some (ver, row Pp.av l)
theorem PV.keep {K : Nat} {J J' : List AObj} {v : AV} {l : List Pp} (h : PV K J v l) (k : Keep J J') : PV K J' v l := by
  rcases h with h | ⟨j, ver, e, h⟩
  · exact .inl h
  · exact .inr ⟨j, ver, e, k _ _ h⟩
theorem PV.cells {K : Nat} {J : List AObj} {v : AV} {l : List Pp} (h : PV K J v l) : v.cells = some [v] := by
  rcases h with ⟨h, rfl, _⟩ | ⟨j, ver, rfl, h⟩ <;> rfl
theorem PV.slice {K : Nat} {C J : List AObj} {v : AV} {l : List Pp} {lo : Nat} (hC : C.length = K) (h : PV K J v l) : sliceCells 2 { heap := C ++ J, low := lo } v = some (l.length, row Pp.av l) := by
  subst hC
  have e1 := row_len Pp.len l
  rcases h with ⟨h, rfl, _⟩ | ⟨j, ver, rfl, h⟩
  · simp [sliceCells, lstA, e1]
  · have hg : (C ++ J)[C.length + j]? = J[j]? := by simp [List.getElem?_append_right]
    cases hj : J[j]? with
    | none => rw [hj] at h; cases h
    | some o =>
      rw [hj] at h
      have htk : (row Pp.av l).take (l.length * 2) = row Pp.av l := List.take_of_length_le (Nat.le_of_eq e1)
      cases o <;> simp [cont] at h <;> simp [sliceCells, hg, hj, h.1, h.2, e1, htk]
/-- A licence put before a plan. -/
theorem PV.cons {K : Nat} {C J : List AObj} {v : AV} {l : List Pp} (hC : C.length = K) (h : PV K J v l) (hn : l.length ≤ 100) (p : Pp) : ∃ v' O, (∀ lo, appA 2 55 16 (.lst (some false) true 1 p.av) v { heap := C ++ J, low := lo } = some (v', { heap := C ++ (J ++ O), low := lo })) ∧ PV K (J ++ O) v' (p :: l) := by
  have hs := fun lo => h.slice (lo := lo) hC
  have r1 : (1 + l.length) * 16 ≤ room := by unfold room; omega
  have r2 : 1 + l.length ≤ room := by unfold room; omega
  cases l with
  | nil =>
    refine ⟨.lst (some false) true 1 p.av, [], fun lo => ?_, .inl ⟨⟨some false, true⟩, by simp [lstA, row], fun h => by cases h⟩⟩
    simp [appA, hs]
  | cons q l =>
    refine ⟨.sl 2 (C ++ J).length 0 0 (1 + (q :: l).length) none, [.cells 0 (some (55, 2)) (row Pp.av (p :: q :: l))], fun lo => ?_, .inr ⟨J.length, 0, ?_, ?_⟩⟩
    · simp only [List.length_cons] at r1 r2 hs ⊢
      simp [appA, hs, r1, r2, alloc, Pp.av, row]
    · rw [← hC]
      simp [Nat.add_comm]
    · simp [cont]
/-- A plan handed on: it is told by its cells. -/
theorem PV.settle {K : Nat} {C J : List AObj} {v : AV} {l : List Pp} (hC : C.length = K) (h : PV K J v l) (d : Nat) : ∃ h' ids, AM.settle (C ++ J) 0 true (d + 1) v = some (lstA h' Pp.av l, ids) ∧ ∀ i ∈ ids, K ≤ i := by
  have e1 := row_len Pp.len l
  have e2 : ∀ (hp : List AObj) (s d : Nat) (refs : Bool), mapS (AM.settle hp s refs d) (row Pp.av l) = some (row Pp.av l, []) := fun hp s d refs => mapS_plain (fun c hc => plainA.scal (row_scal Pp.sc _ c hc) d)
  subst hC
  rcases h with ⟨h, rfl, _⟩ | ⟨j, ver, rfl, h⟩
  · exact ⟨h, [], by simp [lstA, e2], by simp⟩
  · have hg : (C ++ J)[C.length + j]? = J[j]? := by simp [List.getElem?_append_right]
    have htk : (row Pp.av l).take (l.length * 2) = row Pp.av l := List.take_of_length_le (Nat.le_of_eq e1)
    refine ⟨⟨some false, false⟩, [C.length + j], ?_, by simp⟩
    cases hj : J[j]? with
    | none => rw [hj] at h; cases h
    | some o =>
      rw [hj] at h
      cases o <;> simp [cont] at h <;> simp [hg, hj, h.1, h.2, e1, htk, e2, lstA]
theorem frzAll_keep {C : List AObj} : ∀ (ids : List Nat) (J : List AObj), (∀ i ∈ ids, C.length ≤ i) → ∃ J', frzAll (C ++ J) ids = C ++ J' ∧ Keep J J' ∧ J'.length = J.length
  | [], J, _ => ⟨J, rfl, Keep.refl J, rfl⟩
  | i :: ids, J, h => by
    have hi := h i (by simp)
    obtain ⟨j, rfl⟩ := Nat.exists_eq_add_of_le hi
    have hg : (C ++ J)[C.length + j]? = J[j]? := by simp [List.getElem?_append_right]
    simp only [frzAll, hg]
    cases hj : J[j]? with
    | none => exact frzAll_keep ids J (fun i hi => h i (by simp [hi]))
    | some o =>
      have hs : (C ++ J).set (C.length + j) (frz1 o) = C ++ J.set j (frz1 o) := by simp [List.set_append_right]
      simp only [hs]
      obtain ⟨J', h1, h2, h3⟩ := frzAll_keep ids (J.set j (frz1 o)) (fun i hi => h i (by simp [hi]))
      exact ⟨J', h1, (Keep.frz J j o hj).trans h2, by rw [h3, List.length_set]⟩
end Go.Proofs.Tryd

namespace Go.Proofs.Tryd
open Go Go.Proofs.AM

/-- Licences, one behind the other, that cover days. -/
inductive Chain (t : Town) (today : Int) : Int → List Int → List Pp → Prop
  | nil {e ds} : skipD t e ds = [] → Chain t today e ds []
  | cons {e ds d ds' p l} : skipD t e ds = d :: ds' → fitB t today e d p = true → Chain t today (endB t p) ds' l → Chain t today e ds (p :: l)
def feeSum (t : Town) (l : List Pp) : Int := (l.map (feeOf t)).sum
section
variable {t : Town} {today : Int} {wh : Hd} {days : List Int}
theorem Chain.len {e : Int} {ds : List Int} {l : List Pp} (h : Chain t today e ds l) : l.length ≤ ds.length := by
  induction h with
  | nil _ => simp
  | cons h1 h2 _ ih =>
    have := (skipD_sub t _ h1).1
    simp
    omega
theorem Chain.fees (hk : t.kinds.all kdB = true) {e : Int} {ds : List Int} {l : List Pp} (h : Chain t today e ds l) : 0 ≤ feeSum t l ∧ feeSum t l ≤ 1000 * l.length := by
  induction h with
  | nil _ => simp [feeSum]
  | cons h1 h2 _ ih =>
    simp only [fitB, Bool.and_eq_true] at h2
    obtain ⟨kk, e1, _⟩ := kd_of h2.1.1.1.1.1 hk
    have := fee_of h2.1.1.1.1.1 hk e1
    simp only [feeSum, List.map_cons, List.sum_cons, List.length_cons] at ih ⊢
    omega
theorem Chain.of_skip {e e' : Int} {ds ds' : List Int} {l : List Pp} (h : Chain t today e ds l) (hs : skipD t e ds = skipD t e' ds') (hf : ∀ d p, fitB t today e d p = true → fitB t today e' d p = true) : Chain t today e' ds' l := by
  cases h with
  | nil h => exact .nil (by rw [← hs]; exact h)
  | cons h1 h2 h3 => exact .cons (by rw [← hs]; exact h1) (hf _ _ h2) h3
/-- A bill that is right: there is no plan, or this is one, of that cost. -/
def BillV (t : Town) (today : Int) (K : Nat) (J : List AObj) (e : Int) (ds : List Int) (v : Int) (cost : Int) (pv : AV) : Prop :=
  ∃ l, PV K J pv l ∧ l.length ≤ 8 ∧ ((cost = -1 ∧ v = never) ∨ (0 ≤ cost ∧ Chain t today e ds l ∧ cost = feeSum t l ∧ 16 * cost + l.length = v))
theorem BillV.keep {K : Nat} {J J' : List AObj} {e : Int} {ds : List Int} {v cost : Int} {pv : AV} (h : BillV t today K J e ds v cost pv) (k : Keep J J') : BillV t today K J' e ds v cost pv := by
  obtain ⟨l, h1, h2⟩ := h
  exact ⟨l, h1.keep k, h2⟩
theorem BillV.cells {K : Nat} {J : List AObj} {e : Int} {ds : List Int} {v cost : Int} {pv : AV} (h : BillV t today K J e ds v cost pv) : pv.cells = some [pv] := by
  obtain ⟨l, h1, h2⟩ := h
  exact h1.cells
def onV (N : Nat) : AV := onF (N + 1) (N + 2) (N + 4) (N + 3)
/-- The planner's own objects. -/
def pre5 (t : Town) (today : Int) (wh : Hd) (days : List Int) (B : List AObj) (es : List (List AV × AV)) : List AObj :=
  B ++ [.map es, .cells 0 none (wCs t B.length today wh days), .cells 0 none (freeL t days), .cells 0 none [.fn 109 [] []], .cells 0 none [onV B.length]]
section
variable (B : List AObj) (es : List (List AV × AV)) (J : List AObj)
@[simp] theorem pre5_len : (pre5 t today wh days B es).length = B.length + 5 := by simp [pre5]
theorem pre5_0 : (pre5 t today wh days B es ++ J)[B.length]? = some (.map es) := by simp [pre5]
theorem pre5_1 : (pre5 t today wh days B es ++ J)[B.length + 1]? = some (.cells 0 none (wCs t B.length today wh days)) := by simp [pre5, List.append_assoc, List.getElem?_append_right]
theorem pre5_2 : (pre5 t today wh days B es ++ J)[B.length + 2]? = some (.cells 0 none (freeL t days)) := by simp [pre5, List.append_assoc, List.getElem?_append_right]
theorem pre5_3 : (pre5 t today wh days B es ++ J)[B.length + 3]? = some (.cells 0 none [.fn 109 [] []]) := by simp [pre5, List.append_assoc, List.getElem?_append_right]
theorem pre5_4 : (pre5 t today wh days B es ++ J)[B.length + 4]? = some (.cells 0 none [onV B.length]) := by simp [pre5, List.append_assoc, List.getElem?_append_right]
theorem pre5_set (es' : List (List AV × AV)) : (pre5 t today wh days B es ++ J).set B.length (.map es') = pre5 t today wh days B es' ++ J := by simp [pre5, List.append_assoc, List.set_append_right]
end
def stP (t : Town) (today : Int) (wh : Hd) (days : List Int) (B : List AObj) (es : List (List AV × AV)) (J : List AObj) (lo : Nat) : St := { heap := pre5 t today wh days B es ++ J, low := lo }
def keyA (a b c d : Int) : List AV := [.int .i64 a, .int .i64 b, .int .i64 c, .int .i64 d]
/-- What is known is right. -/
structure MapOk (t : Town) (today : Int) (days : List Int) (K : Nat) (J : List AObj) (es : List (List AV × AV)) : Prop where
  keys : ∀ kv ∈ es, ∃ a b c d, kv.1 = keyA a b c d
  ok : ∀ (k : Nat) (many : Int) (last : Option Pp) (c d : Int) (v : AV), lastOk t last → lastCs last = [.int .i64 c, .int .i64 d] → findK [false, false, false, false] (keyA k many c d) es = some (some v) → ∃ cost pv, v = .agg [.int .i64 cost, pv] ∧ BillV t today K J (endO t last) (days.drop k) (V t today 8 (endO t last) (days.drop k)) cost pv
theorem eqL_key (a b c d a' b' c' d' : Int) : eqL [false, false, false, false] (keyA a b c d) (keyA a' b' c' d') = some (a == a' && (b == b' && (c == c' && d == d'))) := by simp [keyA, eqL]
theorem findK_tot : ∀ {es : List (List AV × AV)}, (∀ kv ∈ es, ∃ a b c d, kv.1 = keyA a b c d) → ∀ a b c d, ∃ r, findK [false, false, false, false] (keyA a b c d) es = some r
  | [], _, _, _, _, _ => ⟨none, rfl⟩
  | (k, v) :: es, h, a, b, c, d => by
    obtain ⟨a', b', c', d', e⟩ := h (k, v) (by simp)
    simp only at e
    subst e
    obtain ⟨r, hr⟩ := findK_tot (es := es) (fun kv hkv => h kv (by simp [hkv])) a b c d
    simp only [findK, eqL_key]
    cases (a == a' && (b == b' && (c == c' && d == d'))) with
    | true => exact ⟨_, rfl⟩
    | false => exact ⟨r, hr⟩
theorem updK_tot : ∀ {es : List (List AV × AV)}, (∀ kv ∈ es, ∃ a b c d, kv.1 = keyA a b c d) → ∀ a b c d v, ∃ es', updK [false, false, false, false] (keyA a b c d) v es = some es' ∧ (∀ kv ∈ es', ∃ a b c d, kv.1 = keyA a b c d) ∧ ∀ a' b' c' d', findK [false, false, false, false] (keyA a' b' c' d') es' = if (a' == a && (b' == b && (c' == c && d' == d))) = true then some (some v) else findK [false, false, false, false] (keyA a' b' c' d') es
  | [], _, a, b, c, d, v => by
    refine ⟨_, rfl, fun kv hkv => ?_, fun a' b' c' d' => ?_⟩
    · simp at hkv
      subst hkv
      exact ⟨a, b, c, d, rfl⟩
    · simp only [findK, eqL_key]
      cases (a' == a && (b' == b && (c' == c && d' == d))) <;> rfl
  | (k, w) :: es, h, a, b, c, d, v => by
    obtain ⟨a1, b1, c1, d1, e⟩ := h (k, w) (by simp)
    simp only at e
    subst e
    obtain ⟨es', h1, h2, h3⟩ := updK_tot (es := es) (fun kv hkv => h kv (by simp [hkv])) a b c d v
    simp only [updK, eqL_key]
    cases hx : (a == a1 && (b == b1 && (c == c1 && d == d1))) with
    | true =>
      simp only [Bool.and_eq_true, beq_iff_eq] at hx
      obtain ⟨rfl, rfl, rfl, rfl⟩ := hx
      refine ⟨_, rfl, fun kv hkv => ?_, fun a' b' c' d' => ?_⟩
      · simp at hkv
        rcases hkv with rfl | hkv
        · exact ⟨a, b, c, d, rfl⟩
        · exact h kv (by simp [hkv])
      · simp only [findK, eqL_key]
        cases (a' == a && (b' == b && (c' == c && d' == d))) <;> rfl
    | false =>
      refine ⟨_, by rw [h1], fun kv hkv => ?_, fun a' b' c' d' => ?_⟩
      · simp at hkv
        rcases hkv with rfl | hkv
        · exact ⟨a1, b1, c1, d1, rfl⟩
        · exact h2 kv hkv
      · simp only [findK, eqL_key, h3]
        cases hy : (a' == a1 && (b' == b1 && (c' == c1 && d' == d1))) with
        | true =>
          simp only [Bool.and_eq_true, beq_iff_eq] at hy
          obtain ⟨rfl, rfl, rfl, rfl⟩ := hy
          have : (a' == a && (b' == b && (c' == c && d' == d))) = false := by
            cases hz : (a' == a && (b' == b && (c' == c && d' == d))) with
            | false => rfl
            | true =>
              simp only [Bool.and_eq_true, beq_iff_eq] at hz
              obtain ⟨rfl, rfl, rfl, rfl⟩ := hz
              simp at hx
          simp [this]
        | false => rfl
theorem MapOk.keep {K : Nat} {J J' : List AObj} {es : List (List AV × AV)} (h : MapOk t today days K J es) (k : Keep J J') : MapOk t today days K J' es :=
  ⟨h.keys, fun a b c d e v h1 h2 h3 => by
    obtain ⟨cost, pv, q1, q2⟩ := h.ok a b c d e v h1 h2 h3
    exact ⟨cost, pv, q1, q2.keep k⟩⟩
theorem lastCs_inj (hk : t.kinds.all kdB = true) {l l' : Option Pp} (h : lastOk t l) (h' : lastOk t l') (e : lastCs l = lastCs l') : l = l' := by
  cases l with
  | none =>
    cases l' with
    | none => rfl
    | some q =>
      have : paperB t q = true := h'
      simp only [paperB, Bool.and_eq_true, amid_iff] at this
      simp only [lastCs, Pp.av, List.cons.injEq, AV.int.injEq, true_and] at e
      omega
  | some p =>
    cases l' with
    | none =>
      have : paperB t p = true := h
      simp only [paperB, Bool.and_eq_true, amid_iff] at this
      simp only [lastCs, Pp.av, List.cons.injEq, AV.int.injEq, true_and] at e
      omega
    | some q =>
      obtain ⟨a, b⟩ := p
      obtain ⟨c, d⟩ := q
      simp only [lastCs, Pp.av, List.cons.injEq, AV.int.injEq, true_and, and_true] at e
      rw [e.1, e.2]
theorem MapOk.upd (hk : t.kinds.all kdB = true) {K : Nat} {J : List AObj} {es : List (List AV × AV)} (h : MapOk t today days K J es) {k : Nat} {many c d : Int} {last : Option Pp} (hl : lastOk t last) (hc : lastCs last = [.int .i64 c, .int .i64 d]) {cost : Int} {pv : AV} (hb : BillV t today K J (endO t last) (days.drop k) (V t today 8 (endO t last) (days.drop k)) cost pv) :
    ∃ es', updK [false, false, false, false] (keyA k many c d) (.agg [.int .i64 cost, pv]) es = some es' ∧ MapOk t today days K J es' := by
  obtain ⟨es', h1, h2, h3⟩ := updK_tot h.keys k many c d (.agg [.int .i64 cost, pv])
  refine ⟨es', h1, h2, fun k2 many2 last2 c2 d2 v hl2 hc2 hf2 => ?_⟩
  rw [h3] at hf2
  split at hf2
  · rename_i hx
    simp only [Bool.and_eq_true, beq_iff_eq] at hx
    obtain ⟨e1, rfl, rfl, rfl⟩ := hx
    have e2 : k2 = k := by omega
    subst e2
    have e3 := lastCs_inj hk hl2 hl (by rw [hc2, hc])
    subst e3
    simp only [Option.some.injEq] at hf2
    exact ⟨cost, pv, hf2.symm, hb⟩
  · exact h.ok k2 many2 last2 c2 d2 v hl2 hc2 hf2
end
end Go.Proofs.Tryd

namespace Go.Proofs.Tryd
open Go Go.Proofs.AM

/-- The first days of a licence, later ones first. -/
def befores (k : Int) : Nat → Int → List Pp
  | 0, _ => []
  | r + 1, f => ⟨k, f⟩ :: befores k r (f - 1)
theorem mem_befores {k : Int} {p : Pp} : ∀ {r : Nat} {f : Int}, p ∈ befores k r f ↔ p.kind = k ∧ p.first ≤ f ∧ f < p.first + r
  | 0, f => by
    simp only [befores, List.not_mem_nil, false_iff]
    omega
  | r + 1, f => by
    have ih := mem_befores (k := k) (p := p) (r := r) (f := f - 1)
    obtain ⟨pk, pf⟩ := p
    simp only [befores, List.mem_cons, ih, Pp.mk.injEq]
    omega
section
variable {t : Town} {today d k many nk kind : Int} {wh : Hd} {days : List Int} {last : Option Pp}
def costP (t : Town) (today : Int) (l' : List Int) (p : Pp) : Int := 16 * feeOf t p + 1 + V t today 7 (endB t p) l'
def onC (N : Nat) : Cal := .fn 103 [] [.ref (N + 1) 0 0, .ref (N + 2) 0 0, .ref (N + 4) 0 0, .ref (N + 3) 0 0]
/-- The rest, behind a licence, is planned right. -/
def RecP (t : Town) (today : Int) (wh : Hd) (days : List Int) (B : List AObj) (e d k many : Int) (l' : List Int) : Prop :=
  ∀ p, fitB t today e d p = true → ∀ es J lo, MapOk t today days (B.length + 5) J es → B.length ≤ lo → lo ≤ B.length + 5 + J.length →
    ∃ cost pv es' J' lo', callE E0 false (onC B.length) [.int .i64 (k + 1), .int .i64 (many + 1), .agg p.av] (stP t today wh days B es J lo) = some (.agg [.int .i64 cost, pv], stP t today wh days B es' J' lo') ∧ MapOk t today days (B.length + 5) J' es' ∧ Keep J J' ∧ BillV t today (B.length + 5) J' (endB t p) l' (V t today 7 (endB t p) l') cost pv ∧ B.length ≤ lo' ∧ lo' ≤ B.length + 5 + J'.length
/-- How a loop of the planner ends. -/
def EndI (t : Town) (today : Int) (wh : Hd) (days : List Int) (B : List AObj) (mk : Int → AV → Fr) (ex : Ex) (e : Int) (ds : List Int) (acc : Int) (J : List AObj) (o : Out) : Prop :=
  ∃ cost' pv' es' J' lo', o = some (ex, mk cost' pv', stP t today wh days B es' J' lo') ∧ MapOk t today days (B.length + 5) J' es' ∧ Keep J J' ∧ BillV t today (B.length + 5) J' e ds acc cost' pv' ∧ acc ≤ never ∧ B.length ≤ lo' ∧ lo' ≤ B.length + 5 + J'.length
def frI (B : List AObj) (k many nk kind cnt i : Int) (lc kc : List AV) (ex : List (Nat × TV)) (cost : Int) (pv : AV) : Fr :=
  { ts := [(0, .v (.int .i64 k)), (1, .v (.int .i64 many)), (3, .v (.ref (B.length + 1) 0 0)), (5, .v (.ref (B.length + 4) 0 0)), (6, .v (.ref (B.length + 3) 0 0)), (9, .loc 9 0), (10, .loc 10 0), (11, .loc 11 0), (14, .loc 14 0), (15, .v (.int .i64 kind)), (84, .v (.int .i64 nk)), (85, .v (.int .i64 kind)), (97, .v (.int .i64 cnt)), (98, .v (.int .i64 i))] ++ ex, bs := [(9, lc), (10, [.int .i64 0, .lst (some true) true 0 []]), (11, kc), (14, [.int .i64 cost, pv])] }
theorem fit_can {e : Int} {p : Pp} (hp : paperB t p = true) (h1 : p.first ≤ d) (h2 : d < p.first + daysOf t p) : fitB t today e d p = canB t today e p := by
  unfold fitB canB
  have h3 : d ≤ endB t p := by unfold endB; omega
  simp [hp, h1, h3]
set_option maxHeartbeats 4000000 in
theorem on_in (g : Good t) (hf : t.Fits) (hto : amid today 0 999 = true) {e : Int} {ds l' : List Int} (hsk : skipD t e ds = d :: l') (hl7 : l'.length ≤ 7) {B : List AObj} (hrec : RecP t today wh days B e d k many l') (hla : lastOk t last) (hee : e = endO t last) {kd : Kd} (hk : t.kinds[kind.toNat]? = some kd) (k0 : 0 ≤ kind) (hd0 : 0 ≤ d) (hd : d ≤ 999) (hkr : 0 ≤ k ∧ k ≤ 8) (hmr : 0 ≤ many ∧ many ≤ 8) {kx : Nat} (hkx : (kx : Int) = k) (hdx : ∃ r, (row In.av days).drop kx = .int .i64 d :: r) (hkl : kx < days.length) {kc : List AV} : ∀ (r : Nat) (i acc cost : Int) (pv : AV) (es : List (List AV × AV)) (J : List AObj) (lo : Nat), i + r = kd.days → 0 ≤ i → acc ≤ never → MapOk t today days (B.length + 5) J es → BillV t today (B.length + 5) J e ds acc cost pv → B.length ≤ lo → lo ≤ B.length + 5 + J.length →
    EndI t today wh days B (frI B k many nk kind kd.days kd.days (lastCs last) kc [(99, .v (.bool false))]) (.exit 4) e ds (accV (costP t today l') (fitB t today e d) acc (befores kind r (d - i))) J
      (loopC E0 [0, 1, 3, 5, 6, 9, 10, 11, 14, 15, 84, 85, 97, 98] [9, 10, 11, 14] A103_l1 (frI B k many nk kind kd.days i (lastCs last) kc [] cost pv) (stP t today wh days B es J lo))
  | 0, i, acc, cost, pv, es, J, lo, hir, hi0, ha1, hM, hB, hl0, hl1 => by
    have : i = kd.days := by omega
    subst this
    refine ⟨cost, pv, es, J, lo, ?_, hM, Keep.refl _, hB, ha1, hl0, hl1⟩
    rw [loopC_eq]
    simp [A103_l1, A103_r15, frI]
  | r + 1, i, acc, cost, pv, es, J, lo, hir, hi0, ha1, hM, hB, hl0, hl1 => by
    have hlt : i < kd.days := by omega
    have hkl2 : kind.toNat < t.kinds.length := (List.getElem?_eq_some_iff.1 hk).1
    have hkd := List.all_eq_true.1 g.kinds kd (List.mem_of_getElem? hk)
    simp only [kdB, Bool.and_eq_true, amid_iff] at hkd
    have hnk := amid_iff.1 g.n
    have w1 : IntKind.wrap .i64 (i + 1) = i + 1 := wrap_small (by omega) (by omega)
    have w2 : IntKind.wrap .i64 (d - i) = d - i := wrap_small (by omega) (by omega)
    obtain ⟨rr, hrr⟩ := hdx
    have hgW := fun es J => pre5_1 (t := t) (today := today) (wh := wh) (days := days) B es J
    have hgO := fun es J => pre5_4 (t := t) (today := today) (wh := wh) (days := days) B es J
    have hgY := fun es J => pre5_3 (t := t) (today := today) (wh := wh) (days := days) B es J
    have hcells := hB.cells
    obtain ⟨la, lb, hab⟩ : ∃ a b, lastCs last = [.int .i64 a, .int .i64 b] := by
      cases last with
      | none => exact ⟨_, _, rfl⟩
      | some q => exact ⟨_, _, rfl⟩
    have hk0 : (0 : Int) ≤ k := hkr.1
    have hkT : k.toNat = kx := by omega
    have hkl3 : k < days.length := by omega
    have hf1 : d - i - 1 = d - (i + 1) := by omega
    -- the rounds that are left
    have next : ∀ (acc1 cost1 : Int) (pv1 : AV) (es1 : List (List AV × AV)) (J1 : List AObj) (lo1 : Nat), accV (costP t today l') (fitB t today e d) acc (befores kind (r + 1) (d - i)) = accV (costP t today l') (fitB t today e d) acc1 (befores kind r (d - (i + 1))) → acc1 ≤ never → MapOk t today days (B.length + 5) J1 es1 → Keep J J1 → BillV t today (B.length + 5) J1 e ds acc1 cost1 pv1 → B.length ≤ lo1 → lo1 ≤ B.length + 5 + J1.length →
        codeE E0 A103_l1 (frI B k many nk kind kd.days i (lastCs last) kc [] cost pv) (stP t today wh days B es J lo) = some (.norm, frI B k many nk kind kd.days (i + 1) (lastCs last) kc [] cost1 pv1, stP t today wh days B es1 J1 lo1) →
        EndI t today wh days B (frI B k many nk kind kd.days kd.days (lastCs last) kc [(99, .v (.bool false))]) (.exit 4) e ds (accV (costP t today l') (fitB t today e d) acc (befores kind (r + 1) (d - i))) J
          (loopC E0 [0, 1, 3, 5, 6, 9, 10, 11, 14, 15, 84, 85, 97, 98] [9, 10, 11, 14] A103_l1 (frI B k many nk kind kd.days i (lastCs last) kc [] cost pv) (stP t today wh days B es J lo)) := fun acc1 cost1 pv1 es1 J1 lo1 hacc ha hM1 hK1 hB1 hl01 hl11 hstep => by
      obtain ⟨cost2, pv2, es2, J2, lo2, q1, q2, q3, q4, q5, q6, q7⟩ := on_in g hf hto hsk hl7 hrec hla hee hk k0 hd0 hd hkr hmr hkx ⟨rr, hrr⟩ hkl (kc := kc) r (i + 1) acc1 cost1 pv1 es1 J1 lo1 (by omega) (by omega) ha hM1 hB1 hl01 hl11
      rw [hacc]
      have hln : loopC E0 [0, 1, 3, 5, 6, 9, 10, 11, 14, 15, 84, 85, 97, 98] [9, 10, 11, 14] A103_l1 (frI B k many nk kind kd.days i (lastCs last) kc [] cost pv) (stP t today wh days B es J lo) = loopC E0 [0, 1, 3, 5, 6, 9, 10, 11, 14, 15, 84, 85, 97, 98] [9, 10, 11, 14] A103_l1 (frI B k many nk kind kd.days (i + 1) (lastCs last) kc [] cost1 pv1) (stP t today wh days B es1 J1 lo1) := loopC_norm (b := A103_l1) hstep
      exact ⟨cost2, pv2, es2, J2, lo2, hln.trans q1, q2, hK1.trans q3, q4, q5, q6, q7⟩
    by_cases hneg : d - i < 0
    · refine next acc cost pv es J lo ?_ ha1 hM (Keep.refl _) hB hl0 hl1 ?_
      · have hfit : fitB t today e d ⟨kind, d - i⟩ = false := by
          have : paperB t ⟨kind, d - i⟩ = false := by
            cases hp : paperB t ⟨kind, d - i⟩ with
            | false => rfl
            | true =>
              simp only [paperB, Bool.and_eq_true, amid_iff] at hp
              omega
          simp [fitB, this]
        simp only [befores, accV, hfit, hf1]
        simp
      · simp only [stP, wCs, Town.cs, List.cons_append, List.nil_append] at hgW ⊢
        simp [A103_l1, A103_r15, A103_r16, A103_r17, A103_r18, A103_r24, frI, hlt, w1, w2, hgW, hk0, hkT, hkl3, hrr, hneg]
    · have hp : paperB t ⟨kind, d - i⟩ = true := by
        simp only [paperB, Bool.and_eq_true, amid_iff]
        omega
      have hfe := fee_of hp g.kinds hk
      have hfc : fitB t today e d ⟨kind, d - i⟩ = canB t today e ⟨kind, d - i⟩ := fit_can hp (by simp; omega) (by simp; omega)
      have hcan := can_ev (m := B.length) (wh := wh) (days := days) g hf hto hla hp
      rw [← hee] at hcan
      cases hc : canB t today e ⟨kind, d - i⟩ with
      | false =>
        rw [hc] at hcan hfc
        refine next acc cost pv es J lo ?_ ha1 hM (Keep.refl _) hB hl0 hl1 ?_
        · simp only [befores, accV, hfc, hf1]
          simp
        · rw [hab] at hcan ⊢
          simp only [stP, wCs, Town.cs, Pp.av, List.cons_append, List.nil_append] at hgW hcan ⊢
          simp [A103_l1, A103_r15, A103_r16, A103_r17, A103_r18, A103_r24, frI, hlt, w1, w2, hgW, hk0, hkT, hkl3, hrr, hneg, hcan]
      | true =>
        rw [hc] at hcan hfc
        obtain ⟨c1, pv1, es1, J1, lo1, q1, q2, q3, q4, q5, q6⟩ := hrec _ hfc es J lo hM hl0 hl1
        have hcells1 := q4.cells
        have w3 : IntKind.wrap .i64 (k + 1) = k + 1 := wrap_small (by omega) (by omega)
        have w4 : IntKind.wrap .i64 (many + 1) = many + 1 := wrap_small (by omega) (by omega)
        obtain ⟨l1, hp1, hp2, hp3⟩ := q4
        have hV := V_range (t := t) (today := today) 7 (endB t ⟨kind, d - i⟩) l' g.kinds
        have n1 : (never : Int) = 1073741824 := rfl
        have hacc0 : accV (costP t today l') (fitB t today e d) acc (befores kind (r + 1) (d - i)) = accV (costP t today l') (fitB t today e d) (min acc (costP t today l' ⟨kind, d - i⟩)) (befores kind r (d - (i + 1))) := by
          simp only [befores, accV, hfc, hf1, if_true]
        rcases hp3 with ⟨rfl, hvn⟩ | ⟨hc0, hch, hcf, hcv⟩
        · have hmin : min acc (costP t today l' ⟨kind, d - i⟩) = acc := by
            unfold costP
            rw [hvn, hfe.1]
            omega
          refine next acc cost pv es1 J1 lo1 (by rw [hacc0, hmin]) ha1 q2 q3 (hB.keep q3) q5 q6 ?_
          · rw [hab] at hcan ⊢
            simp only [stP, wCs, Town.cs, Pp.av, onC, List.cons_append, List.nil_append] at hgW hcan q1 ⊢
            simp [A103_l1, A103_r15, A103_r16, A103_r17, A103_r18, A103_r19, A103_r20, A103_r24, frI, hlt, w1, w2, w3, w4, hgW, hgO, onV, onF, hk0, hkT, hkl3, hrr, hneg, hcan, q1, hcells1]
        · have hl1 : l1.length ≤ 7 := Nat.le_trans hch.len hl7
          have hfs := hch.fees g.kinds
          have hbf : feeSum t (⟨kind, d - i⟩ :: l1) = kd.fee + c1 := by
            simp only [feeSum, List.map_cons, List.sum_cons, hfe.1]
            rw [hcf]
            rfl
          have hch' : Chain t today e ds (⟨kind, d - i⟩ :: l1) := .cons hsk hfc hch
          obtain ⟨pv', O, ha, hpv'⟩ := hp1.cons (C := pre5 t today wh days B es1) (pre5_len B es1) (by omega) ⟨kind, d - i⟩
          have hcells' := hpv'.cells
          have hbig : 16 * (kd.fee + c1) + (l1.length + 1) = costP t today l' ⟨kind, d - i⟩ := by
            unfold costP
            rw [hfe.1, ← hcv]
            omega
          have hcle : costP t today l' ⟨kind, d - i⟩ ≤ never := by
            rw [← hbig, n1]
            omega
          have hBb : BillV t today (B.length + 5) (J1 ++ O) e ds (costP t today l' ⟨kind, d - i⟩) (kd.fee + c1) pv' :=
            ⟨_, hpv', by simp; omega, .inr ⟨by omega, hch', hbf.symm, by rw [← hbig]; simp⟩⟩
          have hKO : Keep J (J1 ++ O) := q3.trans (Keep.app J1 O)
          have hMO := q2.keep (Keep.app J1 O)
          have hdk := row_get Kd.len hk
          have hsum : ∀ s, callE E0 false (.fn 107 [] []) [.lst (some false) true 2 [.int .i64 kd.fee, .int .i64 c1]] s = some (.int .i64 (kd.fee + c1), s) := fun s => by
            have := sum_ev (h := ⟨some false, true⟩) (l := [kd.fee, c1]) (by simp) (by simp; omega) s
            simpa [lstA, row, In.av] using this
          have hkt : kind < t.kinds.length := by omega
          simp only [Pp.av] at ha
          obtain ⟨l0, hp0, hl08, hp03⟩ := hB
          rcases hp03 with ⟨rfl, rfl⟩ | ⟨hc00, hch0, hcf0, hcv0⟩
          · have hmin : min never (costP t today l' ⟨kind, d - i⟩) = costP t today l' ⟨kind, d - i⟩ := by omega
            refine next (costP t today l' ⟨kind, d - i⟩) (kd.fee + c1) pv' es1 (J1 ++ O) lo1 (by rw [hacc0, hmin]) hcle hMO hKO hBb (by omega) (by simp; omega) ?_
            rw [hab] at hcan ⊢
            simp only [stP, wCs, Town.cs, Pp.av, onC, List.cons_append, List.nil_append] at hgW hcan q1 ⊢
            have hc0' : ¬ c1 < 0 := by omega
            have hmn : min lo1 (B.length + 5 + J1.length) = lo1 := by omega
            have hmn2 : min lo1 (B.length + 5 + (J1.length + O.length)) = lo1 := by omega
            simp [A103_l1, A103_r15, A103_r16, A103_r17, A103_r18, A103_r19, A103_r20, A103_r21, A103_r22, A103_r23, A103_r24, regionA_st s103_r21, frI, hlt, w1, w2, w3, w4, hgW, hgO, onV, onF, hk0, hkT, hkl3, hrr, hneg, hcan, q1, hcells, hcells1, hcells', hc0', k0, hkt, hdk, Kd.av, hsum, ha, hmn, hmn2]
          · obtain ⟨h1, ids1, hs1, hi1⟩ := hpv'.settle (C := pre5 t today wh days B es1) (pre5_len B es1) 6
            obtain ⟨h2, ids2, hs2, hi2⟩ := (hp0.keep hKO).settle (C := pre5 t today wh days B es1) (pre5_len B es1) 6
            obtain ⟨J3, hz1, hz2, hz3⟩ := frzAll_keep (C := pre5 t today wh days B es1) (ids1 ++ ids2) (J1 ++ O) (fun i hi => by
              rw [pre5_len]
              rcases List.mem_append.1 hi with hi | hi
              · exact hi1 i hi
              · exact hi2 i hi)
            have hth := fun s => than_ev (c := kd.fee + c1) (c' := cost) (h := h1) (h' := h2) (l := ⟨kind, d - i⟩ :: l1) (l' := l0) s
            have hKO3 := hKO.trans hz2
            have htl := than_lt (c := kd.fee + c1) (c' := cost) (n := ((⟨kind, d - i⟩ :: l1 : List Pp).length : Int)) (n' := (l0.length : Int)) (by simp; omega) (by omega)
            have hcb : 16 * (kd.fee + c1) + (((⟨kind, d - i⟩ :: l1 : List Pp).length : Nat) : Int) = costP t today l' ⟨kind, d - i⟩ := by rw [← hbig]; simp
            rw [hcb, hcv0] at htl
            generalize thanV (kd.fee + c1) (((⟨kind, d - i⟩ :: l1 : List Pp).length : Nat) : Int) cost (l0.length : Int) = th at *
            have hc0' : ¬ c1 < 0 := by omega
            have hc00' : ¬ cost < 0 := by omega
            have hmn : min lo1 (B.length + 5 + J1.length) = lo1 := by omega
            have hmn2 : min lo1 (B.length + 5 + (J1.length + O.length)) = lo1 := by omega
            by_cases hlt2 : th < 0
            · have hmin : min acc (costP t today l' ⟨kind, d - i⟩) = costP t today l' ⟨kind, d - i⟩ := by have := htl.1 hlt2; omega
              refine next (costP t today l' ⟨kind, d - i⟩) (kd.fee + c1) pv' es1 J3 lo1 (by rw [hacc0, hmin]) hcle (hMO.keep hz2) hKO3 (hBb.keep hz2) (by omega) (by rw [hz3]; simp; omega) ?_
              rw [hab] at hcan ⊢
              simp only [stP, wCs, Town.cs, Pp.av, onC, List.cons_append, List.nil_append] at hgW hcan q1 ⊢
              simp [A103_l1, A103_r15, A103_r16, A103_r17, A103_r18, A103_r19, A103_r20, A103_r21, A103_r22, A103_r23, A103_r24, regionA_st s103_r21, frI, hlt, w1, w2, w3, w4, hgW, hgO, hgY, onV, onF, hk0, hkT, hkl3, hrr, hneg, hcan, q1, hcells, hcells1, hcells', hc0', hc00', k0, hkt, hdk, Kd.av, hsum, ha, hmn, hmn2, hs1, hs2, hz1, hth, hlt2]
            · have hmin : min acc (costP t today l' ⟨kind, d - i⟩) = acc := by
                have : ¬ (costP t today l' ⟨kind, d - i⟩ < acc) := fun h => hlt2 (htl.2 h)
                omega
              refine next acc cost pv es1 J3 lo1 (by rw [hacc0, hmin]) ha1 (hMO.keep hz2) hKO3 ⟨l0, hp0.keep hKO3, hl08, .inr ⟨hc00, hch0, hcf0, hcv0⟩⟩ (by omega) (by rw [hz3]; simp; omega) ?_
              rw [hab] at hcan ⊢
              simp only [stP, wCs, Town.cs, Pp.av, onC, List.cons_append, List.nil_append] at hgW hcan q1 ⊢
              simp [A103_l1, A103_r15, A103_r16, A103_r17, A103_r18, A103_r19, A103_r20, A103_r21, A103_r22, A103_r23, A103_r24, regionA_st s103_r21, frI, hlt, w1, w2, w3, w4, hgW, hgO, hgY, onV, onF, hk0, hkT, hkl3, hrr, hneg, hcan, q1, hcells, hcells1, hcells', hc0', hc00', k0, hkt, hdk, Kd.av, hsum, ha, hmn, hmn2, hs1, hs2, hz1, hth, hlt2]
end
end Go.Proofs.Tryd

namespace Go.Proofs.Tryd
open Go Go.Proofs.AM

section
variable {t : Town} {today d k many nk : Int} {wh : Hd} {days : List Int} {last : Option Pp}
def rowsP (d : Int) : Int → List Kd → List Pp
  | _, [] => []
  | k, x :: b => befores k x.days.toNat d ++ rowsP d (k + 1) b
theorem mem_rowsP {p : Pp} : ∀ {b : List Kd} {k : Int}, p ∈ rowsP d k b ↔ ∃ i : Nat, ∃ x, b[i]? = some x ∧ p.kind = k + i ∧ p.first ≤ d ∧ d < p.first + x.days.toNat
  | [], k => by simp [rowsP]
  | x :: b, k => by
    simp only [rowsP, List.mem_append, mem_rowsP (b := b), mem_befores]
    constructor
    · rintro (⟨h1, h2, h3⟩ | ⟨i, y, h1, h2, h3, h4⟩)
      · exact ⟨0, x, rfl, by simp [h1], h2, h3⟩
      · exact ⟨i + 1, y, by simpa using h1, by omega, h3, h4⟩
    · rintro ⟨i, y, h1, h2, h3, h4⟩
      cases i with
      | zero =>
        simp only [List.getElem?_cons_zero, Option.some.injEq] at h1
        subst h1
        exact .inl ⟨by simpa using h2, h3, h4⟩
      | succ i =>
        exact .inr ⟨i, y, by simpa using h1, by omega, h3, h4⟩
def frO (B : List AObj) (k many nk kind : Int) (lc kc : List AV) (ex : List (Nat × TV)) (cost : Int) (pv : AV) : Fr :=
  { ts := [(0, .v (.int .i64 k)), (1, .v (.int .i64 many)), (3, .v (.ref (B.length + 1) 0 0)), (5, .v (.ref (B.length + 4) 0 0)), (6, .v (.ref (B.length + 3) 0 0)), (9, .loc 9 0), (10, .loc 10 0), (11, .loc 11 0), (14, .loc 14 0), (84, .v (.int .i64 nk)), (85, .v (.int .i64 kind))] ++ ex, bs := [(9, lc), (10, [.int .i64 0, .lst (some true) true 0 []]), (11, kc), (14, [.int .i64 cost, pv])] }
theorem on_out (g : Good t) (hf : t.Fits) (hto : amid today 0 999 = true) {e : Int} {ds l' : List Int} (hsk : skipD t e ds = d :: l') (hl7 : l'.length ≤ 7) {B : List AObj} (hrec : RecP t today wh days B e d k many l') (hla : lastOk t last) (hee : e = endO t last) (hd0 : 0 ≤ d) (hd : d ≤ 999) (hkr : 0 ≤ k ∧ k ≤ 8) (hmr : 0 ≤ many ∧ many < 8) {kx : Nat} (hkx : (kx : Int) = k) (hdx : ∃ r, (row In.av days).drop kx = .int .i64 d :: r) (hkl : kx < days.length) {kc : List AV} : ∀ (b a : List Kd) (kind acc cost : Int) (pv : AV) (es : List (List AV × AV)) (J : List AObj) (lo : Nat), kind = a.length → t.kinds = a ++ b → acc ≤ never → MapOk t today days (B.length + 5) J es → BillV t today (B.length + 5) J e ds acc cost pv → B.length ≤ lo → lo ≤ B.length + 5 + J.length →
    EndI t today wh days B (frO B k many t.kinds.length t.kinds.length (lastCs last) kc [(86, .v (.bool false))]) (.exit 2) e ds (accV (costP t today l') (fitB t today e d) acc (rowsP d kind b)) J
      (loopC E0 [0, 1, 3, 5, 6, 9, 10, 11, 14, 84, 85] [9, 10, 11, 14] A103_l2 (frO B k many t.kinds.length kind (lastCs last) kc [] cost pv) (stP t today wh days B es J lo))
  | [], a, kind, acc, cost, pv, es, J, lo, hka, eq, ha1, hM, hB, hl0, hl1 => by
    simp only [List.append_nil] at eq
    subst hka
    refine ⟨cost, pv, es, J, lo, ?_, hM, Keep.refl _, hB, ha1, hl0, hl1⟩
    rw [loopC_eq]
    simp [A103_l2, A103_r11, frO, eq]
  | x :: b, a, kind, acc, cost, pv, es, J, lo, hka, eq, ha1, hM, hB, hl0, hl1 => by
    subst hka
    have hlt : a.length < t.kinds.length := by rw [eq]; simp
    have hx : t.kinds[a.length]? = some x := by rw [eq]; simp
    have hdk := row_get Kd.len hx
    have hnk := amid_iff.1 g.n
    have hkd := List.all_eq_true.1 g.kinds x (by rw [eq]; simp)
    simp only [kdB, Bool.and_eq_true, amid_iff] at hkd
    have hdt : ((x.days.toNat : Nat) : Int) = x.days := by omega
    obtain ⟨cost1, pv1, es1, J1, lo1, i1, i2, i3, i4, i5, i6, i7⟩ := on_in (nk := t.kinds.length) (kind := a.length) (kc := kc) g hf hto hsk hl7 hrec hla hee (kd := x) (by simpa using hx) (by omega) hd0 hd hkr (by omega) hkx hdx hkl x.days.toNat 0 acc cost pv es J lo (by omega) (Int.le_refl _) ha1 hM hB hl0 hl1
    rw [Int.sub_zero] at i4 i5
    obtain ⟨cost2, pv2, es2, J2, lo2, j1, j2, j3, j4, j5, j6, j7⟩ := on_out g hf hto hsk hl7 hrec hla hee hd0 hd hkr hmr hkx hdx hkl (kc := kc) b (a ++ [x]) _ _ cost1 pv1 es1 J1 lo1 rfl (by simp [eq]) i5 i2 i4 i6 i7
    have hgW := fun es J => pre5_1 (t := t) (today := today) (wh := wh) (days := days) B es J
    have w1 : IntKind.wrap .i64 ((a.length : Int) + 1) = (a.length : Int) + 1 := wrap_small (by omega) (by omega)
    have hm8 : (many == 8) = false := by simp; omega
    have hadd : ((a ++ [x]).length : Int) = (a.length : Int) + 1 := by simp
    rw [hadd] at j1 j4 j5
    refine ⟨cost2, pv2, es2, J2, lo2, ?_, j2, i3.trans j3, by simp only [rowsP, accV_append]; exact j4, by simp only [rowsP, accV_append]; exact j5, j6, j7⟩
    rw [← j1]
    have hln : codeE E0 A103_l2 (frO B k many t.kinds.length a.length (lastCs last) kc [] cost pv) (stP t today wh days B es J lo) = some (.norm, frO B k many t.kinds.length ((a.length : Int) + 1) (lastCs last) kc [] cost1 pv1, stP t today wh days B es1 J1 lo1) := by
      simp only [stP, wCs, Town.cs, frI, frO, List.cons_append, List.nil_append, List.append_nil] at hgW i1 ⊢
      simp [A103_l2, A103_r11, A103_r12, A103_r13, A103_r14, A103_r25, hlt, hgW, hm8, hdk, Kd.av, i1, w1]
    exact loopC_norm (b := A103_l2) hln
theorem PV.settle_old {K : Nat} {J : List AObj} {v : AV} {l : List Pp} (h : PV K J v l) (hp : List AObj) (s : Nat) (hs : K + J.length ≤ s) (d : Nat) : AM.settle hp s false (d + 1) v = some (v, []) := by
  rcases h with ⟨h, rfl, _⟩ | ⟨j, ver, rfl, h⟩
  · have e2 : ∀ (hp : List AObj) (s d : Nat) (refs : Bool), mapS (AM.settle hp s refs d) (row Pp.av l) = some (row Pp.av l, []) := fun hp s d refs => mapS_plain (fun c hc => plainA.scal (row_scal Pp.sc _ c hc) d)
    simp [lstA, e2]
  · have hj : j < J.length := by
      cases hj : J[j]? with
      | none => rw [hj] at h; cases h
      | some o => exact (List.getElem?_eq_some_iff.1 hj).1
    have : K + j < s := by omega
    simp [this]
theorem acc_V (g : Good t) {e : Int} {l l' : List Int} (hsk : skipD t e l = d :: l') : accV (costP t today l') (fitB t today e d) never (rowsP d 0 t.kinds) = V t today 8 e l := by
  refine (accV_least _ _ _ Least.none).unique ((V_least hsk).congr fun s => ?_)
  constructor
  · rintro ⟨p, hp, rfl⟩
    refine .inr ⟨p, ?_, hp, rfl⟩
    have hp' := hp
    simp only [fitB, Bool.and_eq_true, decide_eq_true_eq] at hp'
    have hpp := hp'.1.1.1.1.1
    obtain ⟨y, e1, _, e2, c1, c2, c3, c4⟩ := kd_of hpp g.kinds
    have := hp'.1.1.1.2
    unfold endB at this
    exact mem_rowsP.2 ⟨p.kind.toNat, y, e1, by omega, hp'.1.1.1.1.2, by omega⟩
  · rintro (h | ⟨p, _, hp, rfl⟩)
    · exact h.elim
    · exact ⟨p, hp, rfl⟩
end
end Go.Proofs.Tryd

namespace Go.Proofs.Tryd
open Go Go.Proofs.AM

section
variable {t : Town} {today : Int} {wh : Hd} {days : List Int}
theorem pairwise_drop {l : List Int} {a b : List Int} {d : Int} (h : l.Pairwise (· ≤ ·)) (e : l = a ++ d :: b) : ∀ x ∈ b, d ≤ x := by
  subst e
  have := (List.pairwise_append.1 h).2.1
  exact (List.pairwise_cons.1 this).1
theorem on_nil (g : Good t) (hf : t.Fits) (hn : days.length ≤ 8) (hds : ∀ x ∈ days, 0 ≤ x ∧ x ≤ 999) (B : List AObj) (k many : Nat) (last : Option Pp) (es : List (List AV × AV)) (J : List AObj) (lo : Nat) (hkl : k ≤ days.length) (hla : lastOk t last) (hq : ∀ q, last = some q → ∀ x ∈ days.drop k, q.first ≤ x) (hs0 : skipD t (endO t last) (days.drop k) = []) (hM : MapOk t today days (B.length + 5) J es) (hl0 : B.length ≤ lo) (hl1 : lo ≤ B.length + 5 + J.length) :
    ∃ cost pv es' J' lo', callE E0 false (onC B.length) [.int .i64 k, .int .i64 many, .agg (lastCs last)] (stP t today wh days B es J lo) = some (.agg [.int .i64 cost, pv], stP t today wh days B es' J' lo') ∧ MapOk t today days (B.length + 5) J' es' ∧ Keep J J' ∧ BillV t today (B.length + 5) J' (endO t last) (days.drop k) (V t today 8 (endO t last) (days.drop k)) cost pv ∧ B.length ≤ lo' ∧ lo' ≤ B.length + 5 + J'.length := by
  have hgW := pre5_1 (t := t) (today := today) (wh := wh) (days := days) B es J
  have hgF := pre5_2 (t := t) (today := today) (wh := wh) (days := days) B es J
  obtain ⟨a', q1, q2, q3⟩ := on_skip (ion := B.length + 4) (iby := B.length + 3) (many := many) (lo := B.length + (5 + J.length)) g hf hn hla (fun x hx => (hds x hx).1) (by simp; omega) hgW hgF (days.drop k) (days.take k) k (by simp; omega) (by simp) hq
  rw [hs0, List.append_nil] at q1
  rw [← q1] at q3
  refine ⟨0, .lst (some true) true 0 [], es, J, lo, ?_, hM, Keep.refl _, ⟨[], .inl ⟨⟨some true, true⟩, rfl, fun _ => rfl⟩, by simp, .inr ⟨Int.le_refl _, .nil hs0, rfl, by rw [V_nil hs0]; rfl⟩⟩, hl0, hl1⟩
  obtain ⟨la, lb, hab⟩ : ∃ a b, lastCs last = [.int .i64 a, .int .i64 b] := by
    cases last with
    | none => exact ⟨_, _, rfl⟩
    | some q => exact ⟨_, _, rfl⟩
  unfold onC
  rw [callE0 (by decide) (af := A103) rfl rfl]
  have htk : (pre5 t today wh days B es ++ J).take (B.length + 5 + J.length) = pre5 t today wh days B es ++ J := List.take_of_length_le (by simp)
  rw [hab] at q3 ⊢
  have e5 : B.length + (5 + J.length) = B.length + 5 + J.length := by omega
  rw [e5] at q3
  simp only [stP, wCs, Town.cs, List.cons_append, List.nil_append] at hgW q3 ⊢
  simp [A103, A103_r0, A103_r3, A103_r4, finish, q3, hgW, htk]
set_option maxHeartbeats 4000000 in
theorem on_ev (g : Good t) (hf : t.Fits) (hto : amid today 0 999 = true) (hn : days.length ≤ 8) (hds : ∀ x ∈ days, 0 ≤ x ∧ x ≤ 999) (hso : days.Pairwise (· ≤ ·)) (B : List AObj) : ∀ (n k many : Nat) (last : Option Pp) (es : List (List AV × AV)) (J : List AObj) (lo : Nat), k ≤ days.length → many ≤ k → lastOk t last → (∀ q, last = some q → ∀ x ∈ days.drop k, q.first ≤ x) → (skipD t (endO t last) (days.drop k)).length ≤ n → MapOk t today days (B.length + 5) J es → B.length ≤ lo → lo ≤ B.length + 5 + J.length →
    ∃ cost pv es' J' lo', callE E0 false (onC B.length) [.int .i64 k, .int .i64 many, .agg (lastCs last)] (stP t today wh days B es J lo) = some (.agg [.int .i64 cost, pv], stP t today wh days B es' J' lo') ∧ MapOk t today days (B.length + 5) J' es' ∧ Keep J J' ∧ BillV t today (B.length + 5) J' (endO t last) (days.drop k) (V t today 8 (endO t last) (days.drop k)) cost pv ∧ B.length ≤ lo' ∧ lo' ≤ B.length + 5 + J'.length := by
  intro n
  induction n with
  | zero =>
    intro k many last es J lo hkl hmk hla hq hs hM hl0 hl1
    exact on_nil g hf hn hds B k many last es J lo hkl hla hq (List.eq_nil_of_length_eq_zero (by omega)) hM hl0 hl1
  | succ n ih =>
    intro k many last es J lo hkl hmk hla hq hs hM hl0 hl1
    cases hsk : skipD t (endO t last) (days.drop k) with
    | nil => 
      have := on_nil (today := today) (wh := wh) g hf hn hds B k many last es J lo hkl hla hq hsk hM hl0 hl1
      rw [hsk] at *
      exact this
    | cons d l' =>
      have hgW := fun es J => pre5_1 (t := t) (today := today) (wh := wh) (days := days) B es J
      have hgF := fun es J => pre5_2 (t := t) (today := today) (wh := wh) (days := days) B es J
      have hgM := fun es J => pre5_0 (t := t) (today := today) (wh := wh) (days := days) B es J
      obtain ⟨a', q1, q2, q3⟩ := on_skip (ion := B.length + 4) (iby := B.length + 3) (many := many) (lo := B.length + 5 + J.length) g hf hn hla (fun x hx => (hds x hx).1) (by simp) (hgW es J) (hgF es J) (days.drop k) (days.take k) k (by simp; omega) (by simp) hq
      rw [hsk] at q1 hs
      have hdl : days.drop a'.length = d :: l' := by rw [q1, List.drop_left]
      have hal : a'.length < days.length := by rw [q1]; simp
      have hka : k ≤ a'.length := by simp at q2; omega
      have hdd := drop_ints q1
      have hdr := hds d (by rw [q1]; simp)
      have hl7 : l'.length ≤ 7 := by
        have := congrArg List.length q1
        simp at this
        omega
      have hsk2 : skipD t (endO t last) (days.drop a'.length) = d :: l' := by rw [hdl, ← hsk, skipD_idem]
      have hVe : V t today 8 (endO t last) (days.drop a'.length) = V t today 8 (endO t last) (days.drop k) := V_of_skip (by rw [hsk2, hsk]) (fun _ => rfl) 8
      have hbill : ∀ {J : List AObj} {v cost : Int} {pv : AV}, BillV t today (B.length + 5) J (endO t last) (days.drop a'.length) v cost pv → BillV t today (B.length + 5) J (endO t last) (days.drop k) v cost pv := fun ⟨l, h1, h2, h3⟩ => ⟨l, h1, h2, h3.imp id fun ⟨x1, x2, x3, x4⟩ => ⟨x1, x2.of_skip (by rw [hsk2, hsk]) (fun _ _ h => h), x3, x4⟩⟩
      have hne : ¬ (a'.length : Int) = days.length := by omega
      have hbe : ((a'.length : Int) == (days.length : Int)) = false := by simpa using hne
      obtain ⟨la, lb, hab⟩ : ∃ a b, lastCs last = [.int .i64 a, .int .i64 b] := by
        cases last with
        | none => exact ⟨_, _, rfl⟩
        | some q => exact ⟨_, _, rfl⟩
      obtain ⟨r, hr⟩ := findK_tot hM.keys a'.length many la lb
      have htk : (pre5 t today wh days B es ++ J).take (B.length + 5 + J.length) = pre5 t today wh days B es ++ J := List.take_of_length_le (by simp)
      cases r with
      | some v =>
        obtain ⟨cost, pv, rfl, hb⟩ := hM.ok a'.length many last la lb v hla hab hr
        rw [hVe] at hb
        refine ⟨cost, pv, es, J, lo, ?_, hM, Keep.refl _, hbill hb, hl0, hl1⟩
        have hpc := hb.cells
        have hset : ∀ hp : List AObj, AM.settle hp (B.length + 5 + J.length) false 7 pv = some (pv, []) := fun hp => by
          obtain ⟨l, h1, _⟩ := hb
          exact h1.settle_old hp _ (Nat.le_refl _) 6
        have hgM' := hgM es J
        have hgW' := hgW es J
        unfold onC
        rw [callE0 (by decide) (af := A103) rfl rfl]
        rw [hab] at q3 ⊢
        simp only [keyA] at hr
        simp only [stP, wCs, Town.cs, List.cons_append, List.nil_append] at hgW' q3 ⊢
        simp [A103, A103_r0, A103_r3, A103_r4, A103_r5, A103_r6, A103_r7, A103_r8, finish, q3, hgW', hgM', htk, hbe, hr, hpc, hset]
      | none =>
        have hrec : RecP t today wh days B (endO t last) d (a'.length : Int) many l' := fun p hp es J lo hM hl0 hl1 => by
          have hp' := hp
          simp only [fitB, Bool.and_eq_true, decide_eq_true_eq] at hp'
          have hpp := hp'.1.1.1.1.1
          have hd1 : days.drop (a'.length + 1) = l' := by
            rw [← List.drop_drop, hdl]
            rfl
          have hmem := pairwise_drop hso q1
          have := ih (a'.length + 1) (many + 1) (some p) es J lo (by omega) (by omega) hpp (fun q hqe x hx => by
            cases hqe
            rw [hd1] at hx
            have := hmem x hx
            omega) (by
            rw [hd1]
            have := skipD_len t (endB t p) l'
            simp at hs
            simp only [endO]
            omega) hM hl0 hl1
          rw [hd1] at this
          obtain ⟨cost, pv, es', J', lo', i1, i2, i3, i4, i5, i6⟩ := this
          refine ⟨cost, pv, es', J', lo', ?_, i2, i3, ?_, i5, i6⟩
          · simpa [lastCs] using i1
          · rw [show V t today 7 (endB t p) l' = V t today 8 (endB t p) l' from V_fuel t today 7 8 _ _ hl7 (by omega)]
            exact i4
        have hB0 : BillV t today (B.length + 5) J (endO t last) (days.drop a'.length) never (-1) (.lst (some true) true 0 []) := ⟨[], .inl ⟨⟨some true, true⟩, rfl, fun _ => rfl⟩, by simp, .inl ⟨rfl, rfl⟩⟩
        obtain ⟨cost1, pv1, es1, J1, lo1, o1, o2, o3, o4, o5, o6, o7⟩ := on_out (kc := keyA a'.length many la lb) (many := (many : Int)) g hf hto hsk2 hl7 hrec hla rfl hdr.1 hdr.2 (by omega) (by omega) rfl ⟨_, hdd⟩ hal t.kinds [] 0 never (-1) (.lst (some true) true 0 []) es J (B.length + 5 + J.length) rfl rfl (Int.le_refl _) hM hB0 (by omega) (Nat.le_refl _)
        rw [acc_V g hsk2] at o4 o5
        obtain ⟨es2, u1, u2⟩ := o2.upd g.kinds (k := a'.length) (many := many) hla hab o4
        rw [hVe] at o4
        refine ⟨cost1, pv1, es2, J1, min lo B.length, ?_, u2, o3, hbill o4, by omega, by omega⟩
        have hpc := o4.cells
        have hgM' := hgM es J
        have hgW' := hgW es J
        have hgM1 := hgM es1 J1
        have hgW1 := hgW es1 J1
        have hset := fun es' => pre5_set (t := t) (today := today) (wh := wh) (days := days) B es1 J1 es'
        unfold onC
        rw [callE0 (by decide) (af := A103) rfl rfl]
        rw [hab] at q3 o1 ⊢
        simp only [keyA] at hr o1 u1
        simp only [stP, wCs, Town.cs, frO, List.cons_append, List.nil_append, List.append_nil] at hgW' hgW1 q3 o1 ⊢
        have hnl : ¬ (B.length + 5 + J.length ≤ min lo1 B.length) := by omega
        have hmm : min lo (min lo1 B.length) = min lo B.length := by omega
        simp [A103, A103_r0, A103_r3, A103_r4, A103_r5, A103_r6, A103_r7, A103_r9, A103_r10, A103_r26, A103_r27, finish, q3, hgW', hgM', hgM1, hgW1, hbe, hr, hpc, o1, u1, mods, hset, hnl, hmm]
end
end Go.Proofs.Tryd

namespace Go.Proofs.Tryd
open Go Go.Proofs.AM

section
variable {g : Nat} {cl : List AV} {h : Hd} {l : List Int} {pr : Int → Bool} {st : St}
theorem idx111F_loop (hl : l.length ≤ 9223372036854775807) (hcl : ∀ hp d, mapS (AM.settle hp 0 true (d + 4)) cl = some (cl, [])) (hg : ∀ x ∈ l, callE E0 false (.fn g cl []) [.int .i64 x] st = some (.bool (pr x), st)) : ∀ (b a : List Int) (k : Int), k = a.length → l = a ++ b →
    (b.any pr = true → ∃ n : Int, 0 ≤ n ∧ loopC E0 [0, 1, 7, 8] [] A111_l0 { ts := [(0, .v (lstA h In.av l)), (1, .v (.fn g cl [])), (7, .v (.int .i64 l.length)), (8, .v (.int .i64 k))], bs := [] } st = some (.ret, { ts := [(4, .v (.int .i64 n))], bs := [] }, st)) ∧
    (b.any pr = false → loopC E0 [0, 1, 7, 8] [] A111_l0 { ts := [(0, .v (lstA h In.av l)), (1, .v (.fn g cl [])), (7, .v (.int .i64 l.length)), (8, .v (.int .i64 k))], bs := [] } st = some (.exit 0, { ts := [(0, .v (lstA h In.av l)), (1, .v (.fn g cl [])), (7, .v (.int .i64 l.length)), (8, .v (.int .i64 l.length)), (9, .v (.bool false))], bs := [] }, st))
  | [], a, k, hk, e => by
    simp only [List.append_nil] at e
    subst e hk
    refine ⟨fun h => by simp at h, fun _ => ?_⟩
    rw [loopC_eq]
    simp [A111_l0, A111_r2]
  | x :: b, a, k, hk, e => by
    subst hk
    have hlt : a.length < l.length := by rw [e]; simp
    have hd : (row In.av l).drop (a.length * 1) = In.av x ++ row In.av b := by rw [e, row_drop In.len]; rfl
    have hw : IntKind.wrap .i64 ((a.length : Int) + 1) = (a.length : Int) + 1 := wrap_small (by omega) (by omega)
    have hgx := hg x (by rw [e]; simp)
    try simp only [In.av] at hgx
    try simp only [Nat.mul_one] at hd
    cases hp : pr x with
    | true =>
      rw [hp] at hgx
      refine ⟨fun _ => ⟨a.length, by omega, ?_⟩, fun h => by simp [hp] at h⟩
      rw [loopC_eq]
      simp [A111_l0, A111_r2, A111_r3, A111_r4, A111_r5, A111_r6, hlt, hd, hw, In.av, hcl, hgx]
    | false =>
      rw [hp] at hgx
      rw [loopC_norm (fr' := { ts := [(0, .v (lstA h In.av l)), (1, .v (.fn g cl [])), (7, .v (.int .i64 l.length)), (8, .v (.int .i64 ((a ++ [x]).length : Int)))], bs := [] }) (st' := st) (by
        simp [A111_l0, A111_r2, A111_r3, A111_r4, A111_r5, A111_r6, hlt, hd, hw, In.av, hcl, hgx])]
      have ih := idx111F_loop hl hcl hg b (a ++ [x]) _ rfl (by simp [e])
      exact ⟨fun h => ih.1 (by simpa [hp] using h), fun h => ih.2 (by simpa [hp] using h)⟩
theorem contains108F_ev (hl : l.length ≤ 9223372036854775807) (hcl : ∀ hp d, mapS (AM.settle hp 0 true (d + 4)) cl = some (cl, [])) (hg : ∀ x ∈ l, ∀ lo, callE E0 false (.fn g cl []) [.int .i64 x] { st with low := lo } = some (.bool (pr x), { st with low := lo })) :
    callE E0 false (.fn 108 [] []) [lstA h In.av l, .fn g cl []] st = some (.bool (l.any pr), st) := by
  have hidx : ∃ n : Int, decide (0 ≤ n) = l.any pr ∧ ∀ lo, callE E0 false (.fn 111 [] []) [lstA h In.av l, .fn g cl []] { st with low := lo } = some (.int .i64 n, { st with low := lo }) := by
    have hlp := idx111F_loop (h := h) (st := { st with low := st.heap.length }) hl hcl (fun x hx => hg x hx _) l [] 0 rfl rfl
    cases ha : l.any pr with
    | true =>
      obtain ⟨n, hn, hlp⟩ := hlp.1 ha
      refine ⟨n, by simpa using hn, fun lo => ?_⟩
      rw [callE0 (by decide) (af := A111) rfl rfl]
      simp [A111, A111_r0, A111_r1, A111_r7, finish, hlp]
    | false =>
      have hlp := hlp.2 ha
      refine ⟨-1, by simp, fun lo => ?_⟩
      rw [callE0 (by decide) (af := A111) rfl rfl]
      simp [A111, A111_r0, A111_r1, A111_r7, finish, hlp]
  obtain ⟨n, hn, hidx⟩ := hidx
  rw [callE0 (by decide) (af := A108) rfl rfl]
  simp [A108, A108_r0, A108_r1, finish, hcl, hidx, hn]
end
section
variable {t : Town} {today : Int} {wh : Hd} {days : List Int}
/-- A bill that is right for all days. -/
def BillW (t : Town) (today : Int) (days : List Int) (cost : Int) (l : List Pp) : Prop :=
  l.length ≤ 8 ∧ ((cost = -1 ∧ priceV t today days = never) ∨ (0 ≤ cost ∧ Chain t today (-1000) days l ∧ cost = feeSum t l ∧ 16 * cost + l.length = priceV t today days ∧ days.any (barredB t) = false))
theorem PV.settle_own {K : Nat} {C J : List AObj} {v : AV} {l : List Pp} (hC : C.length = K) (h : PV K J v l) (s : Nat) (hs : s ≤ K) (d : Nat) : ∃ h' ids, AM.settle (C ++ J) s false (d + 1) v = some (lstA h' Pp.av l, ids) := by
  have e1 := row_len Pp.len l
  have e2 : ∀ (hp : List AObj) (s d : Nat) (refs : Bool), mapS (AM.settle hp s refs d) (row Pp.av l) = some (row Pp.av l, []) := fun hp s d refs => mapS_plain (fun c hc => plainA.scal (row_scal Pp.sc _ c hc) d)
  subst hC
  rcases h with ⟨h, rfl, _⟩ | ⟨j, ver, rfl, h⟩
  · exact ⟨h, [], by simp [lstA, e2]⟩
  · have hg : (C ++ J)[C.length + j]? = J[j]? := by simp [List.getElem?_append_right]
    have htk : (row Pp.av l).take (l.length * 2) = row Pp.av l := List.take_of_length_le (Nat.le_of_eq e1)
    have hlt : ¬ C.length + j < s := by omega
    refine ⟨⟨some false, false⟩, [C.length + j], ?_⟩
    cases hj : J[j]? with
    | none => rw [hj] at h; cases h
    | some o =>
      rw [hj] at h
      cases o <;> simp [cont] at h <;> simp [hg, hj, h.1, h.2, e1, htk, e2, lstA, hlt]
theorem PV.of_lst (K : Nat) (J : List AObj) (h : Hd) (l : List Pp) (hh : l = [] → h.ex = true) : PV K J (lstA h Pp.av l) l := .inl ⟨h, rfl, hh⟩
theorem plan_ev (g : Good t) (hf : t.Fits) (hto : amid today 0 999 = true) (hn : days.length ≤ 8) (hds : ∀ x ∈ days, 0 ≤ x ∧ x ≤ 999) (hso : days.Pairwise (· ≤ ·)) (B : List AObj) (lo : Nat) (hlo : B.length ≤ lo) : ∃ cost v l H lo' h' ids, callE E0 false (.fn 98 [] []) [.agg (wCs t B.length today wh days)] { heap := B ++ [.map []], low := lo } = some (.agg [.int .i64 cost, v], { heap := B ++ H, low := lo' }) ∧ B.length ≤ lo' ∧ AM.settle (B ++ H) B.length false 7 v = some (lstA h' Pp.av l, ids) ∧ v.cells = some [v] ∧ BillW t today days cost l := by
  have hhe := held_ev (m := B.length) (today := today) (wh := wh) g hf hn
  have hl8 : (freeL t days).length = 8 := by simp [freeL]; omega
  have hda : (row In.av days).length = days.length := by rw [row_len In.len]; omega
  have hfp : ∀ (hp : List AObj) (s d : Nat) (refs : Bool), mapS (AM.settle hp s refs d) (freeL t days) = some (freeL t days, []) := fun hp s d refs => mapS_plain (fun c hc => plainA.scal (by
    simp only [freeL, List.mem_append, List.mem_map, List.mem_replicate] at hc
    rcases hc with ⟨x, _, rfl⟩ | ⟨_, rfl⟩ <;> rfl) d)
  have hcn := fun (st : St) => contains108F_ev (h := wh) (g := 73) (cl := [.agg (t.cs ++ [.map B.length])]) (pr := barredB t) (st := st) (l := days) (by omega) (fun hp d => by simp [Town.cs]) (fun x hx lo => isBarredM_ev hf x _)
  simp only [Town.cs, List.cons_append, List.nil_append] at hcn
  have htk0 : ∀ (x : AObj) (l : List AObj), List.take (B.length + 1) (B ++ x :: l) = B ++ [x] := fun x l => by simp [List.take_append, List.take_of_length_le]
  by_cases hbar : days.any (barredB t) = true
  · refine ⟨-1, .lst (some true) true 0 [], [], [.map []], lo, ⟨some true, true⟩, [], ?_, hlo, rfl, rfl, by simp, .inl ⟨rfl, by rw [priceV, if_pos hbar]⟩⟩
    rw [callE0 (by decide) (af := A98) rfl rfl]
    simp only [wCs, Town.cs, List.cons_append, List.nil_append] at hhe ⊢
    simp [A98, A98_r0, A98_r1, A98_r2, A98_r3, A98_r4, A98_r5, A98_r6, finish, alloc, hhe, hl8, hfp, hcn, hbar, htk0, get_app, set_app, mods]
  · have hbar' : days.any (barredB t) = false := by simpa using hbar
    have hpv : priceV t today days = V t today 8 (-1000) days := by rw [priceV, if_neg hbar]
    obtain ⟨cost, pv, es', J', lo', o1, o2, o3, o4, o5, o6⟩ := on_ev (today := today) (wh := wh) g hf hto hn hds hso B 8 0 0 none [] [] (B.length + 1) (by omega) (Nat.le_refl _) trivial (fun q h => by cases h) (by
      have := skipD_len t (-1000) days
      simp only [endO, List.drop_zero]
      omega) ⟨fun kv h => by simp at h, fun k many last c d v _ _ h => by simp [findK] at h⟩ (by omega) (by simp)
    have hpc := o4.cells
    obtain ⟨l, hl1, hl2, hl3⟩ := o4
    simp only [endO] at hl3
    rw [List.drop_zero, ← hpv] at hl3
    have hW : BillW t today days cost l := ⟨hl2, hl3.imp id fun ⟨x1, x2, x3, x4⟩ => ⟨x1, x2, x3, x4, hbar'⟩⟩
    obtain ⟨h1, ids1, hs1⟩ := hl1.settle_own (C := pre5 t today wh days B es') (pre5_len B es') (B.length + 1) (by omega) 6
    obtain ⟨h2, ids2, hs2⟩ := hl1.settle_own (C := pre5 t today wh days B es') (pre5_len B es') B.length (by omega) 6
    have htk : (pre5 t today wh days B es' ++ J').take (B.length + 1) = B ++ [.map es'] := by simp [pre5, List.take_append, List.take_of_length_le]
    have hpre : ∃ H, pre5 t today wh days B es' ++ J' = B ++ H := ⟨_, by rw [pre5, List.append_assoc]⟩
    simp only [onC, stP] at o1
    generalize pre5 t today wh days B es' ++ J' = HH at *
    simp only [pre5, List.append_nil, onV, onF, wCs, Town.cs, lastCs, List.cons_append, List.nil_append, Int.natCast_zero] at o1
    by_cases hlo1 : B.length + 1 ≤ lo'
    · refine ⟨cost, lstA h1 Pp.av l, l, [.map es'], lo, h1, [], ?_, hlo, by simp, rfl, hW⟩
      rw [callE0 (by decide) (af := A98) rfl rfl]
      simp only [wCs, Town.cs, List.cons_append, List.nil_append] at hhe ⊢
      simp [A98, A98_r0, A98_r1, A98_r2, A98_r3, A98_r4, A98_r5, A98_r6, A98_r7, finish, alloc, hhe, hl8, hfp, hcn, hbar', get_app, set_app, mods, o1, hpc, hs1, htk, hlo1]
    · obtain ⟨H, rfl⟩ := hpre
      refine ⟨cost, pv, l, H, min lo lo', h2, ids2, ?_, by omega, hs2, hpc, hW⟩
      rw [callE0 (by decide) (af := A98) rfl rfl]
      simp only [wCs, Town.cs, List.cons_append, List.nil_append] at hhe ⊢
      simp [A98, A98_r0, A98_r1, A98_r2, A98_r3, A98_r4, A98_r5, A98_r6, A98_r7, finish, alloc, hhe, hl8, hfp, hcn, hbar', get_app, set_app, mods, o1, hpc, hlo1]
theorem planned_ev (g : Good t) (hf : t.Fits) (hto : amid today 0 999 = true) (hn : days.length ≤ 8) (hds : ∀ x ∈ days, 0 ≤ x ∧ x ≤ 999) (hso : days.Pairwise (· ≤ ·)) (st : St) : ∃ cost h l, BillW t today days cost l ∧ callE E0 false (.fn 76 [] []) [.agg t.cs, .int .i64 today, lstA wh In.av days] st = some (.agg [.int .i64 cost, lstA h Pp.av l], st) := by
  obtain ⟨cost, v, l, H, lo', h', ids, p1, p2, p3, p4, p5⟩ := plan_ev (today := today) (wh := wh) g hf hto hn hds hso st.heap st.heap.length (Nat.le_refl _)
  refine ⟨cost, h', l, p5, ?_⟩
  have hop := opened_ev t
  have hnl : ¬ (lo' < st.heap.length) := by omega
  rw [callE0 (by decide) (af := A76) rfl rfl]
  simp only [wCs, Town.cs, List.cons_append, List.nil_append] at p1 hop ⊢
  simp [A76, A76_r0, A76_r1, finish, hop, p1, p4, p2, p3]
end
end Go.Proofs.Tryd

namespace Go.Proofs.Tryd
open Go Go.Proofs.AM

theorem rise_facts : ∀ {l : List Int} {e : Int}, -1 ≤ e → riseB e l = true → (∀ x ∈ l, e < x ∧ x ≤ 999) ∧ l.Pairwise (· < ·)
  | [], _, _, _ => by simp
  | n :: l, e, he, h => by
    simp only [riseB, Bool.and_eq_true, amid_iff] at h
    obtain ⟨h1, h2⟩ := rise_facts (l := l) (e := n) (by omega) h.2
    refine ⟨fun x hx => ?_, List.pairwise_cons.2 ⟨fun x hx => (h1 x hx).1, h2⟩⟩
    simp only [List.mem_cons] at hx
    rcases hx with rfl | hx
    · omega
    · have := h1 x hx; omega
theorem want_facts {l : List Int} (h : wantB l = true) : l.length ≤ 8 ∧ (∀ x ∈ l, 0 ≤ x ∧ x ≤ 999) ∧ l.Pairwise (· ≤ ·) := by
  simp only [wantB, Bool.and_eq_true, decide_eq_true_eq] at h
  obtain ⟨h1, h2⟩ := rise_facts (e := -1) (by omega) h.2
  exact ⟨h.1, fun x hx => by have := h1 x hx; omega, h2.imp (fun h => by omega)⟩
section
variable {t : Town} {today : Int} {wh : Hd} {days : List Int}
theorem BillW.facts (hk : t.kinds.all kdB = true) {cost : Int} {l : List Pp} (h : BillW t today days cost l) : (cost < 0 ∧ priceV t today days = never) ∨ (0 ≤ cost ∧ priceV t today days < never ∧ cost = priceV t today days / 16 ∧ (l.length : Int) = priceV t today days % 16 ∧ 0 ≤ priceV t today days) := by
  obtain ⟨h8, h | ⟨h0, hc, hf, he, _⟩⟩ := h
  · exact .inl ⟨by omega, h.2⟩
  · have := hc.fees hk
    have n1 : (never : Int) = 1073741824 := rfl
    right
    refine ⟨h0, ?_, ?_, ?_, ?_⟩ <;> omega
theorem fee_bad (hf : t.Fits) (hwl : days.length ≤ 9223372036854775807) {e : Int} (he : e ≠ 0) (hb : (checkB t = false ∧ e = 50) ∨ (checkB t = true ∧ (amid today 0 999 && wantB days) = false ∧ e = 51)) (st : St) :
    callE E0 false (.fn 29 [] []) [.agg t.cs, .int .i64 today, lstA wh In.av days] st = some (.tup [.int .i64 0, .int .i64 e], st)
    ∧ callE E0 false (.fn 30 [] []) [.agg t.cs, .int .i64 today, lstA wh In.av days] st = some (.tup [.lst (some true) true 0 [], .int .i64 e], st)
    ∧ callE E0 false (.fn 28 [] []) [.agg t.cs, .int .i64 today, lstA wh In.av days] st = some (.tup [.int .i64 0, .int .i64 0, .int .i64 e], st) := by
  have hw := areWanted_ev (h := wh) hwl
  have hwr := areWantedR_ev (h := wh) hwl
  have har := askedR_ev hf
  have he' : (e == 0) = false := by simpa using he
  rcases hb with ⟨hc, rfl⟩ | ⟨hc, hb, rfl⟩
  · have ha := fun b s => asked_bad hf hc b s
    simp only [Town.cs] at ha har
    simp only [hc] at har
    refine ⟨?_, ?_, ?_⟩
    · rw [callE0 (by decide) (af := A29) rfl rfl]
      cases h1 : amid today 0 999 <;> simp [A29, A29_r0, A29_r1, A29_r2, A29_r3, regionA_st s29_r1, finish, Town.cs, hw, ha, h1, zero7]
    · rw [callE0 (by decide) (af := A30) rfl rfl]
      cases h1 : amid today 0 999 <;> simp [A30, A30_r0, A30_r1, A30_r2, A30_r3, regionA_st s30_r1, finish, Town.cs, hw, ha, h1, zero7]
    · rw [callE0 (by decide) (af := A28) rfl rfl]
      cases h1 : amid today 0 999 <;> simp [A28, A28_r0, A28_r1, A28_r2, A28_r3, regionA_st s28_r1, finish, Town.cs, hwr, har, h1]
  · have ha := fun s => asked_no hf hc s
    simp only [Town.cs] at ha har
    simp only [hc] at har
    refine ⟨?_, ?_, ?_⟩
    · rw [callE0 (by decide) (af := A29) rfl rfl]
      cases h1 : amid today 0 999 with
      | false => simp [A29, A29_r0, A29_r1, A29_r2, A29_r3, regionA_st s29_r1, finish, Town.cs, hw, ha, h1, zero7]
      | true =>
        rw [h1, Bool.true_and] at hb
        simp [A29, A29_r0, A29_r1, A29_r2, A29_r3, regionA_st s29_r1, finish, Town.cs, hw, ha, h1, hb, zero7]
    · rw [callE0 (by decide) (af := A30) rfl rfl]
      cases h1 : amid today 0 999 with
      | false => simp [A30, A30_r0, A30_r1, A30_r2, A30_r3, regionA_st s30_r1, finish, Town.cs, hw, ha, h1, zero7]
      | true =>
        rw [h1, Bool.true_and] at hb
        simp [A30, A30_r0, A30_r1, A30_r2, A30_r3, regionA_st s30_r1, finish, Town.cs, hw, ha, h1, hb, zero7]
    · rw [callE0 (by decide) (af := A28) rfl rfl]
      cases h1 : amid today 0 999 with
      | false => simp [A28, A28_r0, A28_r1, A28_r2, A28_r3, regionA_st s28_r1, finish, Town.cs, hwr, har, h1]
      | true =>
        rw [h1, Bool.true_and] at hb
        simp [A28, A28_r0, A28_r1, A28_r2, A28_r3, regionA_st s28_r1, finish, Town.cs, hwr, har, h1, hb]
theorem fee_ok (hf : t.Fits) (hc : checkB t = true) (hto : amid today 0 999 = true) (hw : wantB days = true) (st : St) :
    callE E0 false (.fn 29 [] []) [.agg t.cs, .int .i64 today, lstA wh In.av days] st = some (if priceV t today days = never then .tup [.int .i64 0, .int .i64 4] else .tup [.int .i64 (priceV t today days / 16), .int .i64 0], st) := by
  obtain ⟨w1, w2, w3⟩ := want_facts hw
  have g := good_of hc
  have hwe := areWanted_ev (h := wh) (l := days) (by omega)
  have ha := asked_ok hf hc
  simp only [Town.cs, hw] at ha hwe
  obtain ⟨cost, h, l, hb, hp⟩ := planned_ev (wh := wh) g hf hto w1 w2 w3 { heap := st.heap ++ [.map []], low := st.heap.length }
  simp only [Town.cs] at hp
  rw [callE0 (by decide) (af := A29) rfl rfl]
  rcases hb.facts g.kinds with ⟨h0, h1⟩ | ⟨h0, h1, h2, h3, h4⟩
  · rw [if_pos h1]
    simp [A29, A29_r0, A29_r1, A29_r2, A29_r3, A29_r4, A29_r5, A29_r6, A29_r7, regionA_st s29_r1, finish, Town.cs, hwe, ha, hto, hp, h0]
  · have h0' : ¬ cost < 0 := by omega
    rw [if_neg (by omega), ← h2]
    simp [A29, A29_r0, A29_r1, A29_r2, A29_r3, A29_r4, A29_r5, A29_r6, A29_r7, regionA_st s29_r1, finish, Town.cs, hwe, ha, hto, hp, h0']
theorem cheapest_ok (hf : t.Fits) (hc : checkB t = true) (hto : amid today 0 999 = true) (hw : wantB days = true) (st : St) :
    (priceV t today days = never ∧ callE E0 false (.fn 30 [] []) [.agg t.cs, .int .i64 today, lstA wh In.av days] st = some (.tup [.lst (some true) true 0 [], .int .i64 4], st)) ∨
    ∃ h cost l, priceV t today days ≠ never ∧ BillW t today days cost l ∧ 0 ≤ cost ∧ callE E0 false (.fn 30 [] []) [.agg t.cs, .int .i64 today, lstA wh In.av days] st = some (.tup [lstA h Pp.av l, .int .i64 0], st) := by
  obtain ⟨w1, w2, w3⟩ := want_facts hw
  have g := good_of hc
  have hwe := areWanted_ev (h := wh) (l := days) (by omega)
  have ha := asked_ok hf hc
  simp only [Town.cs, hw] at ha hwe
  obtain ⟨cost, h, l, hb, hp⟩ := planned_ev (wh := wh) g hf hto w1 w2 w3 { heap := st.heap ++ [.map []], low := st.heap.length }
  simp only [Town.cs] at hp
  have hs := slc_full Pp.len (h := h) l
  rw [callE0 (by decide) (af := A30) rfl rfl]
  rcases hb.facts g.kinds with ⟨h0, h1⟩ | ⟨h0, h1, h2, h3, h4⟩
  · refine .inl ⟨h1, ?_⟩
    simp [A30, A30_r0, A30_r1, A30_r2, A30_r3, A30_r4, A30_r5, A30_r6, A30_r7, regionA_st s30_r1, finish, Town.cs, hwe, ha, hto, hp, h0]
  · have h0' : ¬ cost < 0 := by omega
    refine .inr ⟨⟨h.nl, true⟩, cost, l, by omega, hb, h0, ?_⟩
    simp [A30, A30_r0, A30_r1, A30_r2, A30_r3, A30_r4, A30_r5, A30_r6, A30_r7, regionA_st s30_r1, finish, Town.cs, hwe, ha, hto, hp, h0', hs]
theorem priceV_range (hk : t.kinds.all kdB = true) : 0 ≤ priceV t today days ∧ priceV t today days ≤ never := by
  unfold priceV
  split
  · simp [never]
  · exact V_range 8 (-1000) days hk
theorem cheapestR_ok (hf : t.Fits) (hc : checkB t = true) (hto : amid today 0 999 = true) (hw : wantB days = true) (st : St) :
    callE E0 false (.fn 28 [] []) [.agg t.cs, .int .i64 today, lstA wh In.av days] st = some (if priceV t today days = never then .tup [.int .i64 0, .int .i64 0, .int .i64 4] else .tup [.int .i64 (priceV t today days / 16), .int .i64 (priceV t today days % 16), .int .i64 0], st) := by
  obtain ⟨w1, w2, w3⟩ := want_facts hw
  have g := good_of hc
  have hwe := areWantedR_ev (h := wh) (l := days) (by omega)
  have ha := askedR_ev hf
  have hp := price_ev (wh := wh) hf g hto w1 w2
  have hr := priceV_range (today := today) (days := days) g.kinds
  simp only [Town.cs, hw, hc] at ha hwe hp
  have n1 : (never : Int) = 1073741824 := rfl
  rw [n1] at hr ⊢
  generalize priceV t today days = n at *
  rw [callE0 (by decide) (af := A28) rfl rfl]
  by_cases h1 : n = 1073741824
  · rw [if_pos h1]
    subst h1
    simp [A28, A28_r0, A28_r1, A28_r2, A28_r3, A28_r4, A28_r5, A28_r6, A28_r7, regionA_st s28_r1, finish, Town.cs, hwe, ha, hto, hp]
  · rw [if_neg h1]
    have h2 : ¬ 1073741824 ≤ n := by omega
    have e1 : n.tdiv 16 = n / 16 := Int.tdiv_eq_ediv_of_nonneg hr.1
    have e2 : n.tmod 16 = n % 16 := Int.tmod_eq_emod_of_nonneg hr.1
    have w4 : IntKind.wrap .i64 (n / 16) = n / 16 := wrap_small (by omega) (by omega)
    have w5 : IntKind.wrap .i64 (n % 16) = n % 16 := wrap_small (by omega) (by omega)
    simp [A28, A28_r0, A28_r1, A28_r2, A28_r3, A28_r4, A28_r5, A28_r6, A28_r7, regionA_st s28_r1, finish, Town.cs, hwe, ha, hto, hp, h2, e1, e2, w4, w5]
end
end Go.Proofs.Tryd

namespace Go.Proofs.Tryd
open Go Go.Proofs.AM

attribute [local simp] opsT trOf accOf boxesOf AOp.uses AO.uses objOf heffOf boxOf allPairs AM.befores pairsFrom pairOk AM.ordB hits AX.slot slotsL slotsP AX.slotO Nat.testBit
section
variable {t : Town} {today : Int} {wh : Hd} {days : List Int}
def canV (t : Town) (days : List Int) (d : Int) : Bool := decide (priceV t d days ≠ never)
def bisV (t : Town) (days : List Int) : Nat → Int → Int → Int
  | 0, lo, _ => lo
  | n + 1, lo, hi => if 1 < hi - lo then (if canV t days ((lo + hi) / 2) = true then bisV t days n ((lo + hi) / 2) hi else bisV t days n lo ((lo + hi) / 2)) else lo
theorem can77_ev (hf : t.Fits) (g : Good t) (w1 : days.length ≤ 8) (w2 : ∀ x ∈ days, 0 ≤ x ∧ x ≤ 999) (w3 : days.Pairwise (· ≤ ·)) {a b : Nat} {d : Int} (hd : amid d 0 999 = true) (st : St) (ha : st.heap[a]? = some (.cells 0 none t.cs)) (hb : st.heap[b]? = some (.cells 0 none [lstA wh In.av days])) :
    callE E0 false (.fn 77 [] [.ref a 0 0, .ref b 0 0]) [.int .i64 d] st = some (.bool (canV t days d), st) := by
  obtain ⟨cost, h, l, hbw, hp⟩ := planned_ev (wh := wh) g hf hd w1 w2 w3 { heap := st.heap, low := st.heap.length }
  have hcv : canV t days d = decide (0 ≤ cost) := by
    unfold canV
    apply decide_eq_decide.2
    rcases hbw.facts g.kinds with ⟨h0, h1⟩ | ⟨h0, h1, h2, h3, h4⟩
    · constructor
      · intro h; exact absurd h1 h
      · intro h; omega
    · constructor
      · intro _; exact h0
      · intro _; omega
  rw [callE0 (by decide) (af := A77) rfl rfl]
  simp only [Town.cs] at hp ha
  simp [A77, A77_r0, A77_r1, finish, ha, hb, hp, hcv]
theorem latest_loop (hf : t.Fits) (g : Good t) (w1 : days.length ≤ 8) (w2 : ∀ x ∈ days, 0 ≤ x ∧ x ≤ 999) (w3 : days.Pairwise (· ≤ ·)) {a b : Nat} (st : St) (ha : st.heap[a]? = some (.cells 0 none t.cs)) (hb : st.heap[b]? = some (.cells 0 none [lstA wh In.av days])) : ∀ (n : Nat) (lo hi : Int), (hi - lo).toNat ≤ n + 1 → 0 ≤ lo → lo < hi → hi ≤ 1000 →
    ∃ hi', loopC E0 [8, 9, 10] [] A31_l0 { ts := [(8, .v (.fn 77 [] [.ref a 0 0, .ref b 0 0])), (9, .v (.int .i64 lo)), (10, .v (.int .i64 hi))], bs := [] } st
    = some (.exit 0, { ts := [(8, .v (.fn 77 [] [.ref a 0 0, .ref b 0 0])), (9, .v (.int .i64 (bisV t days n lo hi))), (10, .v (.int .i64 hi')), (29, .v (.bool false))], bs := [] }, st)
  | 0, lo, hi, hn, h0, h1, h2 => by
    have w4 : IntKind.wrap .i64 (hi - lo) = hi - lo := wrap_small (by omega) (by omega)
    have hlt : ¬ 1 < hi - lo := by omega
    refine ⟨hi, ?_⟩
    rw [loopC_eq]
    simp [A31_l0, A31_r8, w4, hlt, bisV]
  | n + 1, lo, hi, hn, h0, h1, h2 => by
    have w4 : IntKind.wrap .i64 (hi - lo) = hi - lo := wrap_small (by omega) (by omega)
    by_cases hlt : 1 < hi - lo
    · have w5 : IntKind.wrap .i64 (lo + hi) = lo + hi := wrap_small (by omega) (by omega)
      have e1 : (lo + hi).tdiv 2 = (lo + hi) / 2 := Int.tdiv_eq_ediv_of_nonneg (by omega)
      have w6 : IntKind.wrap .i64 ((lo + hi) / 2) = (lo + hi) / 2 := wrap_small (by omega) (by omega)
      have hc := can77_ev hf g w1 w2 w3 (d := (lo + hi) / 2) (by rw [amid_iff]; omega) st ha hb
      by_cases hcv : canV t days ((lo + hi) / 2) = true
      · obtain ⟨hi', ih⟩ := latest_loop hf g w1 w2 w3 st ha hb n ((lo + hi) / 2) hi (by omega) (by omega) (by omega) h2
        refine ⟨hi', ?_⟩
        simp only [bisV]
        rw [if_pos hlt, if_pos hcv, ← ih]
        rw [hcv] at hc
        apply loopC_norm
        simp [A31_l0, A31_r8, A31_r9, A31_r10, A31_r11, A31_r12, w4, hlt, w5, e1, w6, hc]
      · obtain ⟨hi', ih⟩ := latest_loop hf g w1 w2 w3 st ha hb n lo ((lo + hi) / 2) (by omega) (by omega) (by omega) (by omega)
        refine ⟨hi', ?_⟩
        simp only [bisV]
        rw [if_pos hlt, if_neg hcv, ← ih]
        rw [Bool.not_eq_true] at hcv
        rw [hcv] at hc
        apply loopC_norm
        simp [A31_l0, A31_r8, A31_r9, A31_r10, A31_r11, A31_r12, w4, hlt, w5, e1, w6, hc]
    · refine ⟨hi, ?_⟩
      rw [loopC_eq]
      simp [A31_l0, A31_r8, w4, hlt, bisV]
theorem latestR_loop (hf : t.Fits) (g : Good t) (w1 : days.length ≤ 8) (w2 : ∀ x ∈ days, 0 ≤ x ∧ x ≤ 999) (st : St) : ∀ (n : Nat) (lo hi : Int), (hi - lo).toNat ≤ n + 1 → 0 ≤ lo → lo < hi → hi ≤ 1000 →
    ∃ hi', loopC E0 [1, 2, 7, 8] [2] A32_l0 { ts := [(1, .v (lstA wh In.av days)), (2, .loc 2 0), (7, .v (.int .i64 lo)), (8, .v (.int .i64 hi))], bs := [(2, t.cs)] } st
    = some (.exit 0, { ts := [(1, .v (lstA wh In.av days)), (2, .loc 2 0), (7, .v (.int .i64 (bisV t days n lo hi))), (8, .v (.int .i64 hi')), (24, .v (.bool false))], bs := [(2, t.cs)] }, st)
  | 0, lo, hi, hn, h0, h1, h2 => by
    have w4 : IntKind.wrap .i64 (hi - lo) = hi - lo := wrap_small (by omega) (by omega)
    have hlt : ¬ 1 < hi - lo := by omega
    refine ⟨hi, ?_⟩
    rw [loopC_eq]
    simp [A32_l0, A32_r7, w4, hlt, bisV]
  | n + 1, lo, hi, hn, h0, h1, h2 => by
    have w4 : IntKind.wrap .i64 (hi - lo) = hi - lo := wrap_small (by omega) (by omega)
    by_cases hlt : 1 < hi - lo
    · have w5 : IntKind.wrap .i64 (lo + hi) = lo + hi := wrap_small (by omega) (by omega)
      have e1 : (lo + hi).tdiv 2 = (lo + hi) / 2 := Int.tdiv_eq_ediv_of_nonneg (by omega)
      have w6 : IntKind.wrap .i64 ((lo + hi) / 2) = (lo + hi) / 2 := wrap_small (by omega) (by omega)
      have hp := price_ev (wh := wh) hf g (today := (lo + hi) / 2) (by rw [amid_iff]; omega) w1 w2 st
      have hr := priceV_range (today := (lo + hi) / 2) (days := days) g.kinds
      have n1 : (never : Int) = 1073741824 := rfl
      simp only [Town.cs] at hp
      by_cases hcv : canV t days ((lo + hi) / 2) = true
      · obtain ⟨hi', ih⟩ := latestR_loop hf g w1 w2 st n ((lo + hi) / 2) hi (by omega) (by omega) (by omega) h2
        refine ⟨hi', ?_⟩
        simp only [bisV]
        rw [if_pos hlt, if_pos hcv, ← ih]
        simp only [canV, decide_eq_true_eq] at hcv
        have hlt2 : priceV t ((lo + hi) / 2) days < 1073741824 := by omega
        apply loopC_norm
        simp [A32_l0, A32_r7, A32_r8, A32_r9, A32_r10, A32_r11, Town.cs, w4, hlt, w5, e1, w6, hp, hlt2]
      · obtain ⟨hi', ih⟩ := latestR_loop hf g w1 w2 st n lo ((lo + hi) / 2) (by omega) (by omega) (by omega) (by omega)
        refine ⟨hi', ?_⟩
        simp only [bisV]
        rw [if_pos hlt, if_neg hcv, ← ih]
        simp only [canV, decide_eq_true_eq, ne_eq, Decidable.not_not] at hcv
        have hlt2 : ¬ priceV t ((lo + hi) / 2) days < 1073741824 := by omega
        apply loopC_norm
        simp [A32_l0, A32_r7, A32_r8, A32_r9, A32_r10, A32_r11, Town.cs, w4, hlt, w5, e1, w6, hp, hlt2]
    · refine ⟨hi, ?_⟩
      rw [loopC_eq]
      simp [A32_l0, A32_r7, w4, hlt, bisV]
def latestV (t : Town) (days : List Int) : Int := if checkB t = true ∧ wantB days = true ∧ canV t days 0 = true then bisV t days 999 0 1000 else 0
def latestE (t : Town) (days : List Int) : Int := if checkB t = true then (if wantB days = true then (if canV t days 0 = true then 0 else 4) else 51) else 50
theorem latest_ev (hf : t.Fits) (hwl : days.length ≤ 9223372036854775807) (st : St) : callE E0 false (.fn 31 [] []) [.agg t.cs, lstA wh In.av days] st = some (.tup [.int .i64 (latestV t days), .int .i64 (latestE t days)], st) := by
  have hw := areWanted_ev (h := wh) hwl
  rw [callE0 (by decide) (af := A31) rfl rfl]
  unfold latestV latestE
  cases hc : checkB t with
  | false =>
    have ha := fun b s => asked_bad hf hc b s
    simp only [Town.cs] at ha
    simp [A31, A31_r0, A31_r1, A31_r2, A31_r3, regionA, finish, Town.cs, alloc, get_app, get_app0, hw, ha, zero7]
  | true =>
    cases hwb : wantB days with
    | false =>
      have ha := fun s => asked_no hf hc s
      simp only [Town.cs] at ha
      simp [A31, A31_r0, A31_r1, A31_r2, A31_r3, regionA, finish, Town.cs, alloc, get_app, get_app0, hw, ha, hwb, zero7]
    | true =>
      obtain ⟨w1, w2, w3⟩ := want_facts hwb
      have g := good_of hc
      have ha := asked_ok hf hc
      have hcv := can77_ev (wh := wh) (a := st.heap.length) (b := st.heap.length + 1) hf g w1 w2 w3 (d := 0) (by decide) { heap := st.heap ++ [.cells 0 none t.cs, .cells 0 none [lstA wh In.av days], .map []], low := st.heap.length } (by simp [get_app0]) (by simp [get_app])
      obtain ⟨hi', hl⟩ := latest_loop (wh := wh) (a := st.heap.length) (b := st.heap.length + 1) hf g w1 w2 w3 { heap := st.heap ++ [.cells 0 none t.cs, .cells 0 none [lstA wh In.av days], .map []], low := st.heap.length } (by simp [get_app0]) (by simp [get_app]) 999 0 1000 (by decide) (by omega) (by omega) (by omega)
      simp only [Town.cs] at ha hcv hl
      cases hcc : canV t days 0 with
      | false =>
        rw [hcc] at hcv
        simp [A31, A31_r0, A31_r1, A31_r2, A31_r3, A31_r4, A31_r5, A31_r6, regionA, finish, Town.cs, alloc, get_app, get_app0, hw, ha, hwb, hcv]
      | true =>
        rw [hcc] at hcv
        simp [A31, A31_r0, A31_r1, A31_r2, A31_r3, A31_r4, A31_r5, A31_r6, A31_r7, A31_r13, regionA, finish, Town.cs, alloc, get_app, get_app0, hw, ha, hwb, hcv, hl]
theorem latestR_ev (hf : t.Fits) (hwl : days.length ≤ 9223372036854775807) (st : St) : callE E0 false (.fn 32 [] []) [.agg t.cs, lstA wh In.av days] st = some (.tup [.int .i64 (latestV t days), .int .i64 (latestE t days)], st) := by
  have hw := areWantedR_ev (h := wh) hwl
  have ha := askedR_ev hf
  rw [callE0 (by decide) (af := A32) rfl rfl]
  unfold latestV latestE
  simp only [Town.cs] at ha
  cases hc : checkB t with
  | false =>
    simp only [hc] at ha
    simp [A32, A32_r0, A32_r1, A32_r2, A32_r3, regionA_st s32_r1, finish, Town.cs, hw, ha]
  | true =>
    simp only [hc] at ha
    cases hwb : wantB days with
    | false =>
      simp [A32, A32_r0, A32_r1, A32_r2, A32_r3, regionA_st s32_r1, finish, Town.cs, hw, ha, hwb]
    | true =>
      obtain ⟨w1, w2, w3⟩ := want_facts hwb
      have g := good_of hc
      obtain ⟨hi', hl⟩ := latestR_loop (wh := wh) hf g w1 w2 { heap := st.heap, low := st.heap.length } 999 0 1000 (by decide) (by omega) (by omega) (by omega)
      have hp := price_ev (wh := wh) hf g (today := 0) (by decide) w1 w2
      have hr := priceV_range (t := t) (today := 0) (days := days) g.kinds
      have n1 : (never : Int) = 1073741824 := rfl
      simp only [Town.cs] at hl hp
      cases hcc : canV t days 0 with
      | false =>
        simp only [canV, decide_eq_false_iff_not, ne_eq, Decidable.not_not] at hcc
        have hge : 1073741824 ≤ priceV t 0 days := by omega
        simp [A32, A32_r0, A32_r1, A32_r2, A32_r3, A32_r4, A32_r5, regionA_st s32_r1, finish, Town.cs, hw, ha, hwb, hp, hge]
      | true =>
        simp only [canV, decide_eq_true_eq] at hcc
        have hge : ¬ 1073741824 ≤ priceV t 0 days := by omega
        simp [A32, A32_r0, A32_r1, A32_r2, A32_r3, A32_r4, A32_r5, A32_r6, A32_r12, regionA_st s32_r1, finish, Town.cs, hw, ha, hwb, hp, hge, hl]
end
end Go.Proofs.Tryd

namespace Go.Proofs.Tryd
open Go Go.Proofs.AM

section
variable {t : Town} {today : Int} {wh : Hd} {days : List Int}
theorem togB_append : ∀ (l a m : List Pp), togB t a (l ++ m) = (togB t a l && togB t (a ++ l) m)
  | [], a, m => by simp [togB]
  | x :: l, a, m => by
    have := togB_append l (a ++ [x]) m
    simp only [List.cons_append, togB, this, List.append_assoc, List.nil_append, Bool.and_assoc]
theorem Chain.all {e : Int} {ds : List Int} {l : List Pp} (h : Chain t today e ds l) : ∀ p ∈ l, paperB t p = true := by
  induction h with
  | nil _ => simp
  | cons h1 h2 _ ih =>
    simp only [fitB, Bool.and_eq_true] at h2
    intro q hq
    simp only [List.mem_cons] at hq
    rcases hq with rfl | hq
    · exact h2.1.1.1.1.1
    · exact ih q hq
theorem Chain.go (hk : t.kinds.all kdB = true) (hpa : 0 ≤ t.pause) {e : Int} {ds : List Int} {l : List Pp} (h : Chain t today e ds l) : ∀ (pr : Option Int), (∀ f, pr = some f → f ≤ e) → goB t today pr l = true := by
  induction h with
  | nil _ => intro pr _; rfl
  | @cons e ds d ds' p l h1 h2 _ ih =>
    intro pr hpr
    simp only [fitB, Bool.and_eq_true, decide_eq_true_eq] at h2
    have hr := end_range h2.1.1.1.1.1 hk
    simp only [goB, stepB, Bool.and_eq_true, decide_eq_true_eq]
    refine ⟨⟨⟨h2.1.1.1.1.1, ?_⟩, h2.1.1.2⟩, ih _ (fun f hf => by cases hf; exact hr.1)⟩
    have h3 := h2.1.2
    cases pr with
    | none => rfl
    | some f =>
      have := hpr f rfl
      simp only [ordB, decide_eq_true_eq]
      omega
theorem Chain.tog (hk : t.kinds.all kdB = true) (hpa : 0 ≤ t.pause) {e : Int} {ds : List Int} {l : List Pp} (h : Chain t today e ds l) : ∀ (pre : List Pp), (∀ q ∈ pre, q ∈ t.held ∨ (q.first ≤ endB t q ∧ endB t q ≤ e)) → togB t pre l = true := by
  induction h with
  | nil _ => intro pr _; rfl
  | @cons e ds d ds' p l h1 h2 _ ih =>
    intro pre hpre
    simp only [fitB, Bool.and_eq_true, decide_eq_true_eq] at h2
    have hr := end_range h2.1.1.1.1.1 hk
    simp only [togB, Bool.and_eq_true]
    have h3 := h2.1.2
    refine ⟨List.all_eq_true.2 fun q hq => ?_, ih _ fun q hq => ?_⟩
    · rcases hpre q hq with hh | ⟨h5, h6⟩
      · exact List.all_eq_true.1 h2.2 q hh
      · unfold goesB
        rw [if_pos (by omega)]
        simp only [decide_eq_true_eq]
        omega
    · simp only [List.mem_append, List.mem_singleton] at hq
      rcases hq with hq | rfl
      · rcases hpre q hq with hh | ⟨h5, h6⟩
        · exact .inl hh
        · exact .inr ⟨h5, by omega⟩
      · exact .inr ⟨hr.1, Int.le_refl _⟩
theorem skipD_split : ∀ {ds : List Int} {e : Int}, ∃ a, ds = a ++ skipD t e ds ∧ ∀ x ∈ a, x ≤ e ∨ covB t t.held x = true
  | [], e => ⟨[], rfl, by simp⟩
  | x :: ds, e => by
    simp only [skipD]
    split
    · rename_i h
      obtain ⟨a, h1, h2⟩ := skipD_split (ds := ds) (e := e)
      refine ⟨x :: a, by rw [List.cons_append, ← h1], fun y hy => ?_⟩
      simp only [List.mem_cons] at hy
      rcases hy with rfl | hy
      · simpa using h
      · exact h2 y hy
    · exact ⟨[], rfl, by simp⟩
theorem Chain.covers {e : Int} {ds : List Int} {l : List Pp} (h : Chain t today e ds l) : ds.Pairwise (· ≤ ·) → ∀ x ∈ ds, x ≤ e ∨ covB t t.held x = true ∨ covB t l x = true := by
  induction h with
  | @nil e ds h1 =>
    intro _ x hx
    obtain ⟨a, h2, h3⟩ := skipD_split (t := t) (ds := ds) (e := e)
    rw [h1, List.append_nil] at h2
    subst h2
    rcases h3 x hx with h | h
    · exact .inl h
    · exact .inr (.inl h)
  | @cons e ds d ds' p l h1 h2 _ ih =>
    intro hso x hx
    obtain ⟨a, h4, h3⟩ := skipD_split (t := t) (ds := ds) (e := e)
    rw [h1] at h4
    simp only [fitB, Bool.and_eq_true, decide_eq_true_eq] at h2
    have hle := pairwise_drop hso h4
    have hc : ∀ y, d ≤ y → y ≤ endB t p → covB t (p :: l) y = true := fun y h5 h6 => by
      have : amid y p.first (endB t p) = true := amid_iff.2 ⟨by omega, h6⟩
      simp [covB, this]
    rw [h4] at hx
    simp only [List.mem_append, List.mem_cons] at hx
    rcases hx with hx | rfl | hx
    · rcases h3 x hx with h | h
      · exact .inl h
      · exact .inr (.inl h)
    · exact .inr (.inr (hc x (Int.le_refl _) h2.1.1.1.2))
    · have hso' : ds'.Pairwise (· ≤ ·) := by
        rw [h4] at hso
        exact (List.pairwise_cons.1 (List.pairwise_append.1 hso).2.1).2
      rcases ih hso' x hx with h | h | h
      · exact .inr (.inr (hc x (hle x hx) h))
      · exact .inr (.inl h)
      · exact .inr (.inr (by
          simp only [covB, List.any_cons, Bool.or_eq_true]
          exact .inr h))
theorem BillW.plan (g : Good t) {cost : Int} {l : List Pp} (h0 : 0 ≤ cost) (h : BillW t today days cost l) : planB t today l = true ∧ l.all (paperB t) = true := by
  obtain ⟨h8, h | ⟨_, hc, hf, he, hb⟩⟩ := h
  · omega
  · have hpa := (amid_iff.1 g.pause).1
    refine ⟨?_, List.all_eq_true.2 hc.all⟩
    simp only [planB, Bool.and_eq_true, decide_eq_true_eq]
    refine ⟨⟨h8, hc.go g.kinds hpa none (fun f h => by cases h)⟩, ?_⟩
    rw [togB_append, g.tog, Bool.true_and]
    exact hc.tog g.kinds hpa _ (fun q hq => by simpa using .inl hq)
theorem BillW.lack (hds : ∀ x ∈ days, 0 ≤ x ∧ x ≤ 999) (hso : days.Pairwise (· ≤ ·)) {cost : Int} {l : List Pp} (h0 : 0 ≤ cost) (h : BillW t today days cost l) : days.filter (lackB t (t.held ++ l)) = [] := by
  obtain ⟨h8, h | ⟨_, hc, hf, he, hb⟩⟩ := h
  · omega
  · rw [List.filter_eq_nil_iff]
    intro x hx
    have h1 := hc.covers hso x hx
    have h2 := hds x hx
    have h3 : barredB t x = false := by
      have := List.any_eq_false.1 hb x hx
      simpa using this
    simp only [lackB, h3, Bool.or_false, Bool.not_eq_true', Bool.not_eq_false, covB, List.any_append, Bool.or_eq_true] at h1 ⊢
    rcases h1 with h1 | h1
    · omega
    · exact h1
end
end Go.Proofs.Tryd

namespace Go.Proofs.Tryd
open Go Go.Proofs.AM

section
variable {t : Town} {today : Int} {wh : Hd} {days : List Int}
theorem fees_loop (g : Good t) {h : Hd} {l : List Pp} {a7 a18 a19 : AV} (hl : l.length ≤ 8) (hall : ∀ p ∈ l, paperB t p = true) (st : St) (hlo : st.low ≤ st.heap.length) : ∀ (b a : List Pp) (k c : Int), k = a.length → l = a ++ b → 0 ≤ c → c ≤ 1000 * a.length →
    loopC E0 [3, 7, 12, 18, 19, 20, 21] [3] A5_l0 { ts := [(3, .loc 3 0), (7, .v a7), (12, .v (lstA h Pp.av l)), (18, .v a18), (19, .v a19), (20, .v (.int .i64 c)), (21, .v (.int .i64 k))], bs := [(3, t.cs)] } st
    = some (.exit 0, { ts := [(3, .loc 3 0), (7, .v a7), (12, .v (lstA h Pp.av l)), (18, .v a18), (19, .v a19), (20, .v (.int .i64 (c + feeSum t b))), (21, .v (.int .i64 l.length)), (114, .v (.bool false))], bs := [(3, t.cs)] }, st)
  | [], a, k, c, hk, e, _, _ => by
    simp only [List.append_nil] at e
    subst e hk
    rw [loopC_eq]
    simp [A5_l0, A5_r18, feeSum]
  | p :: b, a, k, c, hk, e, h0, h1 => by
    subst hk
    have hm : min st.low st.heap.length = st.low := Nat.min_eq_left hlo
    have hp := hall p (by simp [e])
    obtain ⟨kk, e1, _, _, k0, k1, _⟩ := kd_of hp g.kinds
    have hfe := fee_of hp g.kinds e1
    have hdk := row_get Kd.len e1
    have hlt : a.length < l.length := by rw [e]; simp
    have hd : (row Pp.av l).drop (a.length * 2) = Pp.av p ++ row Pp.av b := by rw [e, row_drop Pp.len]; rfl
    have hw : IntKind.wrap .i64 ((a.length : Int) + 1) = (a.length : Int) + 1 := wrap_small (by omega) (by omega)
    have hw2 : IntKind.wrap .i64 (c + kk.fee) = c + kk.fee := wrap_small (by omega) (by omega)
    rw [loopC_norm (fr' := { ts := [(3, .loc 3 0), (7, .v a7), (12, .v (lstA h Pp.av l)), (18, .v a18), (19, .v a19), (20, .v (.int .i64 (c + kk.fee))), (21, .v (.int .i64 ((a ++ [p]).length : Int)))], bs := [(3, t.cs)] }) (st' := st) (by
      simp [A5_l0, A5_r18, A5_r19, A5_r20, regionA_st s5_r20, Town.cs, hm, hlt, hd, hw, hw2, Pp.av, k0, k1, hdk, Kd.av]), fees_loop g hl hall st hlo b (a ++ [p]) _ (c + kk.fee) rfl (by simp [e]) (by omega) (by simp; omega)]
    have : feeSum t (p :: b) = kk.fee + feeSum t b := by simp [feeSum, hfe.1]
    rw [this, Int.add_assoc]
theorem feesLaw_ev (hf : t.Fits) (today : Int) (hwl : days.length ≤ 9223372036854775807) (st : St) : callE E0 false (.fn 5 [] []) [.agg t.cs, .int .i64 today, lstA wh In.av days] st = some (.bool true, st) := by
  have hL := fun s => latest_ev (wh := wh) hf hwl s
  have hLR := fun s => latestR_ev (wh := wh) hf hwl s
  rw [callE0 (by decide) (af := A5) rfl rfl]
  simp only [Town.cs] at hL hLR
  by_cases hok : checkB t = true ∧ (amid today 0 999 && wantB days) = true
  · obtain ⟨hc, hb⟩ := hok
    simp only [Bool.and_eq_true] at hb
    obtain ⟨hto, hw⟩ := hb
    obtain ⟨w1, w2, w3⟩ := want_facts hw
    have g := good_of hc
    have hF := fun s => fee_ok (wh := wh) hf hc hto hw s
    have hR := fun s => cheapestR_ok (wh := wh) hf hc hto hw s
    rcases cheapest_ok (wh := wh) hf hc hto hw { heap := st.heap, low := st.heap.length } with ⟨hn, hC⟩ | ⟨h, cost, l, hn, hbw, h0, hC⟩
    · simp only [hn, if_true] at hF hR
      simp only [Town.cs] at hF hR hC
      simp [A5, A5_r0, A5_r1, A5_r2, A5_r3, A5_r4, A5_r5, A5_r6, A5_r7, A5_r8, A5_r9, A5_r10, A5_r11, finish, Town.cs, hF, hR, hC, hL, hLR]
    · simp only [hn, if_false] at hF hR
      obtain ⟨hpl, hal⟩ := hbw.plan g h0
      have hlk := hbw.lack w2 w3 h0
      have hl8 := hbw.1
      have hI := fun s => isPlanR_ok (h := h) (plan := l) hf hc hto (by omega) s
      have hri : rightB t l = true := by simp [rightB, hl8, List.all_eq_true.1 hal]; exact List.all_eq_true.1 hal
      have hK := fun s => lackingR_ok (h := h) (hw := wh) hf hc hw hri s
      rw [hlk] at hK
      rw [hpl] at hI
      rcases hbw.facts g.kinds with ⟨x1, _⟩ | ⟨_, x1, x2, x3, x4⟩
      · omega
      have hfs : feeSum t l = cost := by
        rcases hbw.2 with ⟨x, _⟩ | ⟨_, _, x, _⟩
        · omega
        · exact x.symm
      have hlo := fun a7 a18 a19 => fees_loop (h := h) (a7 := a7) (a18 := a18) (a19 := a19) g hl8 (List.all_eq_true.1 hal) { heap := st.heap, low := st.heap.length } (Nat.le_refl _) l [] 0 0 rfl rfl (by omega) (by simp)
      rw [hfs] at hlo
      rw [← x2, ← x3] at hR
      rw [← x2] at hF
      simp only [Town.cs, daysRV] at hF hR hC hI hK hlo
      simp [A5, A5_r0, A5_r1, A5_r2, A5_r3, A5_r4, A5_r5, A5_r6, A5_r7, A5_r8, A5_r9, A5_r10, A5_r11, A5_r12, A5_r13, A5_r14, A5_r15, A5_r16, A5_r17, A5_r21, finish, Town.cs, hF, hR, hC, hL, hLR, hI, hK, hlo]
  · have hbad : ∃ e : Int, e ≠ 0 ∧ ((checkB t = false ∧ e = 50) ∨ (checkB t = true ∧ (amid today 0 999 && wantB days) = false ∧ e = 51)) := by
      cases hc : checkB t with
      | false => exact ⟨50, by omega, .inl ⟨rfl, rfl⟩⟩
      | true =>
        refine ⟨51, by omega, .inr ⟨rfl, ?_, rfl⟩⟩
        cases hb : (amid today 0 999 && wantB days) with
        | false => rfl
        | true => exact absurd ⟨hc, hb⟩ hok
    obtain ⟨e, he, hbad⟩ := hbad
    have hF := fun s => (fee_bad (wh := wh) hf hwl he hbad s).1
    have hC := fun s => (fee_bad (wh := wh) hf hwl he hbad s).2.1
    have hR := fun s => (fee_bad (wh := wh) hf hwl he hbad s).2.2
    have he' : (e != 0) = true := by simpa using he
    simp only [Town.cs] at hF hC hR
    simp [A5, A5_r0, A5_r1, A5_r2, A5_r3, A5_r4, A5_r5, A5_r6, A5_r7, A5_r8, A5_r9, A5_r10, A5_r11, finish, Town.cs, hF, hR, hC, hL, hLR, he, he']
end
end Go.Proofs.Tryd
