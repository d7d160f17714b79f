/-
  The shape of the cells of a datum, by its type.
-/
import Derived.Test.YtkifeiienlkmcaaDoorAmG
set_option linter.all false
namespace Go.Proofs.AM
open Go

section
variable {H : Type}
def ShFs (S : TypeId → List AV → Prop) : List Field → List AV → Prop
  | [], cs => cs = []
  | f :: fs, cs => ∃ a b, cs = a ++ b ∧ S f.type a ∧ ShFs S fs b
/-- Cells of a type of bools, whole numbers, and rows of them. -/
def Sh (P : Program) : Nat → TypeId → List AV → Prop
  | 0, _, _ => False
  | d + 1, t, cs => match P.underlying t with
    | some .bool => ∃ b, cs = [.bool b]
    | some (.int q) => ∃ n, cs = [.int q n] ∧ (Lit.int q n).wf = true
    | some (.slice e) => ∃ nl ex, ∃ es : List (List AV), cs = [.lst nl ex es.length es.flatten] ∧ es.length ≤ maxLen ∧ ∀ x ∈ es, Sh P d e x
    | some (.struct fs) => ShFs (Sh P d) fs.toList cs
    | some (.array n e) => ∃ es : List (List AV), cs = es.flatten ∧ es.length = n ∧ ∀ x ∈ es, Sh P d e x
    | _ => False
variable {enc : TypeId × Value → H} {P : Program} {w : World} {held : Bool}
theorem trod_Sh : ∀ (d fuel : Nat) (t : TypeId) (cs : List Value) (x : DataW H × List MemPlace), plainT P d t = true → DataW.trod enc P w 0 (fun _ => true) held fuel t cs = some x → Sh P d t (toA d x.1)
  | 0, _, _, _, _, h, _ => by simp [plainT] at h
  | d + 1, fuel, t, cs, x, hp, h => by
    have ih := trod_Sh d
    unfold plainT at hp
    unfold Sh
    cases e : P.underlying t with
    | none => rw [e] at hp; cases hp
    | some k =>
      rw [e] at hp
      cases k
      case bool =>
        obtain ⟨b, rfl, rfl⟩ := DataW.trod_bool e h
        exact ⟨b, rfl⟩
      case int q =>
        obtain ⟨n, rfl, rfl, hw⟩ := DataW.trod_int e h
        exact ⟨n, rfl, hw⟩
      case slice el =>
        simp only at hp ⊢
        rcases DataW.trod_slice e h with ⟨rfl, rfl⟩ | ⟨a, len, cap, elems, rest, n, rfl, rfl, rfl, _, hlc, hmx, hel, hat, hsp, _⟩
        · exact ⟨some true, true, [], rfl, by simp, by simp⟩
        · refine ⟨some false, (rest.map (·.1)).isEmpty, (elems.map (·.1)).map (toA d), by simp [toA], by simp; omega, fun y hy => ?_⟩
          simp only [List.map_map, List.mem_map, Function.comp] at hy
          obtain ⟨z, hz, rfl⟩ := hy
          obtain ⟨i, hi, rfl⟩ := List.getElem_of_mem hz
          have := hat i (by omega)
          rw [List.getElem?_eq_getElem hi] at this
          obtain ⟨cells, hc, ht⟩ := Option.bind_eq_some_iff.1 this
          exact ih n el cells _ hp ht
      case struct fs =>
        simp only [decide_eq_true_eq] at hp ⊢
        obtain ⟨xs, n, rfl, rfl, hcs, hxs, hat⟩ := DataW.trod_struct e h
        have key : ∀ (fl : List Field) (ys : List (DataW H × List MemPlace)) (o : Nat), plainFs P (plainT P d) o fl = some (P.cellsOf t) → ys.length = fl.length → (∀ (i : Nat) (f : Field), fl[i]? = some f → DataW.trod enc P w 0 (fun _ => true) held n f.type ((cs.drop f.offset).take (P.cellsOf f.type)) = ys[i]?) →
            ShFs (Sh P d) fl ((ys.map (·.1)).map (toA d)).flatten := by
          intro fl
          induction fl with
          | nil =>
            intro ys o ho hl _
            have : ys = [] := List.eq_nil_of_length_eq_zero hl
            subst this
            rfl
          | cons f fl ihf =>
            intro ys o ho hl hat
            cases ys with
            | nil => simp at hl
            | cons y ys =>
              simp only [plainFs] at ho
              split at ho
              · rename_i hc
                simp only [Bool.and_eq_true, beq_iff_eq] at hc
                obtain ⟨rfl, hpt⟩ := hc
                have h0 := hat 0 f rfl
                simp only [List.getElem?_cons_zero] at h0
                simp only [List.map_cons, List.flatten_cons]
                exact ⟨_, _, rfl, ih n f.type _ _ hpt h0, ihf ys _ ho (by simpa using hl) (fun i g hg => hat (i + 1) g (by simpa using hg))⟩
              · cases ho
        have := key fs.toList xs 0 hp (by simpa using hxs) (fun i f hf => hat i f (by simpa using hf))
        simpa [toA] using this
      case array n el =>
        simp only [Bool.and_eq_true, beq_iff_eq] at hp ⊢
        obtain ⟨xs, m, rfl, rfl, hcs, hxs, hat⟩ := DataW.trod_array e h
        refine ⟨(xs.map (·.1)).map (toA d), by simp [toA], by simpa using hxs, fun y hy => ?_⟩
        simp only [List.map_map, List.mem_map, Function.comp] at hy
        obtain ⟨z, hz, rfl⟩ := hy
        obtain ⟨j, hj, rfl⟩ := List.getElem_of_mem hz
        have h0 := hat j (by omega)
        rw [List.getElem?_eq_getElem hj] at h0
        exact ih m el _ _ hp.1 h0
      all_goals cases hp
theorem Trod_Sh {d : Nat} {t : TypeId} {v : Value} {x : DataW H} {ps : List MemPlace} (hp : plainT P d t = true) (h : DataW.Trod enc P w 0 (fun _ => true) held t v x ps) : Sh P d t (toA d x) := by
  obtain ⟨fuel, h⟩ := h
  exact trod_Sh d fuel t v.cells.toList (x, ps) hp h
theorem Sh_int {d : Nat} {t : TypeId} {q : IntKind} {cs : List AV} (hu : P.underlying t = some (.int q)) (h : Sh P (d + 1) t cs) : ∃ n, cs = [.int q n] ∧ (Lit.int q n).wf = true := by
  unfold Sh at h
  rw [hu] at h
  exact h
theorem Sh_bool {d : Nat} {t : TypeId} {cs : List AV} (hu : P.underlying t = some .bool) (h : Sh P (d + 1) t cs) : ∃ b, cs = [.bool b] := by
  unfold Sh at h
  rw [hu] at h
  exact h
theorem Sh_struct {d : Nat} {t : TypeId} {fs : Array Field} {cs : List AV} (hu : P.underlying t = some (.struct fs)) (h : Sh P (d + 1) t cs) : ShFs (Sh P d) fs.toList cs := by
  unfold Sh at h
  rw [hu] at h
  exact h
theorem Sh_slice {d : Nat} {t e : TypeId} {cs : List AV} (hu : P.underlying t = some (.slice e)) (h : Sh P (d + 1) t cs) : ∃ nl ex, ∃ es : List (List AV), cs = [.lst nl ex es.length es.flatten] ∧ es.length ≤ maxLen ∧ ∀ x ∈ es, Sh P d e x := by
  unfold Sh at h
  rw [hu] at h
  exact h
theorem Sh_array {d n : Nat} {t e : TypeId} {cs : List AV} (hu : P.underlying t = some (.array n e)) (h : Sh P (d + 1) t cs) : ∃ es : List (List AV), cs = es.flatten ∧ es.length = n ∧ ∀ x ∈ es, Sh P d e x := by
  unfold Sh at h
  rw [hu] at h
  exact h
end
end Go.Proofs.AM
