/-
  Data that are handed in, as values of the machine.
-/
import Derived.Test.YtkifeiienlkmcaaDoorAmF
import Derived.ChangeArms
import Derived.OpenShut
set_option linter.all false
namespace Go.Proofs.AM
open Go

section
variable {H : Type}
/-- The cells of a datum. -/
def toA : Nat → DataW H → List AV
  | 0, _ => []
  | _ + 1, .lit (.bool b) => [.bool b]
  | _ + 1, .lit (.int k n) => [.int k n]
  | _ + 1, .nil => [.lst (some true) true 0 []]
  | n + 1, .slice es sp => [.lst (some false) sp.isEmpty es.length ((es.map (toA n)).flatten)]
  | n + 1, .agg ps => (ps.map (toA n)).flatten
  | _, _ => []
def plainFs (P : Program) (pt : TypeId → Bool) : Nat → List Field → Option Nat
  | o, [] => some o
  | o, f :: fs => if f.offset == o && pt f.type then plainFs P pt (o + P.cellsOf f.type) fs else none
/-- Types of bools, whole numbers, and rows of them. -/
def plainT (P : Program) : Nat → TypeId → Bool
  | 0, _ => false
  | d + 1, t => match P.underlying t with
    | some .bool => true
    | some (.int _) => true
    | some (.slice e) => plainT P d e
    | some (.struct fs) => decide (plainFs P (plainT P d) 0 fs.toList = some (P.cellsOf t))
    | some (.array n e) => plainT P d e && P.cellsOf t == n * P.cellsOf e
    | _ => false
theorem mapM_get {α β : Type} {f : α → Option β} : ∀ {l : List α} {r : List β}, l.mapM f = some r → r.length = l.length ∧ ∀ i (h : i < l.length) (h' : i < r.length), f (l[i]'h) = some (r[i]'h')
  | [], r, h => by simp at h; subst h; simp
  | x :: l, r, h => by
    simp only [List.mapM_cons, Option.bind_eq_bind, Option.bind_eq_some_iff, Option.pure_def, Option.some.injEq] at h
    obtain ⟨y, hy, ys, hys, rfl⟩ := h
    obtain ⟨h1, h2⟩ := mapM_get hys
    refine ⟨by simp [h1], fun i hi hi' => ?_⟩
    cases i with
    | zero => exact hy
    | succ i => exact h2 i (by simpa using hi) (by simpa using hi')
variable {enc : TypeId × Value → H} {P : Program} {w : World} {held : Bool} {c : Cf}
theorem Reads.append {ad : Addr} {xs ys : List AV} (h : Reads c w ad xs) (k : Reads c w (ad.add xs.length) ys) : Reads c w ad (xs ++ ys) := by
  obtain ⟨vs, hl, hc⟩ := h
  obtain ⟨us, kl, kc⟩ := k
  refine ⟨vs ++ us, hl.append kl, fun j v hj => ?_⟩
  by_cases hlt : j < vs.length
  · rw [List.getElem?_append_left hlt] at hj
    exact hc j v hj
  · rw [List.getElem?_append_right (by omega)] at hj
    have := kc (j - vs.length) v hj
    rw [add_add] at this
    have e : xs.length + (j - vs.length) = j := by have := hl.len; omega
    rw [e] at this
    exact this
theorem Reads.nil' (ad : Addr) : Reads c w ad [] := ⟨[], CL.nil c w, by simp⟩
theorem cells_get {a : Addr} {n : Nat} {cs : List Value} (h : w.cells? 0 a n = some cs) : cs.length = n ∧ ∀ k v, cs[k]? = some v → w.cell? (a.add k) = some v := by
  unfold World.cells? at h
  split at h
  · obtain ⟨h1, h2⟩ := mapM_get h
    simp only [List.length_range] at h1
    refine ⟨h1, fun k v hk => ?_⟩
    obtain ⟨hlt, rfl⟩ := List.getElem?_eq_some_iff.1 hk
    have := h2 k (by simp; omega) hlt
    simpa using this
  · cases h
/-- A row of elements, one behind the other. -/
theorem row_reads {a : Addr} {sz : Nat} {ts : List (List AV)} : ∀ (n i : Nat), ts.length = n → (∀ j (h : j < ts.length), Reads c w (a.add ((i + j) * sz)) (ts[j]'h) ∧ (ts[j]'h).length = sz) → Reads c w (a.add (i * sz)) ts.flatten := by
  intro n
  induction n generalizing ts with
  | zero =>
    intro i hl _
    have : ts = [] := List.eq_nil_of_length_eq_zero hl
    subst this
    exact Reads.nil' _
  | succ n ih =>
    intro i hl h
    cases ts with
    | nil => simp at hl
    | cons t ts =>
      simp only [List.flatten_cons]
      obtain ⟨h1, h2⟩ := h 0 (Nat.succ_pos _)
      simp only [Nat.add_zero, List.getElem_cons_zero] at h1 h2
      refine h1.append ?_
      rw [add_add, h2]
      have := ih (ts := ts) (i + 1) (by simpa using hl) (fun j hj => by
        have := h (j + 1) (Nat.succ_lt_succ hj)
        rw [show i + 1 + j = i + (j + 1) by omega]
        exact this)
      rw [Nat.add_mul, Nat.one_mul] at this
      exact this
theorem cell_lt {a : Addr} {v : Value} (h : w.cell? a = some v) : a.block < w.heap.size := World.block_lt_of_cell? w a h
/-- Parts of a row of cells, one behind the other. -/
theorem parts_CL {sz : Nat} {cs : List Value} : ∀ (n i : Nat) (ts : List (List AV)), ts.length = n → (∀ j (h : j < ts.length), CL c w (ts[j]'h) ((cs.drop ((i + j) * sz)).take sz)) → cs.length = (i + n) * sz → CL c w ts.flatten (cs.drop (i * sz))
  | 0, i, ts, hl, _, hcs => by
    have : ts = [] := List.eq_nil_of_length_eq_zero hl
    subst this
    have : cs.drop (i * sz) = [] := List.drop_eq_nil_of_le (by rw [hcs]; simp)
    rw [this]
    exact CL.nil c w
  | n + 1, i, [], hl, _, _ => by simp at hl
  | n + 1, i, t :: ts, hl, h, hcs => by
    simp only [List.flatten_cons]
    have h0 := h 0 (Nat.succ_pos _)
    simp only [Nat.add_zero, List.getElem_cons_zero] at h0
    have e : cs.drop (i * sz) = (cs.drop (i * sz)).take sz ++ cs.drop ((i + 1) * sz) := by
      rw [Nat.add_mul, Nat.one_mul, ← List.drop_drop, List.take_append_drop]
    rw [e]
    refine h0.append (parts_CL n (i + 1) ts (by simpa using hl) (fun j hj => ?_) (by rw [hcs]; congr 1; omega))
    have := h (j + 1) (Nat.succ_lt_succ hj)
    rw [show i + 1 + j = i + (j + 1) by omega]
    exact this
/-- **What a datum is read off, its cells stand for.** -/
theorem trod_CL : ∀ (d fuel : Nat) (t : TypeId) (cs : List Value) (x : DataW H × List MemPlace), plainT P d t = true → DataW.trod enc P w 0 (fun _ => true) held fuel t cs = some x → CL (Cf.all w) w (toA d x.1) cs
  | 0, _, _, _, _, h, _ => by simp [plainT] at h
  | d + 1, fuel, t, cs, x, hp, h => by
    have ih := trod_CL d
    unfold plainT at hp
    cases e : P.underlying t with
    | none => rw [e] at hp; cases hp
    | some k =>
      rw [e] at hp
      cases k
      case bool =>
        obtain ⟨b, rfl, rfl⟩ := DataW.trod_bool e h
        exact CL.cons (.bool _) rfl (CL.nil _ _)
      case int q =>
        obtain ⟨n, rfl, rfl, _⟩ := DataW.trod_int e h
        exact CL.cons (.int _ _) rfl (CL.nil _ _)
      case slice el =>
        simp only at hp
        rcases DataW.trod_slice e h with ⟨rfl, rfl⟩ | ⟨a, len, cap, elems, rest, n, rfl, rfl, rfl, _, hlc, hmx, hel, hat, hsp, _⟩
        · exact CL.cons (VR.mk_nolst true 0 none 0 rfl rfl rfl) rfl (CL.nil _ _)
        · have hrest := (hsp rfl).1
          -- each element
          have hone : ∀ i (hi : i < elems.length), Reads (Cf.all w) w (a.add (i * P.cellsOf el)) (toA d (elems[i]'hi).1) ∧ (toA d (elems[i]'hi).1).length = P.cellsOf el ∧ (0 < P.cellsOf el → a.block < w.heap.size) := by
            intro i hi
            have := hat i (by omega)
            rw [List.getElem?_eq_getElem hi] at this
            obtain ⟨cells, hc, ht⟩ := Option.bind_eq_some_iff.1 this
            obtain ⟨hlen, hget⟩ := cells_get hc
            have hcl := ih n el cells _ hp ht
            refine ⟨⟨cells, hcl, hget⟩, by rw [← hcl.len, hlen], fun h0 => ?_⟩
            have hk : 0 < cells.length := by omega
            have := cell_lt (hget 0 _ (List.getElem?_eq_getElem hk))
            rw [add_block, add_block] at this
            exact this
          have hrow : Reads (Cf.all w) w a ((elems.map (·.1)).map (toA d)).flatten := by
            have := row_reads (c := Cf.all w) (w := w) (a := a) (sz := P.cellsOf el) (ts := (elems.map (·.1)).map (toA d)) elems.length 0 (by simp) (fun j hj => by
              have hj' : j < elems.length := by simpa using hj
              obtain ⟨h1, h2, _⟩ := hone j hj'
              simp only [Nat.zero_add, List.getElem_map]
              exact ⟨h1, h2⟩)
            rw [Nat.zero_mul, add_zero] at this
            exact this
          have hlen : len = elems.length := hel.symm
          subst hlen
          have hv : VR (Cf.all w) w (.lst (some false) (rest.map (·.1)).isEmpty elems.length ((elems.map (·.1)).map (toA d)).flatten) (.slice (some a) elems.length cap) := by
            refine VR.mk_lst (by simp) hlc hmx (fun hx => ?_) (fun _ => rfl) (fun q hq => ?_) (by simp)
            · simp only [List.isEmpty_iff, List.map_eq_nil_iff] at hx
              subst hx
              simp at hrest
              omega
            · cases hq
              refine ⟨fun h0 => ?_, hrow⟩
              show a.block < w.heap.size
              cases elems with
              | nil => simp at h0
              | cons y ys =>
                obtain ⟨_, h2, h3⟩ := hone 0 (Nat.succ_pos _)
                refine h3 ?_
                rcases Nat.eq_zero_or_pos (P.cellsOf el) with hz | hz
                · exfalso
                  have : ∀ z ∈ (((y :: ys).map (·.1)).map (toA d)), z = [] := by
                    intro z hz'
                    obtain ⟨j, hj, rfl⟩ := List.getElem_of_mem hz'
                    have hj' : j < (y :: ys).length := by simpa using hj
                    obtain ⟨_, g2, _⟩ := hone j hj'
                    simp only [List.getElem_map]
                    exact List.eq_nil_of_length_eq_zero (by rw [g2, hz])
                  rw [List.flatten_eq_nil_iff.2 this] at h0
                  simp at h0
                · exact hz
          have := CL.cons hv rfl (CL.nil (Cf.all w) w)
          simpa [toA] using this
      case struct fs =>
        simp only [decide_eq_true_eq] at hp
        obtain ⟨xs, n, rfl, rfl, hcs, hxs, hat⟩ := DataW.trod_struct e h
        have key : ∀ (fl : List Field) (ys : List (DataW H × List MemPlace)) (o : Nat), plainFs P (plainT P d) o fl = some (P.cellsOf t) → ys.length = fl.length → (∀ (i : Nat) (f : Field), fl[i]? = some f → DataW.trod enc P w 0 (fun _ => true) held n f.type ((cs.drop f.offset).take (P.cellsOf f.type)) = ys[i]?) →
            CL (Cf.all w) w ((ys.map (·.1)).map (toA d)).flatten (cs.drop o) := by
          intro fl
          induction fl with
          | nil =>
            intro ys o ho hl _
            have : ys = [] := List.eq_nil_of_length_eq_zero hl
            subst this
            simp [plainFs] at ho
            have : cs.drop o = [] := List.drop_eq_nil_of_le (by omega)
            rw [this]
            exact CL.nil _ _
          | cons f fl ihf =>
            intro ys o ho hl hat
            cases ys with
            | nil => simp at hl
            | cons y ys =>
              simp only [plainFs] at ho
              split at ho
              · rename_i hc
                simp only [Bool.and_eq_true, beq_iff_eq] at hc
                obtain ⟨rfl, hpt⟩ := hc
                have h0 := hat 0 f rfl
                simp only [List.getElem?_cons_zero] at h0
                have hcl := ih n f.type _ _ hpt h0
                simp only [List.map_cons, List.flatten_cons]
                have e2 : cs.drop f.offset = (cs.drop f.offset).take (P.cellsOf f.type) ++ cs.drop (f.offset + P.cellsOf f.type) := by
                  rw [← List.drop_drop, List.take_append_drop]
                rw [e2]
                exact hcl.append (ihf ys _ ho (by simpa using hl) (fun i g hg => hat (i + 1) g (by simpa using hg)))
              · cases ho
        have := key fs.toList xs 0 hp (by simpa using hxs) (fun i f hf => hat i f (by simpa using hf))
        simpa [toA] using this
      case array n el =>
        simp only [Bool.and_eq_true, beq_iff_eq] at hp
        obtain ⟨xs, m, rfl, rfl, hcs, hxs, hat⟩ := DataW.trod_array e h
        have := parts_CL (c := Cf.all w) (w := w) (sz := P.cellsOf el) (cs := cs) n 0 ((xs.map (·.1)).map (toA d)) (by simpa using hxs) (fun j hj => by
          have hj' : j < xs.length := by simpa using hj
          have h0 := hat j (by omega)
          rw [List.getElem?_eq_getElem hj'] at h0
          simp only [Nat.zero_add, List.getElem_map]
          exact ih m el _ _ hp.1 h0) (by rw [hcs, hp.2, Nat.zero_add])
        simpa [toA] using this
      all_goals cases hp
end
end Go.Proofs.AM

namespace Go.Proofs.AM
open Go

section
variable {H : Type} {enc : TypeId × Value → H} {P : Program} {w : World} {held : Bool} {r : Reach} {b0 : Nat}
/-- An argument that is a struct or an array. -/
theorem arg_agg {d : Nat} {t : TypeId} {v : Value} {x : DataW H} {ps : List MemPlace} (ht : (match P.underlying t with | some (.struct _) | some (.array _ _) => true | _ => false) = true) (hp : plainT P d t = true) (hval : Value.okWide P w r b0 t v) (h : DataW.Trod enc P w 0 (fun _ => true) held t v x ps) :
    VR (Cf.all w) w (.agg (toA d x)) v := by
  obtain ⟨fuel, h⟩ := h
  have hcl := trod_CL d fuel t v.cells.toList (x, ps) hp h
  unfold Value.okWide at hval
  split at hval
  · obtain ⟨cs, rfl, _⟩ := hval
    have := VR.agg (c := Cf.all w) (w := w) (toA d x) cs.toList hcl.len hcl.one hcl.rel
    simpa using this
  · obtain ⟨cs, rfl, _⟩ := hval
    have := VR.agg (c := Cf.all w) (w := w) (toA d x) cs.toList hcl.len hcl.one hcl.rel
    simpa using this
  · rename_i h1 h2
    split at ht
    · rename_i fs e; exact (h1 fs e).elim
    · rename_i n el e; exact (h2 n el e).elim
    · cases ht
/-- An argument of one cell. -/
theorem arg_one {d : Nat} {t : TypeId} {v : Value} {x : DataW H} {ps : List MemPlace} (hv : v.cells = #[v]) (hp : plainT P d t = true) (h : DataW.Trod enc P w 0 (fun _ => true) held t v x ps) : ∃ a, toA d x = [a] ∧ VR (Cf.all w) w a v := by
  obtain ⟨fuel, h⟩ := h
  have hcl := trod_CL d fuel t v.cells.toList (x, ps) hp h
  rw [hv] at hcl
  have hl := hcl.len
  simp only [List.length_singleton] at hl
  match he : toA d x, hl with
  | [a], _ =>
    refine ⟨a, rfl, ?_⟩
    rw [he] at hcl
    simpa using hcl.rel 0 (Nat.succ_pos _)
end
end Go.Proofs.AM

namespace Go.Proofs.AM
open Go

def eqLs (f : AV → AV → Bool) : List AV → List AV → Bool
  | [], [] => true
  | a :: as, b :: bs => f a b && eqLs f as bs
  | _, _ => false
/-- Are two values the same? -/
def eqA : Nat → AV → AV → Bool
  | 0, _, _ => false
  | d + 1, a, b => match a, b with
    | .bool x, .bool y => x == y
    | .int k x, .int j y => k == j && x == y
    | .nilf, .nilf => true
    | .nilm, .nilm => true
    | .nilp, .nilp => true
    | .gref g o, .gref g' o' => g == g' && o == o'
    | .lst nl ex n cs, .lst nl' ex' n' cs' => nl == nl' && ex == ex' && n == n' && eqLs (eqA d) cs cs'
    | .pl cs, .pl cs' => eqLs (eqA d) cs cs'
    | .fn f fs cs, .fn f' fs' cs' => f == f' && eqLs (eqA d) fs fs' && eqLs (eqA d) cs cs'
    | .agg cs, .agg cs' => eqLs (eqA d) cs cs'
    | .tup cs, .tup cs' => eqLs (eqA d) cs cs'
    | _, _ => false
theorem eqLs_sound {f : AV → AV → Bool} (hf : ∀ a b, f a b = true → a = b) : ∀ {as bs : List AV}, eqLs f as bs = true → as = bs
  | [], [], _ => rfl
  | [], _ :: _, h => by simp [eqLs] at h
  | _ :: _, [], h => by simp [eqLs] at h
  | a :: as, b :: bs, h => by
    simp only [eqLs, Bool.and_eq_true] at h
    rw [hf a b h.1, eqLs_sound hf h.2]
theorem eqA_sound : ∀ (d : Nat) (a b : AV), eqA d a b = true → a = b
  | 0, _, _, h => by simp [eqA] at h
  | d + 1, a, b, h => by
    have ih := fun {as bs : List AV} => eqLs_sound (as := as) (bs := bs) (eqA_sound d)
    unfold eqA at h
    split at h
    · simp at h; rw [h]
    · simp at h; rw [h.1, h.2]
    · rfl
    · rfl
    · rfl
    · simp at h; rw [h.1, h.2]
    · simp only [Bool.and_eq_true, beq_iff_eq] at h
      rw [h.1.1.1, h.1.1.2, h.1.2, ih h.2]
    · rw [ih h]
    · simp only [Bool.and_eq_true, beq_iff_eq] at h
      rw [h.1.1, ih h.1.2, ih h.2]
    · rw [ih h]
    · rw [ih h]
    · cases h
structure Ent where
  f : Nat
  args : List AV
  r : AV
def tabL : List Ent → Nat → List AV → Option AV
  | [], _, _ => none
  | e :: es, f, args => if e.f == f && eqLs (eqA 8) e.args args then some e.r else tabL es f args
def tabOf (es : List Ent) : Cal → List AV → Option AV
  | .fn f [] [], args => tabL es f args
  | _, _ => none
section
variable {P : Program} {E : Env}
theorem tabL_ok {es : List Ent} (h : ∀ e ∈ es, TabOk P E e.f [] [] e.args e.r) : ∀ {f : Nat} {args : List AV} {r : AV}, tabL es f args = some r → TabOk P E f [] [] args r := by
  induction es with
  | nil => intro f args r h; simp [tabL] at h
  | cons e es ih =>
    intro f args r hr
    simp only [tabL] at hr
    split at hr
    · rename_i hc
      simp only [Bool.and_eq_true, beq_iff_eq] at hc
      simp only [Option.some.injEq] at hr
      have := h e (by simp)
      rw [hc.1, eqLs_sound (eqA_sound 8) hc.2, hr] at this
      exact this
    · exact ih (fun e he => h e (by simp [he])) hr
theorem tabOf_ok {es : List Ent} (h : ∀ e ∈ es, TabOk P E e.f [] [] e.args e.r) (cl : Cal) (args : List AV) (r : AV) (hr : tabOf es cl args = some r) : ∃ f fs cs, cl = .fn f fs cs ∧ TabOk P E f fs cs args r := by
  unfold tabOf at hr
  split at hr
  · rename_i f
    exact ⟨f, [], [], rfl, tabL_ok h hr⟩
  · cases hr
end
/-- A program's code, some globals, a table. -/
structure Base (P : Program) (fns : Nat → Option AF) (glob : Nat → Option (List AV)) : Prop where
  mix : P.follows .mixedOrders = true
  fn : ∀ f af, fns f = some af → ∃ fn, P.funcs[f]? = some fn ∧ okF P af fn = true
  glob : ∀ g cs, glob g = some cs → cs.all (clo 4) = true
def envT (fns : Nat → Option AF) (glob : Nat → Option (List AV)) (es : List Ent) : Env := { fns := fns, glob := glob, tab := tabOf es }
def TabsOk (P : Program) (fns : Nat → Option AF) (glob : Nat → Option (List AV)) (es : List Ent) : Prop := ∀ e ∈ es, TabOk P (envT fns glob []) e.f [] [] e.args e.r
section
variable {P : Program} {fns : Nat → Option AF} {glob : Nat → Option (List AV)} {es : List Ent}
theorem envT_ok (hb : Base P fns glob) (ht : TabsOk P fns glob es) : EnvOk P (envT fns glob es) :=
  { mix := hb.mix, fn := hb.fn, tab := tabOf_ok (fun e he => TabOk.congr (E := envT fns glob []) (E' := envT fns glob es) rfl (ht e he)) }
/-- **One closed call more.** -/
theorem tab_more (hb : Base P fns glob) (ht : TabsOk P fns glob es) {m f : Nat} {args : List AV} {r : AV} {l : Nat} (h : evF (envT fns glob es) m false (.fn f [] []) args empty = some (r, ⟨[], l⟩)) (h1 : args.all (clo 4) = true) (h2 : clo 4 r = true) :
    TabsOk P fns glob (⟨f, args, r⟩ :: es) := by
  intro e he
  rcases List.mem_cons.1 he with rfl | he
  · exact TabOk.congr (E := envT fns glob es) (E' := envT fns glob []) rfl (frame (d := 4) (sim_all (envT_ok hb ht) m) hb.glob h rfl rfl h1 h2)
  · exact ht e he
/-- A closed call, with the table so far. -/
theorem tab_one (hb : Base P fns glob) (ht : TabsOk P fns glob es) {m f : Nat} {args : List AV} {r : AV} {l : Nat} (h : evF (envT fns glob es) m false (.fn f [] []) args empty = some (r, ⟨[], l⟩)) (h1 : args.all (clo 4) = true) (h2 : clo 4 r = true) :
    TabOk P (envT fns glob []) f [] [] args r :=
  TabOk.congr (E := envT fns glob es) (E' := envT fns glob []) rfl (frame (d := 4) (sim_all (envT_ok hb ht) m) hb.glob h rfl rfl h1 h2)
theorem TabsOk.cons {f : Nat} {args : List AV} {r : AV} (h : TabOk P (envT fns glob []) f [] [] args r) (ht : TabsOk P fns glob es) : TabsOk P fns glob (⟨f, args, r⟩ :: es) := by
  intro e he
  rcases List.mem_cons.1 he with rfl | he
  · exact h
  · exact ht e he
theorem tab_nil : TabsOk P fns glob [] := fun e he => by cases he
end
end Go.Proofs.AM
