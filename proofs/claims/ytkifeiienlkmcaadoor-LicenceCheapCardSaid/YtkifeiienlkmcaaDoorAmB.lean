/-
  How the abstract machine's values, objects and frames stand for the model's.
-/
import Derived.Test.YtkifeiienlkmcaaDoorAmA
import Derived.RangeFuncLeaves
import Derived.RangeFuncCalls
import Derived.RangeFuncRecord
import Derived.Laws.StructEq
import Derived.Laws.AppendOwn
import Derived.Laws.MakeOwn
import Derived.Laws.Slices
import Derived.OrdersIn
import Derived.Below
set_option linter.all false
namespace Go.Proofs.AM
open Go

/-- Where the objects lie (by version: the block, and the capacity of what append made), and which blocks nobody writes any more. -/
structure Cf where
  bt : Nat → Nat → Option (Nat × Nat)
  fz : Nat → Prop
def Cf.le (c c' : Cf) : Prop := (∀ i v x, c.bt i v = some x → c'.bt i v = some x) ∧ (∀ b, c.fz b → c'.fz b)
theorem Cf.le_refl (c : Cf) : c.le c := ⟨fun _ _ _ h => h, fun _ h => h⟩
theorem Cf.le_trans {a b c : Cf} (h : a.le b) (k : b.le c) : a.le c := ⟨fun i v x e => k.1 i v x (h.1 i v x e), fun x e => k.2 x (h.2 x e)⟩

inductive VR (c : Cf) (w : World) : AV → Value → Prop
  | bool (b : Bool) : VR c w (.bool b) (.bool b)
  | int (k : IntKind) (n : Int) : VR c w (.int k n) (.int k n)
  | nilf : VR c w .nilf .nilFunc
  | nilm : VR c w .nilm (.map none)
  | nilp : VR c w .nilp (.pointer none)
  | lst (nl : Option Bool) (ex : Bool) (n : Nat) (cs : List AV) (a : Option Addr) (cap : Nat) (cv : Nat → Value) (hnl : ∀ x, nl = some x → a.isNone = x) (hcap : n ≤ cap) (hmx : cap ≤ maxLen) (hex : ex = true → cap = n) (hp : 0 < n → a.isSome = true)
      (hc : ∀ k, k < cs.length → ∃ ad, a = some ad ∧ c.fz ad.block ∧ w.cell? (ad.add k) = some (cv k) ∧ (cv k).oneCell' = true) (hr : ∀ k (h : k < cs.length), VR c w (cs[k]'h) (cv k)) :
      VR c w (.lst nl ex n cs) (.slice a n cap)
  | sl (es id ver off n : Nat) (cap : Option Nat) (b k : Nat) (hb : c.bt id ver = some (b, k)) (hcap : n ≤ cap.getD k) (hmx : cap.getD k ≤ maxLen) (hoff : cap = none → off = 0) :
      VR c w (.sl es id ver off n cap) (.slice (some ⟨b, off, none⟩) n (cap.getD k))
  | ref (id ver off b k : Nat) (hb : c.bt id ver = some (b, k)) : VR c w (.ref id ver off) (.pointer (some ⟨b, off, none⟩))
  | gref (g off : Nat) : VR c w (.gref g off) (.pointer (some ⟨g, off, none⟩))
  | pl (cs : List AV) (ad : Addr) (cv : Nat → Value) (hc : ∀ k, k < cs.length → c.fz ad.block ∧ w.cell? (ad.add k) = some (cv k) ∧ (cv k).oneCell' = true) (hr : ∀ k (h : k < cs.length), VR c w (cs[k]'h) (cv k)) :
      VR c w (.pl cs) (.pointer (some ad))
  | map (id b k : Nat) (hb : c.bt id 0 = some (b, k)) : VR c w (.map id) (.map (some b))
  | fn (f : Nat) (fs cs : List AV) (fs' cs' : List Value) (hf : fs'.length = fs.length) (hc : cs'.length = cs.length) (hfr : ∀ k (h : k < fs.length), VR c w (fs[k]'h) (fs'.getD k undef))
      (hcr : ∀ k (h : k < cs.length), VR c w (cs[k]'h) (cs'.getD k undef)) : VR c w (.fn f fs cs) (.func (.func f) fs'.toArray cs'.toArray)
  | yld (l b k : Nat) (hb : c.bt l 0 = some (b, k)) : VR c w (.yld l) (.func (.yield b) #[] #[])
  | agg (cs : List AV) (cs' : List Value) (hl : cs'.length = cs.length) (h1 : ∀ v ∈ cs', v.oneCell' = true) (hr : ∀ k (h : k < cs.length), VR c w (cs[k]'h) (cs'.getD k undef)) : VR c w (.agg cs) (.agg cs'.toArray)
  | tup (cs : List AV) (cs' : List Value) (hl : cs'.length = cs.length) (hr : ∀ k (h : k < cs.length), VR c w (cs[k]'h) (cs'.getD k undef)) : VR c w (.tup cs) (.tuple cs'.toArray)

theorem VR.mono {c c' : Cf} {w w' : World} (hle : c.le c') (hw : ∀ b, c.fz b → w'.heap[b]? = w.heap[b]?) {a : AV} {v : Value} (h : VR c w a v) : VR c' w' a v := by
  induction h with
  | bool b => exact .bool b
  | int k n => exact .int k n
  | nilf => exact .nilf
  | nilm => exact .nilm
  | nilp => exact .nilp
  | lst nl ex n cs a cap cv hnl hcap hmx hex hp hc _ ih =>
    refine .lst nl ex n cs a cap cv hnl hcap hmx hex hp (fun k hk => ?_) ih
    obtain ⟨ad, e, hf, hcell, h1⟩ := hc k hk
    have hb : (ad.add k).block = ad.block := by unfold Addr.add; split <;> rfl
    exact ⟨ad, e, hle.2 _ hf, by rw [World.cell?_of_block (w := w) (by rw [hb]; exact hw _ hf)]; exact hcell, h1⟩
  | sl es id ver off n cap b k hb hcap hmx hoff => exact .sl es id ver off n cap b k (hle.1 _ _ _ hb) hcap hmx hoff
  | ref id ver off b k hb => exact .ref id ver off b k (hle.1 _ _ _ hb)
  | gref g off => exact .gref g off
  | pl cs ad cv hc _ ih =>
    refine .pl cs ad cv (fun k hk => ?_) ih
    obtain ⟨hf, hcell, h1⟩ := hc k hk
    have hb : (ad.add k).block = ad.block := by unfold Addr.add; split <;> rfl
    exact ⟨hle.2 _ hf, by rw [World.cell?_of_block (w := w) (by rw [hb]; exact hw _ hf)]; exact hcell, h1⟩
  | map id b k hb => exact .map id b k (hle.1 _ _ _ hb)
  | fn f fs cs fs' cs' hf hc _ _ ih1 ih2 => exact .fn f fs cs fs' cs' hf hc ih1 ih2
  | yld l b k hb => exact .yld l b k (hle.1 _ _ _ hb)
  | agg cs cs' hl h1 _ ih => exact .agg cs cs' hl h1 ih
  | tup cs cs' hl _ ih => exact .tup cs cs' hl ih

/-- A value of one cell. -/
def AV.one : AV → Bool
  | .agg _ | .tup _ => false
  | _ => true
theorem VR.one {c : Cf} {w : World} {a : AV} {v : Value} (h : VR c w a v) : v.oneCell' = a.one := by
  cases h <;> rfl

/-- Cells that stand for some values. -/
structure CL (c : Cf) (w : World) (cs : List AV) (vs : List Value) : Prop where
  len : vs.length = cs.length
  one : ∀ v ∈ vs, v.oneCell' = true
  rel : ∀ k (h : k < cs.length), VR c w (cs[k]'h) (vs.getD k undef)
theorem CL.mono {c c' : Cf} {w w' : World} (hle : c.le c') (hw : ∀ b, c.fz b → w'.heap[b]? = w.heap[b]?) {cs : List AV} {vs : List Value} (h : CL c w cs vs) : CL c' w' cs vs :=
  ⟨h.len, h.one, fun k hk => (h.rel k hk).mono hle hw⟩
theorem CL.nil (c : Cf) (w : World) : CL c w [] [] := ⟨rfl, by simp, by simp⟩
theorem CL.cons {c : Cf} {w : World} {a : AV} {v : Value} {cs : List AV} {vs : List Value} (h : VR c w a v) (h1 : v.oneCell' = true) (hs : CL c w cs vs) : CL c w (a :: cs) (v :: vs) := by
  refine ⟨by simp [hs.len], ?_, ?_⟩
  · intro x hx
    rcases List.mem_cons.1 hx with rfl | hx
    · exact h1
    · exact hs.one x hx
  · intro k hk
    cases k with
    | zero => simpa using h
    | succ k => simpa using hs.rel k (by simpa using hk)
theorem CL.uncons {c : Cf} {w : World} {a : AV} {cs : List AV} {vs : List Value} (h : CL c w (a :: cs) vs) : ∃ v vs', vs = v :: vs' ∧ VR c w a v ∧ v.oneCell' = true ∧ CL c w cs vs' := by
  match vs, h with
  | [], h => have := h.len; simp at this
  | v :: vs', h =>
    refine ⟨v, vs', rfl, h.rel 0 (Nat.succ_pos _), h.one v (by simp), ⟨by have := h.len; simpa using this, fun x hx => h.one x (by simp [hx]), fun k hk => ?_⟩⟩
    exact h.rel (k + 1) (Nat.succ_lt_succ hk)
theorem CL.take {c : Cf} {w : World} {cs : List AV} {vs : List Value} (h : CL c w cs vs) (n : Nat) : CL c w (cs.take n) (vs.take n) := by
  refine ⟨by simp [h.len], fun x hx => h.one x (List.mem_of_mem_take hx), fun k hk => ?_⟩
  have hk' : k < n ∧ k < cs.length := by simp at hk; omega
  have := h.rel k hk'.2
  rw [List.getElem_take]
  rw [List.getD_eq_getElem?_getD, List.getElem?_take, if_pos hk'.1, ← List.getD_eq_getElem?_getD]
  exact this
theorem CL.drop {c : Cf} {w : World} {cs : List AV} {vs : List Value} (h : CL c w cs vs) (n : Nat) : CL c w (cs.drop n) (vs.drop n) := by
  refine ⟨by simp [h.len], fun x hx => h.one x (List.mem_of_mem_drop hx), fun k hk => ?_⟩
  have hk' : n + k < cs.length := by simp at hk; omega
  have := h.rel (n + k) hk'
  rw [List.getElem_drop, List.getD_eq_getElem?_getD, List.getElem?_drop, ← List.getD_eq_getElem?_getD]
  exact this
theorem CL.append {c : Cf} {w : World} {cs ds : List AV} {vs us : List Value} (h : CL c w cs vs) (k : CL c w ds us) : CL c w (cs ++ ds) (vs ++ us) := by
  refine ⟨by simp [h.len, k.len], fun x hx => (List.mem_append.1 hx).elim (h.one x) (k.one x), fun j hj => ?_⟩
  by_cases hlt : j < cs.length
  · rw [List.getElem_append_left hlt, List.getD_eq_getElem?_getD, List.getElem?_append_left (by rw [h.len]; exact hlt), ← List.getD_eq_getElem?_getD]
    exact h.rel j hlt
  · rw [List.getElem_append_right (by omega), List.getD_eq_getElem?_getD, List.getElem?_append_right (by rw [h.len]; omega), ← List.getD_eq_getElem?_getD, h.len]
    exact k.rel (j - cs.length) (by simp at hj; omega)

/-- The cells at the head of a block. -/
def BlkR (c : Cf) (w : World) (b : Nat) (cs : List AV) : Prop :=
  ∃ (cur : Array Value) (e : TypeId), w.heap[b]? = some (.cells cur e (0, 0)) ∧ ∃ vs rest, cur = (vs ++ rest).toArray ∧ CL c w cs vs
/-- What append made: the block's elements, its whole size. -/
def GrowR (w : World) (b k : Nat) : Option (Nat × Nat) → Prop
  | none => True
  | some (e, es) => 0 < es ∧ ∃ cur, w.heap[b]? = some (.cells cur e (0, 0)) ∧ cur.size = k * es ∧ k ≤ maxLen
/-- An entry of a map. -/
def EntR (c : Cf) (w : World) (e : List AV × AV) (m : MapEntry) : Prop := VR c w e.2 m.val ∧ ∃ vs, m.key = .agg vs.toArray ∧ CL c w e.1 vs
def MapR (c : Cf) (w : World) (b : Nat) (es : List (List AV × AV)) : Prop :=
  ∃ (ms : List MapEntry) (clock : Nat), w.heap[b]? = some (.map ms.toArray clock) ∧ ms.length = es.length ∧
    ∀ k (h : k < es.length), ∃ m, ms[k]? = some m ∧ EntR c w (es[k]'h) m

/-- Is an object, in this version, one that may be written? -/
def own (st : St) (id ver : Nat) : Prop :=
  match st.heap[id]? with
  | some (.cells v _ _) => v = ver
  | some (.map _) => ver = 0
  | some (.loop ..) => ver = 0
  | _ => False
def Owned (c : Cf) (st : St) (b : Nat) : Prop := ∃ id ver k, own st id ver ∧ c.bt id ver = some (b, k)

/-- Slots of a frame that stand for values. -/
inductive TR (c : Cf) (w : World) (lam : Nat → Nat) : TV → Value → Prop
  | v {a : AV} {x : Value} (h : VR c w a x) : TR c w lam (.v a) x
  | loc (s off : Nat) : TR c w lam (.loc s off) (.pointer (some ⟨lam s, off, none⟩))
  | lsl (s es n k : Nat) (hn : n ≤ k) (hk : k ≤ maxLen) : TR c w lam (.lsl s es n k) (.slice (some ⟨lam s, 0, none⟩) n k)
  | und : TR c w lam .und undef
  | no (x : Value) : TR c w lam .no x
def TS (c : Cf) (w : World) (lam : Nat → Nat) (ts : List (Nat × TV)) (tmps : Array Value) : Prop :=
  ∀ t v, lookT t ts = some v → ∃ x, tmps[t]? = some x ∧ TR c w lam v x
theorem TR.mono {c c' : Cf} {w w' : World} {lam : Nat → Nat} (hle : c.le c') (hw : ∀ b, c.fz b → w'.heap[b]? = w.heap[b]?) {t : TV} {v : Value} (h : TR c w lam t v) : TR c' w' lam t v := by
  cases h with
  | v h => exact .v (h.mono hle hw)
  | loc s off => exact .loc s off
  | lsl s es n k hn hk => exact .lsl s es n k hn hk
  | und => exact .und
  | no => exact .no _
theorem TS.mono {c c' : Cf} {w w' : World} {lam : Nat → Nat} (hle : c.le c') (hw : ∀ b, c.fz b → w'.heap[b]? = w.heap[b]?) {ts : List (Nat × TV)} {tmps : Array Value} (h : TS c w lam ts tmps) : TS c' w' lam ts tmps :=
  fun t v e => let ⟨x, hx, hr⟩ := h t v e; ⟨x, hx, hr.mono hle hw⟩

end Go.Proofs.AM

namespace Go.Proofs.AM
open Go

def okV : AV → Value → Bool
  | .bool b, .bool b' => b == b'
  | .int k n, .int k' n' => k == k' && n == n'
  | .lst (some true) true 0 [], .slice none 0 0 => true
  | .nilf, .nilFunc => true
  | .nilm, .map none => true
  | .nilp, .pointer none => true
  | _, _ => false
def okVs : List AV → List Value → Bool
  | [], [] => true
  | a :: as, v :: vs => okV a v && okVs as vs
  | _, _ => false
def okX : AX → Operand → Bool
  | .t n, .tmp m => n == m
  | .c v, .const x => okV v x
  | .g n, .global m => n == m
  | .f n, .func m => n == m
  | _, _ => false
def okXs : List AX → List Operand → Bool
  | [], [] => true
  | a :: as, v :: vs => okX a v && okXs as vs
  | _, _ => false
def okXo : Option AX → Option Operand → Bool
  | none, none => true
  | some a, some v => okX a v
  | _, _ => false
def sizeIs (P : Program) (t : TypeId) (n : Nat) : Bool := match P.info? t with | some i => i.size == n | none => false
def zeroIs (P : Program) (t : TypeId) (zero : List AV) : Bool :=
  match P.info? t with
  | some i => match i.zero with
    | some z => okVs zero z.cells.toList
    | none => false
  | none => false
/-- A zero value as a value. -/
def zeroVIs (P : Program) (t : TypeId) (zero : AV) : Bool :=
  match P.info? t with
  | some i => match i.zero with
    | some z => match zero, z with
      | .agg cs, .agg vs => okVs cs vs.toList
      | a, v => okV a v
    | none => false
  | none => false
def aggIs (P : Program) (t : TypeId) (ag : Bool) (n : Nat) : Bool :=
  sizeIs P t n && match P.underlying t with
    | some (.struct _) | some (.array ..) => ag
    | some _ => !ag && n == 1
    | none => false
def elemIs (P : Program) (t : TypeId) (es : Nat) : Bool :=
  match P.underlying t with
  | some (.slice e) => sizeIs P e es
  | _ => false
def okParts (P : Program) (place : Nat → Option (Nat × Nat)) : List (Nat × Nat × AX) → List (Nat × Operand) → Bool
  | [], [] => true
  | (off, n, x) :: ps, (i, y) :: qs => (match place i with | some (o, m) => o == off && m == n | none => false) && okX x y && okParts P place ps qs
  | _, _ => false
def fieldPlace1 (P : Program) (fs : Array Field) (i : Nat) : Option (Nat × Nat) :=
  match fs[i]? with
  | some f => match P.info? f.type with
    | some j => some (f.offset, j.size)
    | none => none
  | none => none
def flatFs (P : Program) (ft : TypeId → Option (List Bool)) : Nat → List Field → Option (List Bool)
  | _, [] => some []
  | o, f :: fs => if f.name != "_" && f.offset == o then
      match ft f.type with
      | some l => match flatFs P ft (o + l.length) fs with
        | some r => some (l ++ r)
        | none => none
      | none => none
    else none
/-- Types whose values are compared cell by cell: which cells are bools. -/
def flatT (P : Program) : Nat → TypeId → Option (List Bool)
  | 0, _ => none
  | d + 1, t => match P.underlying t with
    | some .bool => if sizeIs P t 1 then some [true] else none
    | some (.int _) => if sizeIs P t 1 then some [false] else none
    | some (.struct fs) => if P.stoodInHeld t then none else match flatFs P (flatT P d) 0 fs.toList with
      | some l => if sizeIs P t l.length then some l else none
      | none => none
    | some (.array n e) => match flatT P d e with
      | some l => if sizeIs P t (n * l.length) then some ((List.replicate n l).flatten) else none
      | none => none
    | _ => none
def keyT (P : Program) (t : TypeId) (sg : List Bool) : Bool := decide (flatT P 6 t = some sg) && (match P.underlying t with | some (.struct _) | some (.array ..) => true | _ => false)
def okOp (P : Program) (a : AOp) (o : Op) : Bool :=
  match a with
  | .mov x => match o with | .move y => okX x y | .assign y => okX x y | _ => false
  | .pick x y z => match o with | .pick x' y' z' => okX x x' && okX y y' && okX z z' | _ => false
  | .new _ zero => match o with | .alloc t => zeroIs P t zero | _ => false
  | .box _ x => match o with | .box _ y => okX x y | _ => false
  | .build zero ps => match o with
    | .build t qs => zeroIs P t zero && (match P.underlying t with
      | some (.struct fs) => (fs.toList.all fun f => (P.info? f.type).isSome) && okParts P (fieldPlace1 P fs) ps qs.toList
      | some (.array _ e) => (match P.info? e with | some i => okParts P (fun j => some (j * i.size, i.size)) ps qs.toList | none => false)
      | _ => false)
    | _ => false
  | .bslice _ es len zero ps => match o with
    | .buildSlice t n qs => len == n && (match P.underlying t with
      | some (.slice e) => (match P.info? e with
        | some i => i.size == es && len * es ≤ 16777216 && len ≤ 16777216 && (match i.zero with
          | some z => (len * es == 0 && zero.isEmpty || z.cells.size == es && okVs zero ((Array.range (len * es)).map (z.cells[· % z.cells.size]!)).toList) && okParts P (fun j => some (j * es, es)) ps qs.toList
          | none => false)
        | none => false)
      | _ => false)
    | _ => false
  | .load ag n x => match o with | .load t y => okX x y && aggIs P t ag n | _ => false
  | .store n x y => match o with | .store t x' y' => okX x x' && okX y y' && sizeIs P t n | _ => false
  | .faddr off x => match o with
    | .fieldAddr t y i => okX x y && (match P.underlying t with
      | some (.struct fs) => (match fs[i]? with
        | some f => f.offset == off && (match P.info? f.type with | some j => j.size != 0 | none => false)
        | none => false)
      | _ => false)
    | _ => false
  | .iaddr es x i => match o with | .indexAddr t y j => okX x y && okX i j && elemIs P t es | _ => false
  | .aaddr es len x i => match o with
    | .indexAddr t y j => okX x y && okX i j && (match P.underlying t with
      | some (.array n e) => n == len && sizeIs P e es
      | _ => false)
    | _ => false
  | .field ag off n x => match o with
    | .field t y i => okX x y && (match P.underlying t with
      | some (.struct fs) => (match fs[i]? with
        | some f => f.offset == off && aggIs P f.type ag n
        | none => false)
      | _ => false)
    | _ => false
  | .index ag es len x i => match o with
    | .index t y j => okX x y && okX i j && (match P.underlying t with
      | some (.array n e) => n == len && aggIs P e ag es
      | _ => false)
    | _ => false
  | .un op x => match o with | .unOp op' _ y => decide (op = op') && okX x y | _ => false
  | .bin op x y => match o with | .binOp op' _ x' y' _ => decide (op = op') && okX x x' && okX y y' | _ => false
  | .eqb neq x y => match o with
    | .binOp op t x' y' _ => decide (op = if neq then .neq else .eql) && okX x x' && okX y y' && (match P.underlying t with | some .bool => true | _ => false)
    | _ => false
  | .eqs neq sg x y => match o with
    | .binOp op t x' y' _ => decide (op = if neq then .neq else .eql) && okX x x' && okX y y' && keyT P t sg && !P.eqGuardType P.depth t
    | _ => false
  | .len x => match o with
    | .call c => (match c.callee with | .builtin .len => true | _ => false) && okXs [x] c.args.toList && (match c.argTypes[0]? with
      | some t => (match P.underlying t with | some (.slice _) => true | _ => false)
      | none => false)
    | _ => false
  | .mm mx x xs => match o with
    | .call c => (match c.callee with | .builtin .max => mx | .builtin .min => !mx | _ => false) && okXs (x :: xs) c.args.toList
    | _ => false
  | .app es e bytes x y => match o with
    | .call c => (match c.callee with | .builtin .append => true | _ => false) && okXs [x, y] c.args.toList && (match c.argTypes.toList with
      | [t, t'] => t == t' && (match P.underlying t with | some (.slice e') => e == e' | _ => false) && (match P.info? e with
        | some i => i.size == es && i.bytes == bytes && 0 < es && (match i.zero with | some z => z.cells.size == es | none => false)
        | none => false)
      | _ => false)
    | _ => false
  | .mks _ es bytes zero l c => match o with
    | .makeSlice t l' c' => okX l l' && okX c c' && (match P.underlying t with
      | some (.slice e) => (match P.info? e with | some i => i.size == es && i.bytes == bytes && zeroIs P e zero && zero.length == es && 0 < es | none => false)
      | _ => false)
    | _ => false
  | .mkm => match o with | .makeMap _ none => true | _ => false
  | .look sg zero ok m k => match o with
    | .lookup t m' k' ok' => ok == ok' && okX m m' && okX k k' && (match P.underlying t with | some (.map kt e) => keyT P kt sg && zeroVIs P e zero | _ => false)
    | _ => false
  | .upd sg m k v => match o with
    | .mapUpdate t m' k' v' => okX m m' && okX k k' && okX v v' && (match P.underlying t with | some (.map kt _) => keyT P kt sg | _ => false)
    | _ => false
  | .slc es x lo hi mx => match o with
    | .slice t y l h m => okX x y && okXo lo l && okXo hi h && okXo mx m && elemIs P t es
    | _ => false
  | .mkf f fs cs => match o with
    | .makeFunc g gs ds => (match g with | .func f' => f == f' | _ => false) && okXs fs gs.toList && okXs cs ds.toList
    | _ => false
  | .ext i x => match o with | .extract y j => i == j && okX x y | _ => false
  | .call _ _ f args => match o with
    | .call c => (match c.callee with | .value g => okX f g | _ => false) && okXs args c.args.toList
    | _ => false
def okO (P : Program) (nt : Nat) (ops : Array Oper) (a : AO) (o : Oper) : Bool :=
  okOp P a.op o.op && decide (a.dst = o.dst) && (match o.dst with | some d => decide (d < nt) | none => true) &&
  (match a.guard, o.guard with
   | none, none => true
   | some (s, w), some (j, w') => w == w' && (match ops[j]? with | some q => decide (q.dst = some s) | none => false)
   | _, _ => false)
def okOs (P : Program) (nt : Nat) (ops : Array Oper) : List AO → List Oper → Bool
  | [], [] => true
  | a :: as, o :: os => okO P nt ops a o && okOs P nt ops as os
  | _, _ => false
/-- A new box needs a slot. -/
def okDst (a : AO) : Bool := match a.op with | .new .. | .box .. | .mks .. => a.dst.isSome | _ => true
def okAfter : Nat → List (List Nat) → List Oper → Bool
  | _, [], [] => true
  | i, l :: ls, o :: os => (l.all fun j => o.after.any fun e => e.on == j && Region.binds .any e) && (o.after.all fun e => !Region.binds .any e || decide (e.on < i)) && okAfter (i + 1) ls os
  | _, _, _ => false
def noRf : AC → Bool
  | .seq a b => noRf a && noRf b
  | .cond _ a b => noRf a && noRf b
  | .block _ a => noRf a
  | .loop _ _ a => noRf a
  | .scope a => noRf a
  | .rfun .. => false
  | _ => true
def okC (P : Program) (nt : Nat) : AC → Code → Bool
  | .skip, .skip => true
  | .skip, .label _ => true
  | .ret, .ret => true
  | .exit i, .exit j => i == j
  | .region ops af _ _ _, .region _ os dr => okOs P nt os ops os.toList && ops.all okDst && (match af with
      | none => !dr
      | some l => dr && okAfter 0 l os.toList && decide (l.length = ops.length))
  | .seq a b, .seq c d => okC P nt a c && okC P nt b d
  | .cond x a b, .cond y c d => okX x y && okC P nt a c && okC P nt b d
  | .block i a, .block j c => i == j && okC P nt a c
  | .loop _ _ a, .loop c => okC P nt a c
  | .scope a, .scope c => okC P nt a c
  | .rfun x ps a b, .rangeFunc y qs c d => okX x y && decide (ps = qs.toList) && okC P nt a c && okC P nt b d && ps.all (· < nt) && noRf a && noRf b
  | _, _ => false
def okR (P : Program) : RX → ResultVar → Bool
  | .tmp t, .tmp u => t == u
  | .cell t ag n, .cell u ty => t == u && aggIs P ty ag n
  | _, _ => false
def okRs (P : Program) : List RX → List ResultVar → Bool
  | [], [] => true
  | a :: as, r :: rs => okR P a r && okRs P as rs
  | _, _ => false
def okF (P : Program) (af : AF) (fn : Func) : Bool :=
  (match fn.body with | some c => okC P fn.ntmps af.body c | none => false) && okRs P af.res fn.results.toList && decide (af.np ≤ fn.ntmps) && fn.name != "runtime.NumGoroutine"
end Go.Proofs.AM
