/-
  The abstract machine: values, resolved code, and what each operation does. Nothing of the program stands here.
-/
import GoSem.Dispatch
set_option linter.all false
namespace Go.Proofs.AM
open Go

/-- Values. 'lst': a slice that nobody writes any more, told by its cells ('nl': is it nil, where that is known; 'ex': its capacity is its length). 'sl': a slice of the heap: the elements' size, the object, its version, the first cell, the length, the capacity where it is known. 'pl': a pointer into a list. -/
inductive AV where
  | bool (b : Bool)
  | int (k : IntKind) (n : Int)
  | nilf
  | nilm
  | nilp
  | lst (nl : Option Bool) (ex : Bool) (n : Nat) (cs : List AV)
  | sl (es id ver off n : Nat) (cap : Option Nat)
  | ref (id ver off : Nat)
  | gref (g off : Nat)
  | pl (cs : List AV)
  | map (id : Nat)
  | fn (f : Nat) (fs cs : List AV)
  | yld (l : Nat)
  | agg (cs : List AV)
  | tup (vs : List AV)
  deriving Inhabited

/-- What a slot of the frame holds: a value, a pointer into a box of the frame's own, a slice of such a box, nothing yet, or one knows not what. -/
inductive TV where
  | v (a : AV)
  | loc (s off : Nat)
  | lsl (s es n cap : Nat)
  | und
  | no
  deriving Inhabited

/-- Operands. -/
inductive AX where
  | t (n : Nat)
  | c (v : AV)
  | g (n : Nat)
  | f (n : Nat)
  deriving Inhabited

/-- Operations, their types resolved to sizes. -/
inductive AOp where
  | mov (x : AX)
  | pick (c a b : AX)
  | new (lc : Bool) (zero : List AV)
  | box (lc : Bool) (x : AX)
  | build (zero : List AV) (parts : List (Nat × Nat × AX))
  | bslice (pure : Bool) (es len : Nat) (zero : List AV) (parts : List (Nat × Nat × AX))
  | load (ag : Bool) (n : Nat) (x : AX)
  | store (n : Nat) (x y : AX)
  | faddr (off : Nat) (x : AX)
  | iaddr (es : Nat) (x i : AX)
  | aaddr (es len : Nat) (x i : AX)
  | field (ag : Bool) (off n : Nat) (x : AX)
  | index (ag : Bool) (es len : Nat) (x i : AX)
  | un (op : UnOp) (x : AX)
  | bin (op : BinOp) (x y : AX)
  | eqb (neq : Bool) (x y : AX)
  | eqs (neq : Bool) (sg : List Bool) (x y : AX)
  | len (x : AX)
  | mm (mx : Bool) (x : AX) (xs : List AX)
  | app (es e bytes : Nat) (x y : AX)
  | mks (lc : Bool) (es bytes : Nat) (zero : List AV) (l c : AX)
  | mkm
  | look (sg : List Bool) (zero : AV) (ok : Bool) (m k : AX)
  | upd (sg : List Bool) (m k v : AX)
  | slc (es : Nat) (x : AX) (lo hi mx : Option AX)
  | mkf (f : Nat) (fs cs : List AX)
  | ext (i : Nat) (x : AX)
  | call (raw fz : Bool) (f : AX) (args : List AX)
  deriving Inhabited

structure AO where
  dst : Option Nat
  op : AOp
  guard : Option (Nat × Bool) := none
  deriving Inhabited

inductive AC where
  | skip
  | ret
  | exit (id : Nat)
  | region (ops : List AO) (after : Option (List (List Nat))) (keep keepB : List Nat) (pubs : List Nat := [])
  | seq (a b : AC)
  | cond (c : AX) (a b : AC)
  | block (id : Nat) (b : AC)
  | loop (keep keepB : List Nat) (b : AC)
  | scope (b : AC)
  | rfun (x : AX) (ps : List Nat) (asg body : AC)
  deriving Inhabited

/-- A result: a slot, or the box to which a slot points. -/
inductive RX where
  | tmp (t : Nat)
  | cell (t : Nat) (ag : Bool) (n : Nat)
  deriving Inhabited

structure AF where
  np : Nat
  res : List RX
  body : AC
  deriving Inhabited

/-- Objects of the heap. 'cells': a version, what it is if it was made by append (the elements' type and size), its cells. -/
inductive AObj where
  | cells (ver : Nat) (gr : Option (Nat × Nat)) (cs : List AV)
  | frz (ver : Nat) (cs : List AV)
  | map (es : List (List AV × AV))
  | loop (busy : Bool) (ps : List Nat) (asg body : AC) (ts : List (Nat × TV))
  | gone
  deriving Inhabited

structure St where
  heap : List AObj
  low : Nat
  deriving Inhabited

structure Fr where
  ts : List (Nat × TV)
  bs : List (Nat × List AV)
  deriving Inhabited

/-! ### Frames -/
def lookT (t : Nat) : List (Nat × TV) → Option TV
  | [] => none
  | (k, v) :: r => if k = t then some v else lookT t r
def lookB (s : Nat) : List (Nat × List AV) → Option (List AV)
  | [] => none
  | (k, v) :: r => if k = s then some v else lookB s r
/-- Only what is told of the slots that are named is kept. -/
def keepT (ts : List (Nat × TV)) : List Nat → List (Nat × TV)
  | [] => []
  | k :: ks => match lookT k ts with
    | some v => (k, v) :: keepT ts ks
    | none => keepT ts ks
def keepB (bs : List (Nat × List AV)) : List Nat → List (Nat × List AV)
  | [] => []
  | k :: ks => match lookB k bs with
    | some v => (k, v) :: keepB bs ks
    | none => keepB bs ks
/-- No pointer into the box of a slot any more. -/
def TV.dl (s : Nat) : TV → TV
  | .loc s' o => if s' = s then .no else .loc s' o
  | .lsl s' es n k => if s' = s then .no else .lsl s' es n k
  | x => x
def dropLoc (s : Nat) : List (Nat × TV) → List (Nat × TV)
  | [] => []
  | (k, v) :: r => (k, v.dl s) :: dropLoc s r
def TV.nl : TV → TV
  | .loc _ _ => .no
  | .lsl .. => .no
  | x => x
def noLocs : List (Nat × TV) → List (Nat × TV)
  | [] => []
  | (k, v) :: r => (k, v.nl) :: noLocs r
/-- A box of the frame's own becomes an object of the heap. -/
def TV.pub (s id : Nat) : TV → TV
  | .loc s' o => if s' = s then .v (.ref id 0 o) else .loc s' o
  | .lsl s' es n k => if s' = s then .v (.sl es id 0 0 n (some k)) else .lsl s' es n k
  | x => x
def pubTs (s id : Nat) : List (Nat × TV) → List (Nat × TV)
  | [] => []
  | (k, v) :: r => (k, v.pub s id) :: pubTs s id r
def delB (s : Nat) : List (Nat × List AV) → List (Nat × List AV)
  | [] => []
  | (k, v) :: r => if k = s then delB s r else (k, v) :: delB s r

def noNo : Option TV → Option TV
  | some .no => none
  | r => r
def rdT (ts : List (Nat × TV)) : AX → Option TV
  | .t n => noNo (lookT n ts)
  | .c v => some (.v v)
  | .g n => some (.v (.gref n 0))
  | .f n => some (.v (.fn n [] []))
def rdV (ts : List (Nat × TV)) (x : AX) : Option AV :=
  match rdT ts x with
  | some (.v a) => some a
  | _ => none
def rdVs (ts : List (Nat × TV)) : List AX → Option (List AV)
  | [] => some []
  | x :: xs => match rdV ts x with
    | some a => match rdVs ts xs with
      | some as => some (a :: as)
      | none => none
    | none => none
def rdI (ts : List (Nat × TV)) (x : AX) : Option Int :=
  match rdV ts x with
  | some (.int _ n) => some n
  | _ => none

/-! ### Cells -/
def AV.cells : AV → Option (List AV)
  | .agg cs => some cs
  | .tup _ => none
  | v => some [v]
def splice (cs : List AV) (off : Nat) (new : List AV) : List AV := cs.take off ++ new ++ cs.drop (off + new.length)
def fillA (ts : List (Nat × TV)) : List AV → List (Nat × Nat × AX) → Option (List AV)
  | cs, [] => some cs
  | cs, (off, n, x) :: r => match rdV ts x with
    | some a => match a.cells with
      | some new => if new.length = n ∧ off + n ≤ cs.length then fillA ts (splice cs off new) r else none
      | none => none
    | none => none

/-- Cells are compared one by one; 'sg': which of them are bools (the others are whole numbers). -/
def eqL : List Bool → List AV → List AV → Option Bool
  | [], [], [] => some true
  | true :: sg, .bool a :: as, .bool b :: bs => match eqL sg as bs with
    | some s => some ((a == b) && s)
    | none => none
  | false :: sg, .int k a :: as, .int j b :: bs => if k = j then
      match eqL sg as bs with
      | some s => some ((a == b) && s)
      | none => none
    else none
  | _, _, _ => none
def findK (sg : List Bool) (k : List AV) : List (List AV × AV) → Option (Option AV)
  | [] => some none
  | (k', v) :: r => match eqL sg k k' with
    | some true => some (some v)
    | some false => findK sg k r
    | none => none
def updK (sg : List Bool) (k : List AV) (v : AV) : List (List AV × AV) → Option (List (List AV × AV))
  | [] => some [(k, v)]
  | (k', v') :: r => match eqL sg k k' with
    | some true => some ((k, v) :: r)
    | some false => match updK sg k v r with
      | some r' => some ((k', v') :: r')
      | none => none
    | none => none

def mods (st : St) (id : Nat) (o : AObj) : St := { heap := st.heap.set id o, low := min st.low id }
def alloc (st : St) (o : AObj) : St := { st with heap := st.heap ++ [o] }

/-- The cells from an address on. -/
def cellsAt (G : Nat → Option (List AV)) (bs : List (Nat × List AV)) (st : St) : TV → Option (List AV)
  | .v (.ref id ver off) => match st.heap[id]? with
    | some (.cells v _ cs) => if v = ver then some (cs.drop off) else none
    | some (.frz v cs) => if v = ver then some (cs.drop off) else none
    | _ => none
  | .v (.gref g off) => match G g with
    | some cs => some (cs.drop off)
    | none => none
  | .v (.pl cs) => some cs
  | .loc s off => match lookB s bs with
    | some cs => some (cs.drop off)
    | none => none
  | _ => none
/-- A slice's own cells. -/
def sliceCells (es : Nat) (st : St) : AV → Option (Nat × List AV)
  | .lst _ _ n cs => if cs.length = n * es then some (n, cs) else none
  | .sl es' id ver off n _ => match st.heap[id]? with
    | some (.cells v _ cs) => if v = ver ∧ es' = es ∧ off + n * es ≤ cs.length then some (n, (cs.drop off).take (n * es)) else none
    | some (.frz v cs) => if v = ver ∧ es' = es ∧ off + n * es ≤ cs.length then some (n, (cs.drop off).take (n * es)) else none
    | _ => none
  | _ => none

def addP (off : Nat) : TV → Option TV
  | .v (.ref id ver o) => some (.v (.ref id ver (o + off)))
  | .v (.gref g o) => some (.v (.gref g (o + off)))
  | .v (.pl cs) => some (.v (.pl (cs.drop off)))
  | .loc s o => some (.loc s (o + off))
  | _ => none

def pubA : List Nat → Fr → St → Option (Fr × St)
  | [], fr, st => some (fr, st)
  | s :: ss, fr, st => match lookB s fr.bs with
    | some cs => pubA ss { ts := pubTs s st.heap.length fr.ts, bs := delB s fr.bs } (alloc st (.cells 0 none cs))
    | none => none

/-! ### Plain operations -/
def arith (op : BinOp) (k : IntKind) (a b : Int) : Option AV :=
  match op with
  | .add => some (.int k (k.wrap (a + b)))
  | .sub => some (.int k (k.wrap (a - b)))
  | .mul => some (.int k (k.wrap (a * b)))
  | .quo => if b = 0 then none else some (.int k (k.wrap (a.tdiv b)))
  | .rem => if b = 0 then none else some (.int k (a.tmod b))
  | .and => some (.int k (k.wrap (BitVec.ofInt k.bits a &&& BitVec.ofInt k.bits b).toNat))
  | .or => some (.int k (k.wrap (BitVec.ofInt k.bits a ||| BitVec.ofInt k.bits b).toNat))
  | .xor => some (.int k (k.wrap (BitVec.ofInt k.bits a ^^^ BitVec.ofInt k.bits b).toNat))
  | .andNot => some (.int k (k.wrap (BitVec.ofInt k.bits a &&& ~~~ BitVec.ofInt k.bits b).toNat))
  | .eql => some (.bool (a == b))
  | .neq => some (.bool (a != b))
  | .lss => some (.bool (decide (a < b)))
  | .leq => some (.bool (decide (a ≤ b)))
  | .gtr => some (.bool (decide (a > b)))
  | .geq => some (.bool (decide (a ≥ b)))
  | _ => none
def shift (op : BinOp) (k : IntKind) (a b : Int) : Option AV :=
  if b < 0 then none else
  match op with
  | .shl => some (.int k (k.wrap (a * 2 ^ (min b.toNat k.bits))))
  | .shr => some (.int k (a.fdiv (2 ^ (min b.toNat k.bits))))
  | _ => none
def binA (op : BinOp) : AV → AV → Option AV
  | .int k a, .int k' b => match op with
    | .shl | .shr => shift op k a b
    | _ => if k = k' then arith op k a b else none
  | _, _ => none
def unA (op : UnOp) : AV → Option AV
  | .bool b => match op with | .not => some (.bool (!b)) | _ => none
  | .int k n => match op with | .neg => some (.int k (k.wrap (0 - n))) | _ => none
  | _ => none
def mm2 (mx : Bool) : AV → AV → Option AV
  | .int k a, .int _ b => some (.int k (if mx then (if b > a then b else a) else (if b < a then b else a)))
  | _, _ => none
def mmL (mx : Bool) : AV → List AV → Option AV
  | a, [] => some a
  | a, b :: r => match mm2 mx a b with
    | some c => mmL mx c r
    | none => none

/-! ### Settled values: no slice of the heap, no reference to what is let go -/
def AV.scal : AV → Bool
  | .bool _ | .int _ _ | .nilf | .nilm | .nilp => true
  | _ => false
def mapS (f : AV → Option (AV × List Nat)) : List AV → Option (List AV × List Nat)
  | [] => some ([], [])
  | v :: vs => match f v with
    | some (v', l) => match mapS f vs with
      | some (vs', l') => some (v' :: vs', l ++ l')
      | none => none
    | none => none
/-- 's': from which object on the heap is let go; 'refs': references may stay. With what is to be frozen. -/
def settle (h : List AObj) (s : Nat) (refs : Bool) : Nat → AV → Option (AV × List Nat)
  | 0, v => if v.scal then some (v, []) else none
  | d + 1, v => match v with
    | .lst nl ex n cs => match mapS (settle h s refs d) cs with
      | some (cs', l) => some (.lst nl ex n cs', l)
      | none => none
    | .sl es id ver off n cap => if id < s then some (.sl es id ver off n cap, []) else
      match h[id]? with
      | some (.cells v _ cs) => if v = ver ∧ off + n * es ≤ cs.length then
          match mapS (settle h s refs d) ((cs.drop off).take (n * es)) with
          | some (cs', l) => some (.lst (some false) (cap == some n) n cs', id :: l)
          | none => none
        else none
      | some (.frz v cs) => if v = ver ∧ off + n * es ≤ cs.length then
          match mapS (settle h s refs d) ((cs.drop off).take (n * es)) with
          | some (cs', l) => some (.lst (some false) (cap == some n) n cs', id :: l)
          | none => none
        else none
      | _ => none
    | .ref id ver off => if id < s ∨ refs = true then some (.ref id ver off, []) else none
    | .map id => if id < s ∨ refs = true then some (.map id, []) else none
    | .yld id => if id < s ∨ refs = true then some (.yld id, []) else none
    | .pl cs => match mapS (settle h s refs d) cs with
      | some (cs', l) => some (.pl cs', l)
      | none => none
    | .fn f fs cs => match mapS (settle h s refs d) fs with
      | some (fs', l) => match mapS (settle h s refs d) cs with
        | some (cs', l') => some (.fn f fs' cs', l ++ l')
        | none => none
      | none => none
    | .agg cs => match mapS (settle h s refs d) cs with
      | some (cs', l) => some (.agg cs', l)
      | none => none
    | .tup cs => match mapS (settle h s refs d) cs with
      | some (cs', l) => some (.tup cs', l)
      | none => none
    | .gref g o => some (.gref g o, [])
    | v => some (v, [])
def frz1 : AObj → AObj
  | .cells v _ cs => .frz v cs
  | o => o
def frzAll (h : List AObj) : List Nat → List AObj
  | [] => h
  | id :: l => match h[id]? with
    | some o => frzAll (h.set id (frz1 o)) l
    | none => frzAll h l

end Go.Proofs.AM

namespace Go.Proofs.AM
open Go

/-- What the machine is asked for: a function, or a round of a loop over a function. -/
inductive Cal where
  | fn (f : Nat) (fs cs : List AV)
  | yld (l : Nat)
  deriving Inhabited

abbrev Inv := Bool → Cal → List AV → St → Option (AV × St)
abbrev Bxs := List (Nat × List AV)

structure Env where
  fns : Nat → Option AF
  glob : Nat → Option (List AV)
  tab : Cal → List AV → Option AV := fun _ _ => none

/-! ### One operation -/
def cond2 {α : Type} (c : Option AV) (a b : α) : Option α :=
  match c with
  | some (.bool true) => some a
  | some (.bool false) => some b
  | _ => none
/-- A new box: of the frame's own, in the slot; or of the heap. -/
def newBox (lc : Bool) (d : Nat) (cs : List AV) (bs : Bxs) (st : St) : TV × Bxs × St :=
  if lc then (.loc d 0, (d, cs) :: bs, st) else (.v (.ref st.heap.length 0 0), bs, alloc st (.cells 0 none cs))
def ofCells (ag : Bool) (n : Nat) (cs : List AV) : Option AV :=
  if n ≤ cs.length then
    if ag then some (.agg (cs.take n)) else
    match cs with
    | c :: _ => if n = 1 then some c else none
    | [] => none
  else none
def storeA (n : Nat) (p : TV) (a : AV) (bs : Bxs) (st : St) : Option (Bxs × St) :=
  match a.cells with
  | some new => if new.length = n then
      match p with
      | .loc s off => match lookB s bs with
        | some cs => if off + n ≤ cs.length then some ((s, splice cs off new) :: bs, st) else none
        | none => none
      | .v (.ref id ver off) => match st.heap[id]? with
        | some (.cells v gr cs) => if v = ver ∧ off + n ≤ cs.length then some (bs, mods st id (.cells v gr (splice cs off new))) else none
        | _ => none
      | _ => none
    else none
  | none => none
def iaddrA (es : Nat) (x : AV) (i : Int) : Option TV :=
  match x with
  | .lst _ _ n cs => if 0 ≤ i ∧ i < n then some (.v (.pl (cs.drop (i.toNat * es)))) else none
  | .sl es' id ver off n _ => if es' = es ∧ 0 ≤ i ∧ i < n then some (.v (.ref id ver (off + i.toNat * es))) else none
  | _ => none
def bound {α : Type} (ok : Prop) [Decidable ok] (a : α) : Option α := if ok then some a else none
def lenA : AV → Option AV
  | .lst _ _ n _ => some (.int .i64 n)
  | .sl _ _ _ _ n _ => some (.int .i64 n)
  | _ => none
/-- The greatest number of bytes of a slice that is appended to. -/
def room : Nat := 70368744177664
def appA (es e bytes : Nat) (x y : AV) (st : St) : Option (AV × St) :=
  match sliceCells es st y with
  | some (m, new) => if m = 0 then
      (match x with
       | .lst .. => some (x, st)
       | .sl .. => some (x, st)
       | _ => none)
    else
    match x with
    | .lst _ ex n cs => if ex = true ∧ cs.length = n * es ∧ (n + m) * bytes ≤ room ∧ n + m ≤ room then
        some (.sl es st.heap.length 0 0 (n + m) none, alloc st (.cells 0 (some (e, es)) (cs ++ new)))
      else none
    | .sl es' id ver off n none => match st.heap[id]? with
      | some (.cells v (some (e', g)) cs) =>
        if v = ver ∧ es' = es ∧ g = es ∧ e' = e ∧ off = 0 ∧ cs.length = n * es ∧ (n + m) * bytes ≤ room ∧ n + m ≤ room then
          some (.sl es id (ver + 1) 0 (n + m) none, mods st id (.cells (ver + 1) (some (e, es)) (cs ++ new)))
        else none
      | _ => none
    | .sl es' id ver off n (some c) => match st.heap[id]? with
      | some (.cells v gr cs) =>
        if v = ver ∧ es' = es ∧ off + c * es ≤ cs.length ∧ n ≤ c ∧ (n + m) * bytes ≤ room ∧ n + m ≤ room then
          if n + m ≤ c then some (.sl es id ver off (n + m) (some c), mods st id (.cells v gr (splice cs (off + n * es) new)))
          else some (.sl es st.heap.length 0 0 (n + m) none, alloc st (.cells 0 (some (e, es)) ((cs.drop off).take (n * es) ++ new)))
        else none
      | _ => none
    | _ => none
  | none => none
def slcA (es : Nat) (x : AV) (lo hi mx : Option Int) : Option AV :=
  match x with
  | .lst nl ex n cs =>
    let h := hi.getD n
    let l := lo.getD 0
    if 0 ≤ l ∧ l ≤ h ∧ h ≤ n ∧ (mx.isSome → hi.isSome) then
      match mx with
      | none => some (.lst nl (ex && h == n) (h - l).toNat ((cs.drop (l.toNat * es)).take ((h - l).toNat * es)))
      | some m => if h ≤ m ∧ m ≤ n then some (.lst nl (m == h) (h - l).toNat ((cs.drop (l.toNat * es)).take ((h - l).toNat * es))) else none
    else none
  | .sl es' id ver off n cap =>
    let h := hi.getD n
    let l := lo.getD 0
    if es' = es ∧ 0 ≤ l ∧ l ≤ h ∧ h ≤ n ∧ (mx.isSome → hi.isSome) then
      match mx with
      | some m => if h ≤ m ∧ m ≤ n then
          if m = l then some (.lst (some false) true 0 []) else some (.sl es id ver (off + l.toNat * es) (h - l).toNat (some (m - l).toNat))
        else none
      | none => match cap with
        | some c => if (c : Int) = l then some (.lst (some false) true 0 []) else some (.sl es id ver (off + l.toNat * es) (h - l).toNat (some (c - l).toNat))
        | none => if l = 0 then some (.sl es id ver off h.toNat none) else none
    else none
  | _ => none
def rdO (ts : List (Nat × TV)) : Option AX → Option (Option Int)
  | none => some none
  | some x => match rdI ts x with
    | some i => some (some i)
    | none => none
def calOf : AV → Option Cal
  | .fn f fs cs => some (.fn f fs cs)
  | .yld l => some (.yld l)
  | _ => none
/-- The arguments of a call, settled where the call asks for it. -/
def argsFz (fz : Bool) (args : List AV) (st : St) : Option (List AV × St) :=
  if fz then
    match mapS (settle st.heap 0 true 8) args with
    | some (as, l) => some (as, { st with heap := frzAll st.heap l })
    | none => none
  else some (args, st)
/-- An operation: its value, the boxes, the heap. -/
def ev (E : Env) (inv : Inv) (d : Nat) (ts : List (Nat × TV)) (bs : Bxs) (st : St) : AOp → Option (TV × Bxs × St)
  | .mov x => match rdT ts x with
    | some t => some (t, bs, st)
    | none => none
  | .pick c a b => match rdV ts c with
    | some (.bool q) => match rdT ts a with
      | some t => match rdT ts b with
        | some u => some (if q then t else u, bs, st)
        | none => none
      | none => none
    | _ => none
  | .new lc zero => some (newBox lc d zero bs st)
  | .box lc x => match rdV ts x with
    | some a => match a.cells with
      | some cs => some (newBox lc d cs bs st)
      | none => none
    | none => none
  | .build zero parts => match fillA ts zero parts with
    | some cs => some (.v (.agg cs), bs, st)
    | none => none
  | .bslice pure es len zero parts => match fillA ts zero parts with
    | some cs => if pure then some (.v (.lst (some false) true len cs), bs, st)
      else some (.v (.sl es st.heap.length 0 0 len (some len)), bs, alloc st (.cells 0 none cs))
    | none => none
  | .load ag n x => match rdT ts x with
    | some p => match cellsAt E.glob bs st p with
      | some cs => match ofCells ag n cs with
        | some a => some (.v a, bs, st)
        | none => none
      | none => none
    | none => none
  | .store n x y => match rdT ts x with
    | some p => match rdV ts y with
      | some a => match storeA n p a bs st with
        | some (bs', st') => some (.und, bs', st')
        | none => none
      | none => none
    | none => none
  | .faddr off x => match rdT ts x with
    | some p => match addP off p with
      | some q => some (q, bs, st)
      | none => none
    | none => none
  | .iaddr es x i => match rdV ts x with
    | some a => match rdI ts i with
      | some j => match iaddrA es a j with
        | some q => some (q, bs, st)
        | none => none
      | none => none
    | none => none
  | .aaddr es len x i => match rdT ts x with
    | some p => match rdI ts i with
      | some j => if 0 ≤ j ∧ j < len then
          match addP (j.toNat * es) p with
          | some q => some (q, bs, st)
          | none => none
        else none
      | none => none
    | none => none
  | .field ag off n x => match rdV ts x with
    | some (.agg cs) => match ofCells ag n (cs.drop off) with
      | some a => some (.v a, bs, st)
      | none => none
    | _ => none
  | .index ag es len x i => match rdV ts x with
    | some (.agg cs) => match rdI ts i with
      | some j => if 0 ≤ j ∧ j < len then
          match ofCells ag es (cs.drop (j.toNat * es)) with
          | some a => some (.v a, bs, st)
          | none => none
        else none
      | none => none
    | _ => none
  | .un op x => match rdV ts x with
    | some a => match unA op a with
      | some r => some (.v r, bs, st)
      | none => none
    | none => none
  | .bin op x y => match rdV ts x with
    | some a => match rdV ts y with
      | some b => match binA op a b with
        | some r => some (.v r, bs, st)
        | none => none
      | none => none
    | none => none
  | .eqb neq x y => match rdV ts x with
    | some (.bool a) => match rdV ts y with
      | some (.bool b) => some (.v (.bool (if neq then !(a == b) else a == b)), bs, st)
      | _ => none
    | _ => none
  | .eqs neq sg x y => match rdV ts x with
    | some (.agg a) => match rdV ts y with
      | some (.agg b) => match eqL sg a b with
        | some r => some (.v (.bool (if neq then !r else r)), bs, st)
        | none => none
      | _ => none
    | _ => none
  | .len x => match rdV ts x with
    | some a => match lenA a with
      | some r => some (.v r, bs, st)
      | none => none
    | none => none
  | .mm mx x xs => match rdV ts x with
    | some a => match rdVs ts xs with
      | some as => match mmL mx a as with
        | some r => some (.v r, bs, st)
        | none => none
      | none => none
    | none => none
  | .app es e bytes x y => match rdV ts x with
    | some a => match rdV ts y with
      | some b => match appA es e bytes a b st with
        | some (r, st') => some (.v r, bs, st')
        | none => none
      | none => none
    | none => none
  | .mks lc es bytes zero l c => match rdI ts l with
    | some n => match rdI ts c with
      | some k => if 0 ≤ n ∧ n ≤ k ∧ k * bytes ≤ room ∧ k ≤ room then
          if lc then some (.lsl d es n.toNat k.toNat, (d, (List.replicate k.toNat zero).flatten) :: bs, st)
          else some (.v (.sl es st.heap.length 0 0 n.toNat (some k.toNat)), bs, alloc st (.cells 0 none ((List.replicate k.toNat zero).flatten)))
        else none
      | none => none
    | none => none
  | .mkm => some (.v (.map st.heap.length), bs, alloc st (.map []))
  | .look sg zero ok m k => match rdV ts m with
    | some (.map id) => match rdV ts k with
      | some (.agg kc) => if kc.length = sg.length then
          match st.heap[id]? with
          | some (.map es) => match findK sg kc es with
            | some r => some (.v (if ok then .tup [r.getD zero, .bool r.isSome] else r.getD zero), bs, st)
            | none => none
          | _ => none
        else none
      | _ => none
    | _ => none
  | .upd sg m k v => match rdV ts m with
    | some (.map id) => match rdV ts k with
      | some (.agg kc) => if kc.length = sg.length then
          match rdV ts v with
          | some a => match st.heap[id]? with
            | some (.map es) => match updK sg kc a es with
              | some es' => some (.und, bs, mods st id (.map es'))
              | none => none
            | _ => none
          | none => none
        else none
      | _ => none
    | _ => none
  | .slc es x lo hi mx => match rdV ts x with
    | some a => match rdO ts lo with
      | some l => match rdO ts hi with
        | some h => match rdO ts mx with
          | some m => match slcA es a l h m with
            | some r => some (.v r, bs, st)
            | none => none
          | none => none
        | none => none
      | none => none
    | none => none
  | .mkf f fs cs => match rdVs ts fs with
    | some as => match rdVs ts cs with
      | some bs' => some (.v (.fn f as bs'), bs, st)
      | none => none
    | none => none
  | .ext i x => match rdV ts x with
    | some (.tup vs) => match vs[i]? with
      | some a => some (.v a, bs, st)
      | none => none
    | _ => none
  | .call raw fz f args => match rdV ts f with
    | some fv => match calOf fv with
      | some c => match rdVs ts args with
        | some as => match argsFz fz as st with
          | some (as', st1) => match inv raw c as' st1 with
            | some (r, st') => some (.v r, bs, st')
            | none => none
          | none => none
        | none => none
      | none => none
    | none => none

/-! ### Regions -/
/-- Is an operation wanted? -/
def wantA (ts : List (Nat × TV)) : Option (Nat × Bool) → Option Bool
  | none => some true
  | some (s, w) => match lookT s ts with
    | some (.v (.bool b)) => some (b == w)
    | some .und => some false
    | _ => none
/-- A new box of the frame's own forgets the elder one of its slot. -/
def reLoc (o : AOp) (d : Nat) (ts : List (Nat × TV)) : List (Nat × TV) :=
  match o with
  | .new true _ => dropLoc d ts
  | .box true _ => dropLoc d ts
  | .mks true .. => dropLoc d ts
  | _ => ts
def putD (d : Option Nat) (t : TV) (ts : List (Nat × TV)) : List (Nat × TV) :=
  match d with
  | some d => (d, t) :: ts
  | none => ts
def stepO (E : Env) (inv : Inv) (o : AO) (fr : Fr) (st : St) : Option (Fr × St) :=
  match wantA fr.ts o.guard with
  | some true => match ev E inv (o.dst.getD 0) fr.ts fr.bs st o.op with
    | some (t, bs, st') => some ({ ts := putD o.dst t (reLoc o.op (o.dst.getD 0) fr.ts), bs }, st')
    | none => none
  | some false => some ({ fr with ts := putD o.dst .und fr.ts }, st)
  | none => none
def opsA (E : Env) (inv : Inv) : List AO → Fr → St → Option (Fr × St)
  | [], fr, st => some (fr, st)
  | o :: os, fr, st => match stepO E inv o fr st with
    | some (fr', st') => opsA E inv os fr' st'
    | none => none

/-! ### Regions whose order is open: what an operation reads, what it changes -/
inductive Mem where
  | slot (s : Nat)
  | obj (id : Nat)
  deriving DecidableEq, Inhabited
def AX.slot : AX → List Nat
  | .t n => [n]
  | _ => []
def AX.slotO : Option AX → List Nat
  | some x => x.slot
  | none => []
def slotsL : List AX → List Nat
  | [] => []
  | x :: xs => x.slot ++ slotsL xs
def slotsP : List (Nat × Nat × AX) → List Nat
  | [] => []
  | (_, _, x) :: xs => x.slot ++ slotsP xs
def AOp.uses : AOp → List Nat
  | .mov x | .box _ x | .load _ _ x | .faddr _ x | .field _ _ _ x | .un _ x | .len x | .ext _ x => x.slot
  | .pick a b c => a.slot ++ b.slot ++ c.slot
  | .new .. | .mkm => []
  | .build _ ps => slotsP ps
  | .bslice _ _ _ _ ps => slotsP ps
  | .store _ x y | .iaddr _ x y | .aaddr _ _ x y | .index _ _ _ x y | .bin _ x y | .eqb _ x y | .eqs _ _ x y | .app _ _ _ x y | .mks _ _ _ _ x y | .look _ _ _ x y => x.slot ++ y.slot
  | .mm _ x xs => x.slot ++ slotsL xs
  | .upd _ a b c => a.slot ++ b.slot ++ c.slot
  | .slc _ x a b c => x.slot ++ AX.slotO a ++ AX.slotO b ++ AX.slotO c
  | .mkf _ fs cs => slotsL fs ++ slotsL cs
  | .call _ _ f args => f.slot ++ slotsL args
def AO.uses (o : AO) : List Nat := o.op.uses ++ (match o.guard with | some g => [g.1] | none => [])
/-- Boxes of the frame's own to which the operands point. -/
def boxesOf (ts : List (Nat × TV)) : List Nat → List Mem
  | [] => []
  | t :: r => match lookT t ts with
    | some (.loc s _) => .slot s :: boxesOf ts r
    | some (.lsl s _ _ _) => .slot s :: boxesOf ts r
    | _ => boxesOf ts r
def objOf : Option TV → List Mem
  | some (.v (.ref id _ _)) => [.obj id]
  | some (.v (.map id)) => [.obj id]
  | _ => []
def accOf (ts : List (Nat × TV)) (o : AOp) : List Mem :=
  boxesOf ts o.uses ++ match o with
  | .load _ _ x => objOf (rdT ts x)
  | .look _ _ _ m _ => objOf (rdT ts m)
  | _ => []
/-- May an operation change the heap, or run code? -/
def heffOf (o : AOp) (ts : List (Nat × TV)) : Bool :=
  match o with
  | .store _ x _ => match rdT ts x with
    | some (.loc _ _) => false
    | _ => true
  | .new lc _ | .box lc _ | .mks lc .. | .bslice lc .. => !lc
  | .mkm | .app .. | .upd .. | .call .. => true
  | _ => false
/-- The box that an operation changes. -/
def boxOf (o : AOp) (d : Nat) (ts : List (Nat × TV)) : Option Nat :=
  match o with
  | .new true _ | .box true _ | .mks true .. => some d
  | .store _ x _ => match rdT ts x with
    | some (.loc s _) => some s
    | _ => none
  | _ => none
/-- 'acc': what is read; 'box': the box that is changed; 'eff': from which object on the heap may have changed. -/
structure Tr where
  acc : List Mem
  box : Option Nat
  eff : Option Nat
  deriving Inhabited
def trOf (o : AO) (ts : List (Nat × TV)) (st st' : St) : Tr :=
  if wantA ts o.guard = some true then { acc := accOf ts o.op, box := boxOf o.op (o.dst.getD 0) ts, eff := if heffOf o.op ts then some (min st'.low st.heap.length) else none } else { acc := [], box := none, eff := none }
def hits (t : Tr) : Mem → Bool
  | .slot s => t.box == some s
  | .obj id => match t.eff with
    | some i => decide (i ≤ id)
    | none => false
def opsT (E : Env) (inv : Inv) : List AO → Fr → St → Option (List Tr × Fr × St)
  | [], fr, st => some ([], fr, st)
  | o :: os, fr, st => match stepO E inv o fr { st with low := st.heap.length } with
    | some (fr', st') =>
      match opsT E inv os fr' { st' with low := min st.low st'.low } with
      | some (l, fr'', st'') =>
        some (trOf o fr.ts { st with low := st.heap.length } st' :: l, fr'', st'')
      | none => none
    | none => none
/-- All operations before each one, by the edges: a set of numbers as a number. -/
def befores (after : List (List Nat)) : List Nat :=
  after.foldl (fun acc l => acc ++ [l.foldl (fun m j => m ||| 2 ^ j ||| acc.getD j 0) 0]) []
def ordB (bf : List Nat) (i j : Nat) : Bool := (bf.getD j 0).testBit i
/-- May two operations (the first before the second in the text) come in either order? Then they share no slot, and change nothing of each other's. -/
def pairOk (a b : AO) (ta tb : Tr) : Bool :=
  (match a.dst with | some d => !b.uses.contains d && b.dst != some d | none => true) &&
  (match b.dst with | some d => !a.uses.contains d | none => true) &&
  !(ta.eff.isSome && tb.eff.isSome) &&
  (tb.acc.all fun m => !hits ta m) &&
  (ta.acc.all fun m => !hits tb m)
def pairsFrom (bf : List Nat) (a : AO) (ta : Tr) (i : Nat) : Nat → List AO → List Tr → Bool
  | j, b :: os, tb :: ts => (ordB bf i j || pairOk a b ta tb) && pairsFrom bf a ta i (j + 1) os ts
  | _, _, _ => true
def allPairs (bf : List Nat) : Nat → List AO → List Tr → Bool
  | i, a :: os, ta :: ts => pairsFrom bf a ta i (i + 1) os ts && allPairs bf (i + 1) os ts
  | _, _, _ => true
def regionA (E : Env) (inv : Inv) (ops : List AO) (after : Option (List (List Nat))) (fr : Fr) (st : St) : Option (Fr × St) :=
  match after with
  | none => opsA E inv ops fr st
  | some af => match opsT E inv ops fr st with
    | some (l, fr', st') => if allPairs (befores af) 0 ops l then some (fr', st') else none
    | none => none

/-! ### Code -/
inductive Ex where
  | norm
  | exit (id : Nat)
  | ret
  deriving DecidableEq, Inhabited
abbrev Out := Option (Ex × Fr × St)
def loopN (f : Fr → St → Out) : Nat → Fr → St → Out
  | 0, _, _ => none
  | k + 1, fr, st => match f fr st with
    | some (.norm, fr', st') => loopN f k fr' st'
    | r => r
def evC (E : Env) (inv : Inv) (k : Nat) : AC → Fr → St → Out
  | .skip, fr, st => some (.norm, fr, st)
  | .ret, fr, st => some (.ret, fr, st)
  | .exit id, fr, st => some (.exit id, fr, st)
  | .region ops after ks kb ps, fr, st => match regionA E inv ops after fr st with
    | some (fr1, st1) => match pubA ps fr1 st1 with
      | some (fr', st') => some (.norm, { ts := keepT fr'.ts ks, bs := keepB fr'.bs kb }, st')
      | none => none
    | none => none
  | .seq a b, fr, st => match evC E inv k a fr st with
    | some (.norm, fr', st') => evC E inv k b fr' st'
    | r => r
  | .cond c a b, fr, st => match rdV fr.ts c with
    | some (.bool true) => evC E inv k a fr st
    | some (.bool false) => evC E inv k b fr st
    | _ => none
  | .block id b, fr, st => match evC E inv k b fr st with
    | some (.exit id', fr', st') => if id' = id then some (.norm, fr', st') else some (.exit id', fr', st')
    | r => r
  | .loop ks kb b, fr, st => loopN (fun fr st => evC E inv k b { ts := keepT fr.ts ks, bs := keepB fr.bs kb } st) k fr st
  | .scope b, fr, st => evC E inv k b fr st
  | .rfun x ps asg body, fr, st => match rdV fr.ts x with
    | some (.fn f fs cs) => if fr.bs.isEmpty then
        match inv false (.fn f (fs ++ [.yld st.heap.length]) cs) [] (alloc st (.loop false ps asg body (noLocs fr.ts))) with
        | some (_, st') => match st'.heap[st.heap.length]? with
          | some (.loop false ..) => some (.norm, fr, mods st' st.heap.length .gone)
          | _ => none
        | none => none
      else none
    | _ => none

/-! ### Functions -/
def zipA : Nat → List AV → List (Nat × TV)
  | _, [] => []
  | i, a :: as => (i, .v a) :: zipA (i + 1) as
def resR (E : Env) (fr : Fr) (st : St) : RX → Option AV
  | .tmp t => rdV fr.ts (.t t)
  | .cell t ag n => match lookT t fr.ts with
    | some p => match cellsAt E.glob fr.bs st p with
      | some cs => ofCells ag n cs
      | none => none
    | none => none
def resL (E : Env) (fr : Fr) (st : St) : List RX → Option (List AV)
  | [] => some []
  | r :: rs => match resR E fr st r with
    | some a => match resL E fr st rs with
      | some as => some (a :: as)
      | none => none
    | none => none
def tupA : List AV → AV
  | [a] => a
  | as => .tup as
/-- Behind a call: if no elder object was changed, and the result refers to none of the call's own but by slices, these are told by their cells, and the call's own objects are let go. -/
def finish (raw : Bool) (st0 : St) (v : AV) (st : St) : AV × St :=
  if raw = false ∧ st0.heap.length ≤ st.low then
    match settle st.heap st0.heap.length false 8 v with
    | some (v', _) => (v', { heap := st.heap.take st0.heap.length, low := st0.low })
    | none => (v, { heap := st.heap, low := min st0.low st.low })
  else (v, { heap := st.heap, low := min st0.low st.low })
def putPs (ts : List (Nat × TV)) : List Nat → List AV → Option (List (Nat × TV))
  | [], [] => some ts
  | p :: ps, a :: as => putPs ((p, .v a) :: ts) ps as
  | _, _ => none
def bodyA (E : Env) (raw : Bool) (c : Cal) (args : List AV) (st : St) (run : AC → Fr → St → Out) : Option (AV × St) :=
  match c with
  | .fn f fs cs => match E.fns f with
    | some af => if (fs ++ args ++ cs).length = af.np then
        match run af.body { ts := zipA 0 (fs ++ args ++ cs), bs := [] } { st with low := st.heap.length } with
        | some (.exit _, _, _) => none
        | some (_, fr, st') => match resL E fr st' af.res with
          | some vs => some (finish raw st (tupA vs) st')
          | none => none
        | none => none
      else none
    | none => none
  | .yld l => match st.heap[l]? with
    | some (.loop false ps asg body ts) => match putPs ts ps args with
      | some ts' => match run asg { ts := ts', bs := [] } st with
        | some (.norm, fr, st1) => match st1.heap[l]? with
          | some (.loop false p1 a1 b1 t1) => match run body fr { st1 with heap := st1.heap.set l (.loop true p1 a1 b1 t1) } with
            | some (.norm, _, st2) => match st2.heap[l]? with
              | some (.loop true p2 a2 b2 t2) => some (.bool true, { st2 with heap := st2.heap.set l (.loop false p2 a2 b2 t2) })
              | _ => none
            | _ => none
          | _ => none
        | _ => none
      | none => none
    | _ => none
def evF (E : Env) : Nat → Inv
  | 0 => fun _ _ _ _ => none
  | m + 1 => fun raw c args st => match E.tab c args with
    | some r => some (r, st)
    | none => bodyA E raw c args st (evC E (evF E m) m)

end Go.Proofs.AM
