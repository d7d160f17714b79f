/-
  The machine's equations, for a stepping 'simp'.
-/
import Derived.Test.YtkifeiienlkmcaaDoorAmG
set_option linter.all false
namespace Go.Proofs.AM
open Go

attribute [simp] opsA stepO ev wantA lookT rdT noNo rdV rdVs rdI rdO putD reLoc dropLoc TV.dl keepT keepB lookB pubA zipA resL resR tupA binA arith unA argsFz calOf cellsAt ofCells storeA newBox addP fillA frzAll splice mmL mm2 mapS pubTs TV.pub delB noLocs TV.nl codeE_skip codeE_ret codeE_exit codeE_region codeE_seq codeE_cond codeE_block codeE_scope
@[simp] theorem scal_bool (b : Bool) : (AV.bool b).scal = true := rfl
@[simp] theorem scal_int (k : IntKind) (n : Int) : (AV.int k n).scal = true := rfl
@[simp] theorem scal_nilf : AV.nilf.scal = true := rfl
@[simp] theorem scal_nilm : AV.nilm.scal = true := rfl
@[simp] theorem scal_nilp : AV.nilp.scal = true := rfl
theorem settle_scal {h : List AObj} {s : Nat} {refs : Bool} : ∀ {d : Nat} {v : AV}, v.scal = true → settle h s refs d v = some (v, [])
  | 0, v, hv => by simp [settle, hv]
  | d + 1, v, hv => by cases v <;> simp [settle, AV.scal] at hv ⊢
/-- A loop, shut. -/
noncomputable def loopC (E : Env) (ks kb : List Nat) (b : AC) (fr : Fr) (st : St) : Out := loopE (fun fr st => codeE E b { ts := keepT fr.ts ks, bs := keepB fr.bs kb } st) fr st
@[simp] theorem codeE_loopC (E : Env) (ks kb : List Nat) (b : AC) (fr : Fr) (st : St) : codeE E (.loop ks kb b) fr st = loopC E ks kb b fr st := rfl
theorem loopC_norm {E : Env} {ks kb : List Nat} {b : AC} {fr fr' : Fr} {st st' : St} (h : codeE E b { ts := keepT fr.ts ks, bs := keepB fr.bs kb } st = some (.norm, fr', st')) : loopC E ks kb b fr st = loopC E ks kb b fr' st' := loopE_norm h
theorem loopC_out {E : Env} {ks kb : List Nat} {b : AC} {fr fr' : Fr} {st st' : St} {e : Ex} (h : codeE E b { ts := keepT fr.ts ks, bs := keepB fr.bs kb } st = some (e, fr', st')) (he : e ≠ .norm) : loopC E ks kb b fr st = some (e, fr', st') := loopE_out h he
theorem loopC_eq (E : Env) (ks kb : List Nat) (b : AC) (fr : Fr) (st : St) : loopC E ks kb b fr st = match codeE E b { ts := keepT fr.ts ks, bs := keepB fr.bs kb } st with | some (.norm, fr', st') => loopC E ks kb b fr' st' | r => r := loopE_eq _ fr st
@[simp] theorem regionA_none (E : Env) (inv : Inv) (ops : List AO) (fr : Fr) (st : St) : regionA E inv ops none fr st = opsA E inv ops fr st := rfl
section
variable {h : List AObj} {s d : Nat} {refs : Bool}
@[simp] theorem settle_boolv (b : Bool) : settle h s refs d (.bool b) = some (.bool b, []) := settle_scal rfl
@[simp] theorem settle_intv (k : IntKind) (n : Int) : settle h s refs d (.int k n) = some (.int k n, []) := settle_scal rfl
@[simp] theorem settle_nilf : settle h s refs d .nilf = some (.nilf, []) := settle_scal rfl
@[simp] theorem settle_nilm : settle h s refs d .nilm = some (.nilm, []) := settle_scal rfl
@[simp] theorem settle_nilp : settle h s refs d .nilp = some (.nilp, []) := settle_scal rfl
@[simp] theorem settle_lst (nl : Option Bool) (ex : Bool) (n : Nat) (cs : List AV) : settle h s refs (d + 1) (.lst nl ex n cs) = match mapS (settle h s refs d) cs with
    | some (cs', l) => some (.lst nl ex n cs', l)
    | none => none := rfl
@[simp] theorem settle_agg (cs : List AV) : settle h s refs (d + 1) (.agg cs) = match mapS (settle h s refs d) cs with
    | some (cs', l) => some (.agg cs', l)
    | none => none := rfl
@[simp] theorem settle_tup (cs : List AV) : settle h s refs (d + 1) (.tup cs) = match mapS (settle h s refs d) cs with
    | some (cs', l) => some (.tup cs', l)
    | none => none := rfl
@[simp] theorem settle_fn (f : Nat) (fs cs : List AV) : settle h s refs (d + 1) (.fn f fs cs) = match mapS (settle h s refs d) fs with
    | some (fs', l) => match mapS (settle h s refs d) cs with
      | some (cs', l') => some (.fn f fs' cs', l ++ l')
      | none => none
    | none => none := rfl
@[simp] theorem settle_map (id : Nat) : settle h s refs (d + 1) (.map id) = if id < s ∨ refs = true then some (.map id, []) else none := rfl
@[simp] theorem settle_ref (id ver off : Nat) : settle h s refs (d + 1) (.ref id ver off) = if id < s ∨ refs = true then some (.ref id ver off, []) else none := rfl
@[simp] theorem settle_sl (es id ver off n : Nat) (cap : Option Nat) : settle h s refs (d + 1) (.sl es id ver off n cap) = if id < s then some (.sl es id ver off n cap, []) else
      match h[id]? with
      | some (.cells v _ cs) => if v = ver ∧ off + n * es ≤ cs.length then
          match mapS (settle h s refs d) ((cs.drop off).take (n * es)) with
          | some (cs', l) => some (.lst (some false) (cap == some n) n cs', id :: l)
          | none => none
        else none
      | some (.frz v cs) => if v = ver ∧ off + n * es ≤ cs.length then
          match mapS (settle h s refs d) ((cs.drop off).take (n * es)) with
          | some (cs', l) => some (.lst (some false) (cap == some n) n cs', id :: l)
          | none => none
        else none
      | _ => none := rfl
@[simp] theorem settle_yld (id : Nat) : settle h s refs (d + 1) (.yld id) = if id < s ∨ refs = true then some (.yld id, []) else none := rfl
@[simp] theorem settle_gref (g o : Nat) : settle h s refs (d + 1) (.gref g o) = some (.gref g o, []) := rfl
end
@[simp] theorem cells_bool (b : Bool) : (AV.bool b).cells = some [.bool b] := rfl
@[simp] theorem cells_int (k : IntKind) (n : Int) : (AV.int k n).cells = some [.int k n] := rfl
@[simp] theorem cells_agg (cs : List AV) : (AV.agg cs).cells = some cs := rfl
@[simp] theorem cells_lst (nl : Option Bool) (ex : Bool) (n : Nat) (cs : List AV) : (AV.lst nl ex n cs).cells = some [.lst nl ex n cs] := rfl
@[simp] theorem cells_sl (es id ver off n : Nat) (cap : Option Nat) : (AV.sl es id ver off n cap).cells = some [.sl es id ver off n cap] := rfl
@[simp] theorem cells_ref (id ver off : Nat) : (AV.ref id ver off).cells = some [.ref id ver off] := rfl
@[simp] theorem cells_map (id : Nat) : (AV.map id).cells = some [.map id] := rfl
@[simp] theorem cells_fn (f : Nat) (fs cs : List AV) : (AV.fn f fs cs).cells = some [.fn f fs cs] := rfl
@[simp] theorem cells_yld (l : Nat) : (AV.yld l).cells = some [.yld l] := rfl
@[simp] theorem cells_nilm : AV.nilm.cells = some [.nilm] := rfl
@[simp] theorem cells_nilf : AV.nilf.cells = some [.nilf] := rfl
@[simp] theorem len_lst (nl : Option Bool) (ex : Bool) (n : Nat) (cs : List AV) : lenA (.lst nl ex n cs) = some (.int .i64 n) := rfl
@[simp] theorem len_sl (es id ver off n : Nat) (cap : Option Nat) : lenA (.sl es id ver off n cap) = some (.int .i64 n) := rfl
@[simp] theorem iaddr_lst (es : Nat) (nl : Option Bool) (ex : Bool) (n : Nat) (cs : List AV) (i : Int) : iaddrA es (.lst nl ex n cs) i = if 0 ≤ i ∧ i < n then some (.v (.pl (cs.drop (i.toNat * es)))) else none := rfl
@[simp] theorem iaddr_sl (es es' id ver off n : Nat) (cap : Option Nat) (i : Int) : iaddrA es (.sl es' id ver off n cap) i = if es' = es ∧ 0 ≤ i ∧ i < n then some (.v (.ref id ver (off + i.toNat * es))) else none := rfl
/-- A code's way out, and what is done with it. -/
theorem fin_ok {st st' : St} {v v' : AV} {l : List Nat} (h : settle st'.heap st.heap.length false 8 v = some (v', l)) (hl : st.heap.length ≤ st'.low) (ht : st'.heap.take st.heap.length = st.heap) : finish false st v st' = (v', st) := by
  unfold finish
  rw [if_pos ⟨rfl, hl⟩, h, ht]
theorem fin_same {st : St} {v v' : AV} {l : List Nat} {n : Nat} (h : settle st.heap st.heap.length false 8 v = some (v', l)) (hn : st.heap.length ≤ n) : finish false st v { heap := st.heap, low := n } = (v', st) := fin_ok h hn (by simp)
theorem bodyA_fn {E : Env} {raw : Bool} {f : Nat} {fs cs args : List AV} {st : St} {run : AC → Fr → St → Out} {af : AF} (hf : E.fns f = some af) (hn : (fs ++ args ++ cs).length = af.np) {e : Ex} {fr : Fr} {st' : St}
    (hr : run af.body { ts := zipA 0 (fs ++ args ++ cs), bs := [] } { st with low := st.heap.length } = some (e, fr, st')) (he : ∀ i, e ≠ .exit i) {vs : List AV} (hv : resL E fr st' af.res = some vs) :
    bodyA E raw (.fn f fs cs) args st run = some (finish raw st (tupA vs) st') := by
  unfold bodyA
  simp only [hf]
  rw [if_pos hn, hr]
  cases e with
  | exit i => exact absurd rfl (he i)
  | norm => simp only [hv]
  | ret => simp only [hv]
/-- What a function answers, and leaves the heap alone. -/
theorem callF_ok {E : Env} {f : Nat} {fs cs args : List AV} {st : St} {af : AF} (ht : E.tab (.fn f fs cs) args = none) (hf : E.fns f = some af) (hn : (fs ++ args ++ cs).length = af.np) {e : Ex} {fr : Fr} {st' : St}
    (hr : codeE E af.body { ts := zipA 0 (fs ++ args ++ cs), bs := [] } { st with low := st.heap.length } = some (e, fr, st')) (he : ∀ i, e ≠ .exit i) {vs : List AV} (hv : resL E fr st' af.res = some vs)
    {v : AV} {l : List Nat} (hs : settle st'.heap st.heap.length false 8 (tupA vs) = some (v, l)) (hl : st.heap.length ≤ st'.low) (hh : st'.heap.take st.heap.length = st.heap) :
    callE E false (.fn f fs cs) args st = some (v, st) := by
  rw [callE_eq, ht]
  simp only
  rw [bodyA_fn hf hn hr he hv, fin_ok hs hl hh]
/-- Cells that need no settling. -/
theorem mapS_id {f : AV → Option (AV × List Nat)} : ∀ {cs : List AV}, (∀ v ∈ cs, f v = some (v, [])) → mapS f cs = some (cs, [])
  | [], _ => rfl
  | c :: cs, h => by
    simp only [mapS]
    rw [h c (by simp), mapS_id (fun v hv => h v (by simp [hv]))]
    rfl
/-- Values that never need settling, at a depth. -/
def plainA : Nat → AV → Prop
  | 0, v => v.scal = true
  | d + 1, v => match v with
    | .lst _ _ _ cs => ∀ c ∈ cs, plainA d c
    | .agg cs => ∀ c ∈ cs, plainA d c
    | .tup cs => ∀ c ∈ cs, plainA d c
    | .pl cs => ∀ c ∈ cs, plainA d c
    | .fn _ fs cs => (∀ c ∈ fs, plainA d c) ∧ ∀ c ∈ cs, plainA d c
    | .gref _ _ => True
    | v => v.scal = true
theorem settle_plain {h : List AObj} {s : Nat} {refs : Bool} : ∀ {d : Nat} {v : AV}, plainA d v → settle h s refs d v = some (v, [])
  | 0, v, hv => settle_scal hv
  | d + 1, v, hv => by
    cases v <;> first
      | exact settle_scal hv
      | (simp only [plainA] at hv; simp only [settle]; rw [mapS_id (fun c hc => settle_plain (hv c hc))])
      | (simp only [plainA] at hv; simp only [settle]; rw [mapS_id (fun c hc => settle_plain (hv.1 c hc)), mapS_id (fun c hc => settle_plain (hv.2 c hc))]; rfl)
      | rfl
theorem mapS_plain {h : List AObj} {s : Nat} {refs : Bool} {d : Nat} {cs : List AV} (hc : ∀ c ∈ cs, plainA d c) : mapS (settle h s refs d) cs = some (cs, []) := mapS_id fun c hm => settle_plain (hc c hm)
theorem plainA.scal {v : AV} (h : v.scal = true) : ∀ d, plainA d v
  | 0 => h
  | d + 1 => by cases v <;> first | exact h | simp [AV.scal] at h
@[simp] theorem codeE_rfun (E : Env) (x : AX) (ps : List Nat) (asg body : AC) (fr : Fr) (st : St) : codeE E (.rfun x ps asg body) fr st = match rdV fr.ts x with
    | some (.fn f fs cs) => if fr.bs.isEmpty then
        match callE E false (.fn f (fs ++ [.yld st.heap.length]) cs) [] (alloc st (.loop false ps asg body (noLocs fr.ts))) with
        | some (_, st') => match st'.heap[st.heap.length]? with
          | some (.loop false ..) => some (.norm, fr, mods st' st.heap.length .gone)
          | _ => none
        | none => none
      else none
    | _ => none := rfl
/-- What a region comes to, laid open. -/
theorem region_inv {E : Env} {ops : List AO} {ks kb : List Nat} {fr fr' : Fr} {st st' : St} (h : codeE E (.region ops none ks kb []) fr st = some (.norm, fr', st')) :
    ∃ f, opsA E (callE E) ops fr st = some (f, st') ∧ keepT f.ts ks = fr'.ts ∧ keepB f.bs kb = fr'.bs := by
  rw [codeE_region, regionA_none] at h
  split at h
  · rename_i f s1 e
    simp only [pubA] at h
    cases h
    exact ⟨f, e, rfl, rfl⟩
  · cases h
end Go.Proofs.AM

namespace Go.Proofs.AM
open Go

/-- Into which box of the frame's own a slot may point ('none': into none). -/
abbrev Kn := List (Nat × Option Nat)
def lookK (t : Nat) : Kn → Option Nat
  | [] => none
  | (k, v) :: r => if k = t then v else lookK t r
def AX.kn (K : Kn) : AX → Option Nat
  | .t n => lookK n K
  | _ => none
structure InvK (K : Kn) (ts : List (Nat × TV)) : Prop where
  may : ∀ t s, (∃ o, lookT t ts = some (.loc s o)) ∨ (∃ es n k, lookT t ts = some (.lsl s es n k)) → lookK t K = some s
  must : ∀ t s a, lookK t K = some s → lookT t ts ≠ some (.v a)
/-- What a slot may point into, behind an operation; 'none': not told. -/
def kindO (K : Kn) (d : Nat) : AOp → Option (Option Nat)
  | .mov x => some (x.kn K)
  | .pick _ a b => if a.kn K = b.kn K then some (a.kn K) else none
  | .new lc _ => some (if lc then some d else none)
  | .box lc _ => some (if lc then some d else none)
  | .mks lc .. => some (if lc then some d else none)
  | .faddr _ x => some (x.kn K)
  | .aaddr _ _ x _ => some (x.kn K)
  | _ => some none
structure STr where
  slots : List Nat
  objs : Bool
  box : Option Nat
  eff : Bool
def slotsK (K : Kn) : List Nat → List Nat
  | [] => []
  | t :: r => match lookK t K with
    | some s => s :: slotsK K r
    | none => slotsK K r
def objS (K : Kn) : AX → Bool
  | .t n => (lookK n K).isNone
  | .c _ => true
  | .g _ => false
  | .f _ => false
def effS (K : Kn) : AOp → Bool
  | .store _ x _ => (x.kn K).isNone
  | .new lc _ | .box lc _ | .mks lc .. | .bslice lc .. => !lc
  | .mkm | .app .. | .upd .. | .call .. => true
  | _ => false
def boxS (K : Kn) (d : Nat) : AOp → Option Nat
  | .new true _ | .box true _ | .mks true .. => some d
  | .store _ x _ => x.kn K
  | _ => none
def trS (K : Kn) (o : AO) : STr :=
  { slots := slotsK K o.op.uses
    objs := (match o.op with | .load _ _ x => objS K x | .look _ _ _ m _ => objS K m | _ => false)
    box := boxS K (o.dst.getD 0) o.op
    eff := effS K o.op }
def putK (d : Option Nat) (k : Option Nat) (K : Kn) : Kn :=
  match d with
  | some d => (d, k) :: K
  | none => K
def opsS : Kn → List AO → Option (List STr)
  | _, [] => some []
  | K, o :: os => match kindO K (o.dst.getD 0) o.op with
    | some k => match opsS (putK o.dst k K) os with
      | some l => some (trS K o :: l)
      | none => none
    | none => none
def pairS (a b : AO) (ta tb : STr) : Bool :=
  (match a.dst with | some d => !b.uses.contains d && b.dst != some d | none => true) &&
  (match b.dst with | some d => !a.uses.contains d | none => true) &&
  !(ta.eff && tb.eff) &&
  (tb.slots.all fun s => ta.box != some s) && !(tb.objs && ta.eff) &&
  (ta.slots.all fun s => tb.box != some s) && !(ta.objs && tb.eff)
def pairsS (bf : List Nat) (a : AO) (ta : STr) (i : Nat) : Nat → List AO → List STr → Bool
  | j, b :: os, tb :: ts => (ordB bf i j || pairS a b ta tb) && pairsS bf a ta i (j + 1) os ts
  | _, _, _ => true
def allS (bf : List Nat) : Nat → List AO → List STr → Bool
  | i, a :: os, ta :: ts => pairsS bf a ta i (i + 1) os ts && allS bf (i + 1) os ts
  | _, _, _ => true
/-- The look: 'LB': the slots that hold a box of their own when the region begins. -/
def stOk (LB : List Nat) (ops : List AO) (af : List (List Nat)) : Bool :=
  match opsS (LB.map fun s => (s, some s)) ops with
  | some l => allS (befores af) 0 ops l
  | none => false
def locsOk (LB : List Nat) : List (Nat × TV) → Bool
  | [] => true
  | (k, v) :: r => (match v with
    | .loc s _ => k == s && LB.contains s
    | .lsl s _ _ _ => k == s && LB.contains s
    | .v _ => !LB.contains k
    | _ => true) && locsOk LB r
def opsL (E : Env) (inv : Inv) : List AO → Fr → St → Option (Fr × St)
  | [], fr, st => some (fr, st)
  | o :: os, fr, st => match stepO E inv o fr { st with low := st.heap.length } with
    | some (fr', st') => opsL E inv os fr' { st' with low := min st.low st'.low }
    | none => none

/-! ### It suffices -/
structure Ov (s : STr) (t : Tr) : Prop where
  acc : ∀ m ∈ t.acc, (∃ x, m = .slot x ∧ x ∈ s.slots) ∨ (∃ id, m = .obj id ∧ s.objs = true)
  box : ∀ x, t.box = some x → s.box = some x
  eff : t.eff.isSome = true → s.eff = true
theorem hits_not {a : STr} {ta : Tr} (h : Ov a ta) {slots : List Nat} {objs : Bool} (h1 : (slots.all fun s => a.box != some s) = true) (h2 : (objs && a.eff) = false) {m : Mem} (hm : (∃ x, m = .slot x ∧ x ∈ slots) ∨ (∃ id, m = .obj id ∧ objs = true)) : hits ta m = false := by
  rcases hm with ⟨x, rfl, hx⟩ | ⟨id, rfl, ho⟩
  · have := List.all_eq_true.1 h1 x hx
    simp only [bne_iff_ne, ne_eq] at this
    simp only [hits]
    cases e : ta.box == some x with
    | false => rfl
    | true => exact absurd (h.box x (by simpa using e)) this
  · simp only [hits]
    cases e : ta.eff with
    | none => rfl
    | some i =>
      have := h.eff (by rw [e]; rfl)
      rw [ho, this] at h2
      cases h2
theorem pairS_ok {a b : AO} {sa sb : STr} {ta tb : Tr} (ha : Ov sa ta) (hb : Ov sb tb) (h : pairS a b sa sb = true) : pairOk a b ta tb = true := by
  simp only [pairS, Bool.and_eq_true, Bool.not_eq_true'] at h
  obtain ⟨⟨⟨⟨⟨⟨h1, h2⟩, h3⟩, h4⟩, h5⟩, h6⟩, h7⟩ := h
  simp only [pairOk, Bool.and_eq_true, Bool.not_eq_true']
  refine ⟨⟨⟨⟨h1, h2⟩, ?_⟩, ?_⟩, ?_⟩
  · cases e : ta.eff.isSome with
    | false => rfl
    | true =>
      cases e2 : tb.eff.isSome with
      | false => rfl
      | true => rw [ha.eff e, hb.eff e2] at h3; cases h3
  · exact List.all_eq_true.2 fun m hm => by simp only [Bool.not_eq_true']; exact hits_not ha h4 h5 (hb.acc m hm)
  · exact List.all_eq_true.2 fun m hm => by simp only [Bool.not_eq_true']; exact hits_not hb h6 h7 (ha.acc m hm)
inductive Ovs : List STr → List Tr → Prop
  | nil : Ovs [] []
  | cons {s : STr} {t : Tr} {ss : List STr} {ts : List Tr} : Ov s t → Ovs ss ts → Ovs (s :: ss) (t :: ts)
theorem pairsS_ok {bf : List Nat} {a : AO} {sa : STr} {ta : Tr} (ha : Ov sa ta) {i : Nat} : ∀ {os : List AO} {j : Nat} {ss : List STr} {ts : List Tr}, Ovs ss ts → pairsS bf a sa i j os ss = true → pairsFrom bf a ta i j os ts = true
  | [], _, _, _, _, _ => by simp [pairsFrom]
  | o :: os, j, _, _, .nil, _ => by simp [pairsFrom]
  | o :: os, j, _, _, .cons h hs, hp => by
    simp only [pairsS, Bool.and_eq_true, Bool.or_eq_true] at hp
    simp only [pairsFrom, Bool.and_eq_true, Bool.or_eq_true]
    exact ⟨hp.1.imp id (pairS_ok ha h), pairsS_ok ha hs hp.2⟩
theorem allS_ok {bf : List Nat} : ∀ {os : List AO} {i : Nat} {ss : List STr} {ts : List Tr}, Ovs ss ts → allS bf i os ss = true → allPairs bf i os ts = true
  | [], _, _, _, _, _ => by simp [allPairs]
  | o :: os, j, _, _, .nil, _ => by simp [allPairs]
  | o :: os, j, _, _, .cons h hs, hp => by
    simp only [allS, Bool.and_eq_true] at hp
    simp only [allPairs, Bool.and_eq_true]
    exact ⟨pairsS_ok h hs hp.1, allS_ok hs hp.2⟩
theorem InvK.boxes {K : Kn} {ts : List (Nat × TV)} (h : InvK K ts) : ∀ (l : List Nat) (m : Mem), m ∈ boxesOf ts l → ∃ x, m = .slot x ∧ x ∈ slotsK K l
  | [], m, hm => by simp [boxesOf] at hm
  | t :: r, m, hm => by
    have ih := InvK.boxes h r m
    simp only [boxesOf] at hm
    simp only [slotsK]
    split at hm
    · rename_i s o e
      have hk := h.may t s (.inl ⟨o, e⟩)
      rw [hk]
      rcases List.mem_cons.1 hm with rfl | hm
      · exact ⟨s, rfl, by simp⟩
      · obtain ⟨x, h1, h2⟩ := ih hm
        exact ⟨x, h1, by simp [h2]⟩
    · rename_i s es n k e
      have hk := h.may t s (.inr ⟨es, n, k, e⟩)
      rw [hk]
      rcases List.mem_cons.1 hm with rfl | hm
      · exact ⟨s, rfl, by simp⟩
      · obtain ⟨x, h1, h2⟩ := ih hm
        exact ⟨x, h1, by simp [h2]⟩
    · obtain ⟨x, h1, h2⟩ := ih hm
      refine ⟨x, h1, ?_⟩
      split
      · simp [h2]
      · exact h2
theorem objS_ok {K : Kn} {ts : List (Nat × TV)} (h : InvK K ts) {x : AX} {m : Mem} (hm : m ∈ objOf (rdT ts x)) : (∃ id, m = .obj id) ∧ objS K x = true := by
  cases x with
  | t n =>
    simp only [rdT] at hm
    cases e : lookT n ts with
    | none => rw [e] at hm; simp [noNo, objOf] at hm
    | some v =>
      rw [e] at hm
      cases v with
      | v a =>
        have hk : lookK n K = none := by
          cases hk : lookK n K with
          | none => rfl
          | some s => exact absurd e (h.must n s a hk)
        refine ⟨?_, by simp [objS, hk]⟩
        cases a <;> simp [noNo, objOf] at hm
        · exact ⟨_, hm⟩
        · exact ⟨_, hm⟩
      | _ => simp [noNo, objOf] at hm
  | c v =>
    simp only [rdT] at hm
    refine ⟨?_, rfl⟩
    cases v <;> simp [objOf] at hm
    · exact ⟨_, hm⟩
    · exact ⟨_, hm⟩
  | g n => simp [rdT, objOf] at hm
  | f n => simp [rdT, objOf] at hm
theorem kn_loc {K : Kn} {ts : List (Nat × TV)} (h : InvK K ts) {x : AX} {s o : Nat} (e : rdT ts x = some (.loc s o)) : x.kn K = some s := by
  cases x with
  | t n =>
    simp only [rdT] at e
    cases e2 : lookT n ts with
    | none => rw [e2] at e; simp [noNo] at e
    | some v =>
      rw [e2] at e
      cases v <;> simp [noNo] at e
      obtain ⟨rfl, rfl⟩ := e
      exact h.may n _ (.inl ⟨_, e2⟩)
  | c v => simp [rdT] at e
  | g n => simp [rdT] at e
  | f n => simp [rdT] at e
theorem kn_lsl {K : Kn} {ts : List (Nat × TV)} (h : InvK K ts) {x : AX} {s es n k : Nat} (e : rdT ts x = some (.lsl s es n k)) : x.kn K = some s := by
  cases x with
  | t m =>
    simp only [rdT] at e
    cases e2 : lookT m ts with
    | none => rw [e2] at e; simp [noNo] at e
    | some v =>
      rw [e2] at e
      cases v <;> simp [noNo] at e
      obtain ⟨rfl, rfl, rfl, rfl⟩ := e
      exact h.may m _ (.inr ⟨_, _, _, e2⟩)
  | c v => simp [rdT] at e
  | g n => simp [rdT] at e
  | f n => simp [rdT] at e
theorem kn_v {K : Kn} {ts : List (Nat × TV)} (h : InvK K ts) {x : AX} {a : AV} (e : rdT ts x = some (.v a)) : x.kn K = none := by
  cases x with
  | t n =>
    simp only [rdT] at e
    cases e2 : lookT n ts with
    | none => rw [e2] at e; simp [noNo] at e
    | some v =>
      rw [e2] at e
      cases v <;> simp [noNo] at e
      subst e
      cases hk : lookK n K with
      | none => exact hk
      | some s => exact absurd e2 (h.must n s _ hk)
  | c v => rfl
  | g n => rfl
  | f n => rfl
theorem ev_kind {E : Env} {inv : Inv} {K : Kn} {d : Nat} {ts : List (Nat × TV)} {bs bs' : Bxs} {st st' : St} {op : AOp} {t : TV} (hK : InvK K ts) (h : ev E inv d ts bs st op = some (t, bs', st')) {k : Option Nat} (hk : kindO K d op = some k) :
    (∀ s, (∃ o, t = .loc s o) ∨ (∃ es n q, t = .lsl s es n q) → k = some s) ∧ ∀ s a, k = some s → t ≠ .v a := by
  have gen : ∀ r : AV, k = none → t = .v r → (∀ s, (∃ o, t = .loc s o) ∨ (∃ es n q, t = .lsl s es n q) → k = some s) ∧ ∀ s a, k = some s → t ≠ .v a := by
    intro r hn ht
    subst hn ht
    exact ⟨fun s hs => (by rcases hs with ⟨_, e⟩ | ⟨_, _, _, e⟩ <;> cases e), fun s a e => by cases e⟩
  have rdk : ∀ x : AX, rdT ts x = some t → k = x.kn K → (∀ s, (∃ o, t = .loc s o) ∨ (∃ es n q, t = .lsl s es n q) → k = some s) ∧ ∀ s a, k = some s → t ≠ .v a := by
    intro x hx hkx
    refine ⟨fun s hs => ?_, fun s a e ht => ?_⟩
    · rcases hs with ⟨o, e⟩ | ⟨es, n, q, e⟩
      · subst e; rw [hkx]; exact kn_loc hK hx
      · subst e; rw [hkx]; exact kn_lsl hK hx
    · subst ht
      rw [hkx, kn_v hK hx] at e
      cases e
  have adk : ∀ (x : AX) (p : TV) (off : Nat), rdT ts x = some p → addP off p = some t → k = x.kn K → (∀ s, (∃ o, t = .loc s o) ∨ (∃ es n q, t = .lsl s es n q) → k = some s) ∧ ∀ s a, k = some s → t ≠ .v a := by
    intro x p off hx ha hkx
    cases p with
    | loc s o =>
      simp only [addP, Option.some.injEq] at ha
      subst ha
      have := kn_loc hK hx
      refine ⟨fun s' hs => ?_, fun _ _ _ e => by cases e⟩
      rcases hs with ⟨o', e⟩ | ⟨es, n, q, e⟩
      · cases e; rw [hkx]; exact this
      · cases e
    | v a =>
      have hn := kn_v hK hx
      cases a <;> simp only [addP, Option.some.injEq] at ha <;> first | (exact gen _ (by rw [hkx, hn]) ha.symm) | cases ha
    | lsl s es n q => simp [addP] at ha
    | und => simp [addP] at ha
    | no => simp [addP] at ha
  have nbk : ∀ (lc : Bool) (cs : List AV), newBox lc d cs bs st = (t, bs', st') → k = (if lc then some d else none) → (∀ s, (∃ o, t = .loc s o) ∨ (∃ es n q, t = .lsl s es n q) → k = some s) ∧ ∀ s a, k = some s → t ≠ .v a := by
    intro lc cs hn hkx
    cases lc with
    | true =>
      simp only [newBox, if_true, Prod.mk.injEq] at hn
      obtain ⟨rfl, _⟩ := hn
      refine ⟨fun s' hs => ?_, fun _ _ _ e => by cases e⟩
      rcases hs with ⟨o', e⟩ | ⟨es, n, q, e⟩
      · cases e; exact hkx
      · cases e
    | false =>
      simp only [newBox, Bool.false_eq_true, if_false, Prod.mk.injEq] at hn
      exact gen _ (by simpa using hkx) hn.1.symm
  cases op <;> simp only [kindO, Option.some.injEq] at hk <;> simp only [ev] at h
  case mov x =>
    split at h
    · rename_i e
      cases h
      exact rdk x e hk.symm
    · cases h
  case pick c a b =>
    split at hk
    · rename_i hab
      simp only [Option.some.injEq] at hk
      split at h
      · rename_i q _
        split at h
        · rename_i ea
          split at h
          · rename_i eb
            simp only [Option.some.injEq, Prod.mk.injEq] at h
            obtain ⟨ht, _⟩ := h
            cases q with
            | true => simp only [if_true] at ht; subst ht; exact rdk a ea hk.symm
            | false => simp only [Bool.false_eq_true, if_false] at ht; subst ht; exact rdk b eb (by rw [← hk, hab])
          · cases h
        · cases h
      · cases h
    · cases hk
  case new lc z =>
    simp only [Option.some.injEq] at h
    exact nbk lc z h hk.symm
  case box lc x =>
    split at h
    · split at h
      · simp only [Option.some.injEq] at h
        exact nbk lc _ h hk.symm
      · cases h
    · cases h
  case faddr off x =>
    split at h
    · rename_i e
      split at h
      · rename_i e2
        cases h
        exact adk x _ off e e2 hk.symm
      · cases h
    · cases h
  case aaddr es len x j =>
    split at h
    · rename_i e
      split at h
      · split at h
        · split at h
          · rename_i e2
            cases h
            exact adk x _ _ e e2 hk.symm
          · cases h
        · cases h
      · cases h
    · cases h
  case mks lc es bytes z l c =>
    split at h
    · split at h
      · split at h
        · split at h
          · rename_i hlc
            subst hlc
            cases h
            refine ⟨fun s' hs => ?_, fun _ _ _ e => by cases e⟩
            rcases hs with ⟨o', e⟩ | ⟨es, n, q, e⟩
            · cases e
            · cases e; exact hk.symm
          · rename_i hlc
            cases h
            exact gen _ (by simpa [hlc] using hk.symm) rfl
        · cases h
      · cases h
    · cases h
  case iaddr es x j =>
    split at h
    · split at h
      · split at h
        · rename_i e
          cases h
          unfold iaddrA at e
          split at e
          · split at e
            · cases e; exact gen _ hk.symm rfl
            · cases e
          · split at e
            · cases e; exact gen _ hk.symm rfl
            · cases e
          · cases e
        · cases h
      · cases h
    · cases h
  case store n x y =>
    repeat' split at h
    all_goals first
      | cases h; done
      | (cases h; exact ⟨fun s hs => (by rcases hs with ⟨_, e⟩ | ⟨_, _, _, e⟩ <;> cases e), fun s a _ e => by cases e⟩)
  all_goals
    repeat' split at h
    all_goals first
      | cases h; done
      | (cases h; exact gen _ hk.symm rfl)
      | (cases h; exact ⟨fun s hs => (by rcases hs with ⟨_, e⟩ | ⟨_, _, _, e⟩ <;> cases e), fun s a _ e => by cases e⟩)
theorem ev_eff {E : Env} {inv : Inv} {K : Kn} {d : Nat} {ts : List (Nat × TV)} {bs bs' : Bxs} {st st' : St} {op : AOp} {t : TV} (hK : InvK K ts) (h : ev E inv d ts bs st op = some (t, bs', st')) (he : heffOf op ts = true) : effS K op = true := by
  cases op <;> simp only [heffOf, effS] at he ⊢ <;> first | exact he | trivial | skip
  case store n x y =>
    cases hk : x.kn K with
    | none => rfl
    | some s =>
      exfalso
      simp only [ev] at h
      split at h
      · rename_i p e
        cases p with
        | v a => rw [kn_v hK e] at hk; cases hk
        | loc s o => rw [e] at he; simp at he
        | _ =>
          split at h
          · split at h
            · rename_i e2
              simp only [storeA] at e2
              split at e2
              · split at e2 <;> cases e2
              · cases e2
            · cases h
          · cases h
      · cases h
theorem ev_box {K : Kn} {d : Nat} {ts : List (Nat × TV)} {op : AOp} (hK : InvK K ts) {s : Nat} (h : boxOf op d ts = some s) : boxS K d op = some s := by
  unfold boxOf at h
  split at h
  · exact h
  · exact h
  · exact h
  · rename_i n x y
    split at h
    · rename_i e
      cases h
      exact kn_loc hK e
    · cases h
  · cases h
theorem trOf_ok {E : Env} {inv : Inv} {K : Kn} {o : AO} {fr fr' : Fr} {st st0 st' st1 : St} (hK : InvK K fr.ts) (h : stepO E inv o fr st0 = some (fr', st1)) : Ov (trS K o) (trOf o fr.ts st st') := by
  unfold trOf
  split
  · rename_i hw
    unfold stepO at h
    rw [hw] at h
    simp only at h
    split at h
    · rename_i e
      refine ⟨fun m hm => ?_, fun x hx => ev_box hK hx, fun he => ?_⟩
      · simp only [accOf, List.mem_append] at hm
        rcases hm with hm | hm
        · exact .inl (hK.boxes _ m hm)
        · refine .inr ?_
          simp only [trS]
          split at hm
          · rename_i e3
            obtain ⟨⟨id, rfl⟩, h2⟩ := objS_ok hK hm
            exact ⟨id, rfl, by rw [e3]; exact h2⟩
          · rename_i e3
            obtain ⟨⟨id, rfl⟩, h2⟩ := objS_ok hK hm
            exact ⟨id, rfl, by rw [e3]; exact h2⟩
          · simp at hm
      · simp only [trS]
        refine ev_eff hK e ?_
        cases hh : heffOf o.op fr.ts with
        | true => rfl
        | false => simp [hh] at he
    · cases h
  · exact ⟨fun m hm => by simp at hm, fun x hx => by simp at hx, fun he => by simp at he⟩
theorem InvK.drop {K : Kn} {ts : List (Nat × TV)} (h : InvK K ts) (s : Nat) : InvK K (dropLoc s ts) := by
  refine ⟨fun t s' ht => ?_, fun t s' a hk e => ?_⟩
  · rw [lookT_dropLoc] at ht
    cases e : lookT t ts with
    | none => rw [e] at ht; simp at ht
    | some v =>
      rw [e] at ht
      cases v with
      | loc s2 o2 =>
        simp only [Option.map_some, TV.dl] at ht
        split at ht
        · simp at ht
        · simp only [Option.some.injEq, TV.loc.injEq, reduceCtorEq, exists_false, or_false] at ht
          obtain ⟨o, rfl, rfl⟩ := ht
          exact h.may t _ (.inl ⟨_, e⟩)
      | lsl s2 es2 n2 k2 =>
        simp only [Option.map_some, TV.dl] at ht
        split at ht
        · simp at ht
        · simp only [Option.some.injEq, TV.lsl.injEq, reduceCtorEq, exists_false, false_or] at ht
          obtain ⟨es, n, k, rfl, rfl, rfl, rfl⟩ := ht
          exact h.may t _ (.inr ⟨_, _, _, e⟩)
      | _ => simp [TV.dl] at ht
  · rw [lookT_dropLoc] at e
    cases e2 : lookT t ts with
    | none => rw [e2] at e; simp at e
    | some v =>
      rw [e2] at e
      cases v with
      | v b => exact h.must t s' b hk e2
      | loc s2 o2 => simp only [Option.map_some, TV.dl] at e; split at e <;> simp at e
      | lsl s2 es2 n2 k2 => simp only [Option.map_some, TV.dl] at e; split at e <;> simp at e
      | _ => simp [TV.dl] at e
theorem InvK.re {K : Kn} {ts : List (Nat × TV)} (h : InvK K ts) (o : AOp) (d : Nat) : InvK K (reLoc o d ts) := by
  unfold reLoc
  split <;> first | exact h.drop d | exact h
theorem InvK.put {K : Kn} {ts : List (Nat × TV)} (h : InvK K ts) {d : Option Nat} {t : TV} {k : Option Nat} (h1 : ∀ s, (∃ o, t = .loc s o) ∨ (∃ es n q, t = .lsl s es n q) → k = some s) (h2 : ∀ s a, k = some s → t ≠ .v a) : InvK (putK d k K) (putD d t ts) := by
  cases d with
  | none => exact h
  | some d =>
    refine ⟨fun x s hx => ?_, fun x s a hk e => ?_⟩
    · simp only [putD, lookT] at hx
      simp only [putK, lookK]
      split
      · rename_i hd
        rw [if_pos hd] at hx
        simp only [Option.some.injEq] at hx
        exact h1 s hx
      · rename_i hd
        rw [if_neg hd] at hx
        exact h.may x s hx
    · simp only [putD, lookT] at e
      simp only [putK, lookK] at hk
      split at hk
      · rename_i hd
        rw [if_pos hd] at e
        simp only [Option.some.injEq] at e
        exact h2 s a hk e
      · rename_i hd
        rw [if_neg hd] at e
        exact h.must x s a hk e
theorem InvK.step {E : Env} {inv : Inv} {K : Kn} {o : AO} {fr fr' : Fr} {st st' : St} (hK : InvK K fr.ts) {k : Option Nat} (hk : kindO K (o.dst.getD 0) o.op = some k) (h : stepO E inv o fr st = some (fr', st')) : InvK (putK o.dst k K) fr'.ts := by
  unfold stepO at h
  split at h
  · split at h
    · rename_i e
      cases h
      obtain ⟨h1, h2⟩ := ev_kind hK e hk
      exact (hK.re o.op _).put h1 h2
    · cases h
  · cases h
    exact hK.put (fun s hs => by rcases hs with ⟨_, e⟩ | ⟨_, _, _, e⟩ <;> cases e) (fun s a _ e => by cases e)
  · cases h
theorem opsT_ok {E : Env} {inv : Inv} : ∀ {os : List AO} {K : Kn} {fr : Fr} {st : St} {ss : List STr}, opsS K os = some ss → InvK K fr.ts → (∃ l fr' st', opsT E inv os fr st = some (l, fr', st') ∧ Ovs ss l ∧ opsL E inv os fr st = some (fr', st')) ∨ (opsT E inv os fr st = none ∧ opsL E inv os fr st = none)
  | [], K, fr, st, ss, hs, _ => by
    simp only [opsS, Option.some.injEq] at hs
    subst hs
    exact .inl ⟨[], fr, st, rfl, .nil, rfl⟩
  | o :: os, K, fr, st, ss, hs, hK => by
    simp only [opsS] at hs
    split at hs
    · rename_i k hk
      split at hs
      · rename_i l hl
        cases hs
        simp only [opsT, opsL]
        cases e : stepO E inv o fr { st with low := st.heap.length } with
        | none => exact .inr ⟨rfl, rfl⟩
        | some r =>
          obtain ⟨fr1, st1⟩ := r
          simp only
          rcases opsT_ok (st := { st1 with low := min st.low st1.low }) hl (hK.step hk e) with ⟨l', fr', st', h1, h2, h3⟩ | ⟨h1, h2⟩
          · rw [h1, h3]
            exact .inl ⟨_, _, _, rfl, .cons (trOf_ok hK e) h2, rfl⟩
          · rw [h1, h2]
            exact .inr ⟨rfl, rfl⟩
      · cases hs
    · cases hs
theorem lookK_map {LB : List Nat} {t : Nat} : lookK t (LB.map fun s => (s, some s)) = if LB.contains t then some t else none := by
  induction LB with
  | nil => rfl
  | cons a l ih =>
    simp only [List.map_cons, lookK, ih, List.contains_cons]
    by_cases h : a = t
    · subst h; simp
    · have : (t == a) = false := by simpa using fun e => h e.symm
      simp [h, this]
theorem locsOk_get {LB : List Nat} : ∀ {ts : List (Nat × TV)}, locsOk LB ts = true → ∀ {t : Nat} {v : TV}, lookT t ts = some v → (match v with
    | .loc s _ => t == s && LB.contains s
    | .lsl s _ _ _ => t == s && LB.contains s
    | .v _ => !LB.contains t
    | _ => true) = true
  | [], _, t, v, hv => by simp [lookT] at hv
  | (k, w) :: r, h, t, v, hv => by
    simp only [locsOk, Bool.and_eq_true] at h
    simp only [lookT] at hv
    split at hv
    · rename_i hk
      cases hv
      subst hk
      exact h.1
    · exact locsOk_get h.2 hv
/-- **The look suffices.** -/
theorem regionA_st {LB : List Nat} {ops : List AO} {af : List (List Nat)} (hst : stOk LB ops af = true) {E : Env} {inv : Inv} {fr : Fr} {st : St} (hl : locsOk LB fr.ts = true) : regionA E inv ops (some af) fr st = opsL E inv ops fr st := by
  unfold stOk at hst
  split at hst
  · rename_i ss hs
    have hK : InvK (LB.map fun s => (s, some s)) fr.ts := by
      refine ⟨fun t s ht => ?_, fun t s a hk e => ?_⟩
      · rw [lookK_map]
        rcases ht with ⟨o, e⟩ | ⟨es, n, k, e⟩
        · have := locsOk_get hl e
          simp only [Bool.and_eq_true, beq_iff_eq] at this
          rw [this.1, if_pos this.2]
        · have := locsOk_get hl e
          simp only [Bool.and_eq_true, beq_iff_eq] at this
          rw [this.1, if_pos this.2]
      · have := locsOk_get hl e
        rw [lookK_map] at hk
        simp only [Bool.not_eq_true'] at this
        rw [this] at hk
        simp at hk
    unfold regionA
    simp only
    rcases opsT_ok (E := E) (inv := inv) (st := st) hs hK with ⟨l, fr', st', h1, h2, h3⟩ | ⟨h1, h2⟩
    · rw [h1, h3]
      simp only
      rw [if_pos (allS_ok h2 hst)]
    · rw [h1, h2]
  · cases hst
attribute [simp] opsL locsOk
end Go.Proofs.AM
