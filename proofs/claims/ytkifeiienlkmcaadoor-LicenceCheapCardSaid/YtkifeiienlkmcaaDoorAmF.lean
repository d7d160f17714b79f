/-
  Code.
-/
import Derived.Test.YtkifeiienlkmcaaDoorAmE
import Derived.LoopNIn
set_option linter.all false
namespace Go.Proofs.AM
open Go

/-! ### A scope, in a fence -/
def NoGoto (Q : Exit → Act → World → Prop) : Exit → Act → World → Prop
  | .goto _, _, _ => False
  | e, a, w => Q e a w
section
variable {P : Program} {b : Frame} {a : Act} {k : List Item} {cs : List Frame} {w : World} {Q : Exit → Act → World → Prop} {F : Fence} {n : Nat}
theorem stepR_scope {c : Code} : step P (lone (b.atR a (.code (.scope c) :: k)) cs w) = .next (lone (b.atR a (.code c :: .inScope c :: k)) cs w) :=
  step_lone_go (by simp [stepG, stepG.exec, Frame.atR])
theorem stepR_inScope {c : Code} : step P (lone (b.atR a (.inScope c :: k)) cs w) = .next (lone (b.atR a k) cs w) :=
  step_lone_go (by simp [stepG, stepG.exec, Frame.atR])
theorem wpIn_scope {c : Code} (h : c.wpIn F n P (NoGoto Q) a w) : (Code.scope c).wpIn F n P Q a w := by
  intro b k cs hro hb hr
  have h0 : (lone (b.atR a (.code (.scope c) :: k)) cs w).fenced P F := fenced_calm hb hr rfl
  obtain ⟨e, a₁, w₁, hq, harr⟩ := h b (.inScope c :: k) cs hro hb hr
  cases e with
  | normal => exact ⟨.normal, a₁, w₁, hq, .head h0 stepR_scope (StepsIn.trans harr (.one (fenced_calm hb hr rfl) stepR_inScope))⟩
  | exit id =>
    have hx : exitTo id (.inScope c :: k) = exitTo id k := by simp [exitTo]
    exact ⟨_, a₁, w₁, hq, fun k' hk => .head h0 stepR_scope (harr.1 k' (by rw [hx]; exact hk)),
      fun hr' hk => let ⟨k₁, h1, h2⟩ := harr.2 hr' (by rw [hx]; exact hk); ⟨k₁, h1, .head h0 stepR_scope h2⟩⟩
  | goto l => exact hq.elim
  | ret => exact ⟨_, a₁, w₁, hq, .of_steps (.one h0 stepR_scope) harr⟩
  | panic ch => exact ⟨_, a₁, w₁, hq, .of_steps (.one h0 stepR_scope) harr⟩
  | outgrown => exact ⟨_, a₁, w₁, hq, .of_steps (.one h0 stepR_scope) harr⟩
end

/-! ### The loop's record -/
def mark (r : Nat) : Deferred := { target := .collected r, args := #[] }
def marks (mk : List Nat) : List Deferred := mk.map mark
section
variable {P : Program} {E : Env} {inv : Inv} {c0 : Cf} {st0 : St} {w0 : World} {mk : List Nat} {c : Cf} {st : St} {w : World} {lam : Nat → Nat} {bs : Bxs} {F : Fence} {n : Nat}
/-- Behind a stretch of code: with whatever marks. -/
def Kf (P : Program) (E : Env) (c0 : Cf) (st0 : St) (w0 : World) (nt : Nat) (fr : Fr) (st : St) (a : Act) (w : World) : Prop := ∃ mk, mk.Nodup ∧ Kd P E c0 st0 w0 mk nt (marks mk) fr st a w
theorem SR.mark (hs : SR P E c0 st0 w0 mk c st w lam bs) {r : Nat} (h1 : w.heap[r]? = some (.deferred (some []))) (h2 : w0.heap.size ≤ r) (h3 : ¬ c.fz r) (h4 : ¬ Owned c st r) (h5 : ∀ s cs, lookB s bs = some cs → lam s ≠ r) : SR P E c0 st0 w0 (r :: mk) c st w lam bs :=
  { hr := hs.hr, gd := hs.gd, bx := hs.bx, bd := hs.bd, md := fun q hq => by
      rcases List.mem_cons.1 hq with rfl | hq
      · exact ⟨h1, h2, h3, h4, h5⟩
      · exact hs.md q hq }
theorem gone_ok {w' : World} {id b k ver : Nat} (hs : SR P E c0 st0 w0 mk c st w lam bs) (hw : own st id ver) (hb : c.bt id ver = some (b, k)) (hx : ∀ x, x ≠ b → w'.heap[x]? = w.heap[x]?) (hsz : w'.heap.size = w.heap.size) (hos : w'.os = w.os) (htape : w'.tape = w.tape) (hout : w'.output = w.output) :
    SR P E c0 st0 w0 mk c (mods st id .gone) w' lam bs ∧ Stp c st w lam bs c (mods st id .gone) w' := by
  have hOb : Owned c st b := ⟨id, ver, k, hw, hb⟩
  have hid : id < st.heap.length := hs.hr.dom _ _ _ hb
  have hself : (mods st id .gone).heap[id]? = some .gone := by simp [mods, hid]
  have hoth : ∀ i, i ≠ id → (mods st id .gone).heap[i]? = st.heap[i]? := fun i hi => by simp only [mods]; rw [List.getElem?_set_ne (Ne.symm hi)]
  have hown : ∀ i v, own (mods st id .gone) i v → i ≠ id ∧ own st i v := by
    intro i v h
    by_cases hi : i = id
    · subst hi
      unfold own at h
      rw [hself] at h
      exact h.elim
    · exact ⟨hi, (own_mods hi).1 h⟩
  have hO : ∀ x, Owned c (mods st id .gone) x → Owned c st x := fun x ⟨i, v, y, ho, hbt⟩ => ⟨i, v, y, (hown i v ho).2, hbt⟩
  have hfr : ∀ x, ¬ Owned c st x → w'.heap[x]? = w.heap[x]? := fun x h2 => hx x (fun e => h2 (e ▸ hOb))
  have g : Stp c st w lam bs c (mods st id .gone) w' := ⟨Cf.le_refl c, fun x _ h2 _ => hfr x h2, fun x h => .inl h, fun x h => .inl (hO x h), by omega, hos, htape, hout⟩
  have hkeep : ∀ x, c.fz x → w'.heap[x]? = w.heap[x]? := hs.keep g
  refine ⟨hs.next g (fun s cs e => let ⟨_, _, _, h4, _⟩ := hs.bx s cs e; hfr _ h4) (fun r hr => let ⟨_, _, _, h4, _⟩ := hs.md r hr; hfr r h4)
    { dom := ?_, lt := ?_, obj := ?_, inj := ?_, fzo := ?_, fzl := ?_, glob := ?_, fut := ?_, tot := ?_ }, g⟩
  · intro i v x h
    simp only [mods, List.length_set]
    exact hs.hr.dom _ _ _ h
  · intro i v x y h
    rw [hsz]; exact hs.hr.lt _ _ _ _ h
  · intro i v x y h
    by_cases hi : i = id
    · subst hi; rw [hself]; trivial
    · rw [hoth i hi]
      refine (hs.hr.obj _ _ _ _ h).mono (Cf.le_refl c) hkeep (fun ho => hx x (fun e => ?_))
      subst e
      exact hi (hs.hr.inj _ _ _ _ _ _ _ ho hw h hb)
  · intro i v i' v' x k1 k2 h1 h2 e1 e2
    exact hs.hr.inj _ _ _ _ _ _ _ (hown _ _ h1).2 (hown _ _ h2).2 e1 e2
  · intro x hf ho
    exact hs.hr.fzo x hf (hO x ho)
  · intro x hf
    rw [hsz]; exact hs.hr.fzl x hf
  · intro gl cs e
    obtain ⟨h1, h2⟩ := hs.hr.glob gl cs e
    exact ⟨h1, h2.mono (Cf.le_refl c) hkeep (hkeep _ h1)⟩
  · intro i v x h u gr cs ho
    by_cases hi : i = id
    · subst hi; rw [hself] at ho; cases ho
    · rw [hoth i hi] at ho
      exact hs.hr.fut _ _ _ h _ _ _ ho
  · intro i v h
    refine hs.hr.tot i v ?_
    by_cases hi : i = id
    · subst hi
      unfold cur at h
      rw [hself] at h
      exact h.elim
    · unfold cur at h ⊢
      rw [hoth i hi] at h
      exact h

/-! ### Regions -/
theorem okOs_get {nt : Nat} {ops : Array Oper} : ∀ {os : List AO} {l : List Oper}, okOs P nt ops os l = true → os.length = l.length ∧ ∀ (i : Nat) (o : AO) (x : Oper), os[i]? = some o → l[i]? = some x → okO P nt ops o x = true
  | [], [], _ => ⟨rfl, fun _ _ _ h => by simp at h⟩
  | [], _ :: _, h => by simp [okOs] at h
  | _ :: _, [], h => by simp [okOs] at h
  | o :: os, x :: l, h => by
    simp only [okOs, Bool.and_eq_true] at h
    obtain ⟨h1, h2⟩ := okOs_get h.2
    refine ⟨by simp [h1], fun i o' x' ho hx => ?_⟩
    cases i with
    | zero => simp at ho hx; subst ho; subst hx; exact h.1
    | succ i => exact h2 i o' x' (by simpa using ho) (by simpa using hx)
theorem okAfter_get : ∀ {af : List (List Nat)} {l : List Oper} {i0 : Nat}, okAfter i0 af l = true → ∀ (i : Nat) (x : Oper), l[i]? = some x → (∀ k ∈ af.getD i [], ∃ e ∈ x.after, e.on = k ∧ Region.binds .any e = true) ∧ ∀ e ∈ x.after, Region.binds .any e = true → e.on < i0 + i
  | [], [], _, _, i, x, h => by simp at h
  | [], _ :: _, _, h, _, _, _ => by simp [okAfter] at h
  | _ :: _, [], _, h, _, _, _ => by simp [okAfter] at h
  | a :: af, o :: l, i0, h, i, x, hx => by
    simp only [okAfter, Bool.and_eq_true] at h
    cases i with
    | zero =>
      simp at hx; subst hx
      refine ⟨fun k hk => ?_, fun e he hb => ?_⟩
      · have := (List.all_eq_true.1 h.1.1) k (by simpa using hk)
        simp only [Array.any_eq_true', Bool.and_eq_true, beq_iff_eq] at this
        obtain ⟨e, he, h1, h2⟩ := this
        exact ⟨e, he, h1, h2⟩
      · have := (Array.all_eq_true'.1 h.1.2) e he
        simp only [hb, Bool.not_true, Bool.false_or, decide_eq_true_eq] at this
        omega
    | succ i =>
      obtain ⟨h1, h2⟩ := okAfter_get h.2 i x (by simpa using hx)
      exact ⟨fun k hk => h1 k (by simpa using hk), fun e he hb => by have := h2 e he hb; omega⟩
theorem pairsFrom_get {bf : List Nat} {a : AO} {ta : Tr} {i : Nat} : ∀ {os : List AO} {ts : List Tr} {j : Nat}, pairsFrom bf a ta i j os ts = true → ∀ k (h : k < os.length) (h' : k < ts.length), ordB bf i (j + k) = true ∨ pairOk a (os[k]'h) ta (ts[k]'h') = true
  | [], _, _, _, k, h, _ => by simp at h
  | _ :: _, [], _, _, k, _, h => by simp at h
  | o :: os, t :: ts, j, hp, k, h, h' => by
    simp only [pairsFrom, Bool.and_eq_true, Bool.or_eq_true] at hp
    cases k with
    | zero => exact hp.1
    | succ k =>
      have := pairsFrom_get hp.2 k (by simpa using h) (by simpa using h')
      rw [show j + 1 + k = j + (k + 1) by omega] at this
      exact this
theorem allPairs_get {bf : List Nat} : ∀ {os : List AO} {ts : List Tr} {i : Nat}, allPairs bf i os ts = true → ∀ p q (hp : p < os.length) (hq : q < os.length) (hp' : p < ts.length) (hq' : q < ts.length), p < q → ordB bf (i + p) (i + q) = true ∨ pairOk (os[p]'hp) (os[q]'hq) (ts[p]'hp') (ts[q]'hq') = true
  | [], _, _, _, p, _, hp, _, _, _, _ => by simp at hp
  | _ :: _, [], _, _, p, _, _, _, hp, _, _ => by simp at hp
  | o :: os, t :: ts, i, h, p, q, hp, hq, hp', hq', hlt => by
    simp only [allPairs, Bool.and_eq_true] at h
    cases q with
    | zero => omega
    | succ q =>
      cases p with
      | zero =>
        have := pairsFrom_get h.1 q (by simpa using hq) (by simpa using hq')
        rw [show i + 1 + q = i + (q + 1) by omega] at this
        exact this
      | succ p =>
        have := allPairs_get h.2 p q (by simpa using hp) (by simpa using hq) (by simpa using hp') (by simpa using hq') (by omega)
        rw [show i + 1 + p = i + (p + 1) by omega, show i + 1 + q = i + (q + 1) by omega] at this
        exact this
theorem region_ok (hmix : P.follows .mixedOrders = true) (hF : Fw F) (hinv : SimInv P E inv) (hks : KSI inv) {nt : Nat} {ops : List AO} {af : Option (List (List Nat))} {ks kb ps : List Nat} {code : Code} (hok : okC P nt (.region ops af ks kb ps) code = true)
    {fr fr1 : Fr} {st1 : St} {ds : List Deferred} {a : Act} (hk : Kd P E c0 st0 w0 mk nt ds fr st a w) (h : regionA E inv ops af fr st = some (fr1, st1)) {Q : Exit → Act → World → Prop} (hQ : ∀ a' w', Kd P E c0 st0 w0 mk nt ds fr1 st1 a' w' → Q .normal a' w') : code.wpIn F n P Q a w := by
  cases code <;> simp [okC] at hok
  rename_i rid os dr
  obtain ⟨⟨hos, hdst⟩, haf⟩ := hok
  have hdst' : ops.all okDst = true := List.all_eq_true.2 hdst
  obtain ⟨hlen, hget⟩ := okOs_get hos
  cases af with
  | none =>
    simp only [Bool.not_eq_true'] at haf
    subst haf
    simp only [regionA] at h
    refine wpIn_region ?_
    have e : List.range os.size = List.range' 0 os.toList.length := by rw [List.range_eq_range']; simp
    rw [e]
    exact opsA_ok hF hinv hos (fun j _ => by simp) hdst' hk h hQ
  | some af =>
    simp only [Bool.and_eq_true, decide_eq_true_eq] at haf
    obtain ⟨⟨rfl, haft⟩, halen⟩ := haf
    simp only [regionA] at h
    split at h
    · rename_i l fr2 st2 e
      split at h
      · rename_i hpairs
        simp only [Option.some.injEq, Prod.mk.injEq] at h
        obtain ⟨rfl, rfl⟩ := h
        refine wpIn_region_any hmix ?_
        have hosz : ops.length = os.size := by rw [hlen]; simp
        have hreg : RegOk P nt os ops af :=
          { len := hosz, alen := by omega, ok := fun i o x h1 h2 => hget i o x h1 (by simpa using h2), dst := hdst'
            edge := fun i x hx => by have := okAfter_get haft i x (by simpa using hx); simpa using this }
        have hl := opsT_len e
        have hm1 : (((List.range ops.length).zip ops).map (·.1)) = List.range ops.length := List.map_fst_zip (by simp)
        have hm2 : (((List.range ops.length).zip ops).map (·.2)) = ops := List.map_snd_zip (by simp)
        rw [← hosz]
        refine anyA_ok hF hinv hks hreg hQ ops.length ((List.range ops.length).zip ops) l _ fr fr2 st a _ (by simp) (by rw [hm1]; exact List.pairwise_lt_range) (fun p hp => ?_) (by simp [hosz]) (fun i hi => ?_) (fun p q hp hq hp' hq' hlt => ?_) (fun i k hi hn => ?_) hk.drew (by rw [hm2]; exact e) (FrEq.refl _)
        · obtain ⟨i, hi, rfl⟩ := List.getElem_of_mem hp
          simp only [List.getElem_zip, List.getElem_range]
          simp at hi
          simp [hi]
        · rw [hm1]
          simp [hosz, hi]
        · have := allPairs_get hpairs p q (by simpa using hp) (by simpa using hq) hp' hq' hlt
          simpa using this
        · rw [hm1] at hn
          exact absurd (List.mem_range.2 (by omega)) hn
      · cases h
    · cases h
end
end Go.Proofs.AM

namespace Go.Proofs.AM
open Go

def ExR : Ex → Exit → Prop
  | .norm, .normal => True
  | .exit i, .exit j => i = j
  | .ret, .ret => True
  | _, _ => False
section
variable {P : Program} {E : Env} {inv : Inv} {c0 : Cf} {st0 : St} {w0 : World} {F : Fence} {n : Nat}
theorem noGoto_of {e : Ex} {Q : Exit → Act → World → Prop} {ex : Exit} {a : Act} {w : World} (h : ExR e ex) (hq : Q ex a w) : NoGoto Q ex a w := by
  cases ex <;> first | exact hq | (cases e <;> exact h.elim)

/-- A range over a function. -/
theorem rfun_ok (hinv : SimInv P E inv) {nt : Nat} {x : AX} {ps : List Nat} {asg body : AC} {code : Code} (hok : okC P nt (.rfun x ps asg body) code = true) {k : Nat} {fr fr' : Fr} {st st' : St} {e : Ex} {a : Act} {w : World} {Q : Exit → Act → World → Prop}
    (hk : Kf P E c0 st0 w0 nt fr st a w) (h : evC E inv k (.rfun x ps asg body) fr st = some (e, fr', st')) (hQ : ∀ ex a' w', ExR e ex → Kf P E c0 st0 w0 nt fr' st' a' w' → Q ex a' w') : code.wpIn Fence.wide n P Q a w := by
  cases code <;> simp [okC] at hok
  rename_i g qs ca cb
  obtain ⟨⟨⟨⟨⟨⟨hx, hps⟩, hoa⟩, hob⟩, hpn⟩, hna⟩, hnb⟩ := hok
  obtain ⟨mk, hnd, c, lam, hs, hts, hn, hds⟩ := hk
  simp only [evC] at h
  split at h
  case h_2 => cases h
  rename_i f fs cs hfv
  split at h
  case isFalse => cases h
  split at h
  case h_2 => cases h
  rename_i r st2 hcall
  split at h
  case h_2 => cases h
  rename_i p2 a2 b2 t2 hob2
  simp only [Option.some.injEq, Prod.mk.injEq] at h
  obtain ⟨rfl, rfl, rfl⟩ := h
  -- the mark's block, the record
  have g1 := Grew.alloc w (.deferred (some []))
  have hs1 := hs.grew g1
  have hs2 : SR P E c0 st0 w0 (w.heap.size :: mk) c st (w.alloc (.deferred (some []))) lam fr.bs :=
    hs1.mark g1.new hs.gd.size (fun h => by have := hs.hr.fzl _ h; omega) (fun ⟨id, ver, k, _, hb⟩ => by have := hs.hr.lt _ _ _ _ hb; omega) (fun s cs e => by have := (hs.bx s cs e).2.1; omega)
  have hk1 : ∀ b, c.fz b → (w.alloc (.deferred (some []))).heap[b]? = w.heap[b]? := fun b hb => g1.old (hs.hr.fzl b hb)
  have hts1 : TS c (w.alloc (.deferred (some []))) lam fr.ts a.tmps := hts.mono (Cf.le_refl c) hk1
  have hsz1 : (w.alloc (.deferred (some []))).heap.size = w.heap.size + 1 := g1.size
  have hndn : (w.heap.size :: mk).Nodup := by
    refine List.nodup_cons.2 ⟨fun hm => ?_, hnd⟩
    have := (Array.getElem?_eq_some_iff.1 (hs.md _ hm).1).1
    omega
  refine wpIn_rangeFunc (fun fn _ => ?_)
  have hent := run_enterLoop_outer (P := P) (w := w) fn a.tmps qs ca cb
  generalize hrec : ({ state := .ready, pending := none, fn, tmps := a.tmps, params := qs, assign := ca, body := cb, defers := w.heap.size } : Loop) = rec at hent
  have r1 : rec.state = .ready := by rw [← hrec]
  have r2 : rec.pending = none := by rw [← hrec]
  have r3 : rec.tmps = a.tmps := by rw [← hrec]
  have r4 : rec.params = qs := by rw [← hrec]
  have r5 : rec.assign = ca := by rw [← hrec]
  have r6 : rec.body = cb := by rw [← hrec]
  generalize hw1 : w.alloc (.deferred (some [])) = w1 at *
  have g2 := Grew.alloc w1 (.loop rec)
  have hle := hs2.hr.le_add w1.heap.size 0
  have hk2 : ∀ b, c.fz b → (w1.alloc (.loop rec)).heap[b]? = w1.heap[b]? := fun b hb => g2.old (hs2.hr.fzl b hb)
  have hts2 : TS (c.add st.heap.length w1.heap.size 0) (w1.alloc (.loop rec)) lam fr.ts a.tmps := hts1.mono hle hk2
  have hs3 : SR P E c0 st0 w0 (w.heap.size :: mk) (c.add st.heap.length w1.heap.size 0) (alloc st (.loop false ps asg body (noLocs fr.ts))) (w1.alloc (.loop rec)) lam fr.bs := by
    refine hs2.obj g2 (fun _ => ⟨rec, g2.new, r1, r2, by rw [r4, hps], by rw [r3, r5, hn]; exact hoa, by rw [r3, r6, hn]; exact hob, hna, hnb, fun p hp => by rw [r3, hn]; exact hpn p hp, fun t v e => ?_⟩) (fun _ h => h)
    rw [lookT_noLocs] at e
    cases e1 : lookT t fr.ts with
    | none => rw [e1] at e; cases e
    | some u =>
      rw [e1] at e
      simp only [Option.map_some, Option.some.injEq] at e
      obtain ⟨y, hy, hr⟩ := hts2 t u e1
      refine ⟨y, by rw [r3]; exact hy, fun lam' => ?_⟩
      subst e
      cases hr with
      | v hr => exact .v hr
      | loc s off => exact .no _
      | lsl s es n k hn hk => exact .no _
      | und => exact .und
      | no => exact .no _
  generalize hw2 : w1.alloc (.loop rec) = w2 at *
  obtain ⟨fs', cs', ef, hfs, hcs⟩ := (rdV_VR hts2 hx hfv).fn_inv
  obtain ⟨fn', h1, h2, h3, hsim⟩ := hinv.fn _ _ _ _ _ _ _ _ hcall
  have hfs2 : VL (c.add st.heap.length w1.heap.size 0) w2 (fs ++ [.yld st.heap.length]) (fs' ++ [.func (.yield (w.heap.size + 1)) #[] #[]]) := by
    refine ⟨by simp [hfs.1], fun j hj => ?_⟩
    by_cases hlt : j < fs.length
    · rw [List.getElem_append_left hlt, getD_left (by rw [hfs.1]; exact hlt)]
      exact hfs.2 j hlt
    · have : j = fs.length := by simp at hj; omega
      subst this
      rw [List.getElem_append_right (Nat.le_refl _), getD_right (by rw [hfs.1]; exact Nat.le_refl _)]
      simp only [Nat.sub_self, List.getElem_cons_zero, hfs.1]
      have := VR.yld (c := c.add st.heap.length w1.heap.size 0) (w := w2) st.heap.length (w.heap.size + 1) 0 (by rw [← hsz1]; exact c.add_new _ _ _)
      simpa using this
  refine ⟨w.heap.size + 1, _, w2, { target := .fn (.func f) cs'.toArray, args := (fs' ++ [Value.func (.yield (w.heap.size + 1)) #[] #[]]).toArray }, w2, f, (fs' ++ [Value.func (.yield (w.heap.size + 1)) #[] #[]] ++ [] ++ cs').toArray, w2, hent, ?_, fun _ _ => trivial, ?_, fun h => (by cases h), ?_⟩
  · have ec : ∀ v, a.eval (.const v) = v := fun _ => rfl
    simp [resolve, Deferred.ofValue, ef, ec]
  · simp [invoke, callFunc, h1, h2, h3]
  · refine ((Fw.calls (F := Fence.wide) (n := n - 1) (.inl rfl) (hsim _ w2 _ cs' [] hs3.hr hfs2 hcs ⟨rfl, by simp⟩)).mono fun e w' he => ?_)
    cases e with
    | panicked _ => exact he.elim
    | outgrown => exact he.elim
    | returned v =>
      obtain ⟨c', hr', g', hv'⟩ := he
      have hs4 := hs3.call g' hr'
      have hb := g'.le.1 _ _ _ (c.add_new st.heap.length w1.heap.size 0)
      have hobj := hr'.obj _ _ _ _ hb
      rw [hob2] at hobj
      obtain ⟨rec2, hh, q1, q2, _⟩ := hobj rfl
      rw [hsz1] at hh hb
      have hwn : own st2 st.heap.length 0 := by unfold own; rw [hob2]
      have hlt2 := hr'.lt _ _ _ _ hb
      have hend := run_endLoop (P := P) hh (by rw [q1]; simp)
      generalize hw4 : w'.putObj (w.heap.size + 1) (.loop { rec2 with state := .exhausted }) = w4 at hend
      have hother : ∀ y, y ≠ w.heap.size + 1 → w4.heap[y]? = w'.heap[y]? := fun y hy => hw4 ▸ World.putObj_heap_other hy
      obtain ⟨hs5, g5⟩ := gone_ok hs4 hwn hb hother (by rw [← hw4]; exact World.putObj_size) (by rw [← hw4]; rfl) (by rw [← hw4]; rfl) (by rw [← hw4]; rfl)
      refine ⟨rec2.pending, w4, hend, ?_⟩
      rw [q2]
      refine hQ .normal _ _ trivial ⟨w.heap.size :: mk, hndn, c', lam, hs5, ?_, hn, ?_⟩
      · exact (hts2.mono g'.le (hs3.hr.keeps g')).mono g5.le (hs4.keep g5)
      · simp only [marks, List.map_cons, hds]
        rfl

theorem code_ok (hmix : P.follows .mixedOrders = true) (hF : Fw F) (hinv : SimInv P E inv) (hks : KSI inv) {nt : Nat} {k : Nat} : ∀ {ac : AC} {code : Code}, okC P nt ac code = true → (F = Fence.wide ∨ noRf ac = true) → ∀ {fr fr' : Fr} {st st' : St} {e : Ex} {a : Act} {w : World} {Q : Exit → Act → World → Prop},
    Kf P E c0 st0 w0 nt fr st a w → evC E inv k ac fr st = some (e, fr', st') → (∀ ex a' w', ExR e ex → Kf P E c0 st0 w0 nt fr' st' a' w' → Q ex a' w') → code.wpIn F n P Q a w := by
  intro ac
  induction ac with
  | skip =>
    intro code hok _ fr fr' st st' e a w Q hk h hQ
    simp only [evC, Option.some.injEq, Prod.mk.injEq] at h
    obtain ⟨rfl, rfl, rfl⟩ := h
    cases code <;> simp [okC] at hok
    · exact wpIn_skip (hQ _ _ _ trivial hk)
    · exact wpIn_label (hQ _ _ _ trivial hk)
  | ret =>
    intro code hok _ fr fr' st st' e a w Q hk h hQ
    simp only [evC, Option.some.injEq, Prod.mk.injEq] at h
    obtain ⟨rfl, rfl, rfl⟩ := h
    cases code <;> simp [okC] at hok
    exact wpIn_ret (hQ _ _ _ trivial hk)
  | exit i =>
    intro code hok _ fr fr' st st' e a w Q hk h hQ
    simp only [evC, Option.some.injEq, Prod.mk.injEq] at h
    obtain ⟨rfl, rfl, rfl⟩ := h
    cases code <;> simp [okC] at hok
    exact wpIn_exit (hQ _ _ _ hok hk)
  | region ops af ks kb ps =>
    intro code hok _ fr fr' st st' e a w Q hk h hQ
    simp only [evC] at h
    split at h
    · rename_i fr1 st1 e1
      split at h
      · rename_i fr2 st2 e2
        simp only [Option.some.injEq, Prod.mk.injEq] at h
        obtain ⟨rfl, rfl, rfl⟩ := h
        obtain ⟨mk, hnd, hk⟩ := hk
        exact region_ok hmix hF hinv hks hok hk e1 (fun a' w' hk' => hQ _ _ _ trivial ⟨mk, hnd, keep_ok ks kb (pubA_ok hk' e2)⟩)
      · cases h
    · cases h
  | seq x y hx hy =>
    intro code hok hnr fr fr' st st' e a w Q hk h hQ
    cases code <;> simp [okC] at hok
    simp only [noRf, Bool.and_eq_true] at hnr
    refine wpIn_seq ?_
    simp only [evC] at h
    split at h
    · rename_i fr1 st1 e1
      refine hx hok.1 (hnr.imp id (·.1)) hk e1 (fun ex a' w' hex hk' => ?_)
      cases ex <;> first | exact hex.elim | skip
      exact hy hok.2 (hnr.imp id (·.2)) hk' h hQ
    · rename_i hne
      refine hx hok.1 (hnr.imp id (·.1)) hk h (fun ex a' w' hex hk' => ?_)
      cases ex with
      | normal => cases e <;> first | exact (hne _ _ rfl).elim | exact hex.elim | (exact absurd h (by intro h'; exact hne _ _ h'))
      | _ => exact hQ _ _ _ hex hk'
  | cond x y z hy hz =>
    intro code hok hnr fr fr' st st' e a w Q hk h hQ
    cases code <;> simp [okC] at hok
    simp only [noRf, Bool.and_eq_true] at hnr
    have hk0 := hk
    obtain ⟨mk, hnd, c, lam, hs, hts, hn, hds⟩ := hk0
    simp only [evC] at h
    split at h
    · rename_i e1
      exact wpIn_cond_true (rdV_bool hts hok.1.1 e1) (hy hok.1.2 (hnr.imp id (·.1)) hk h hQ)
    · rename_i e1
      exact wpIn_cond_false (rdV_bool hts hok.1.1 e1) (hz hok.2 (hnr.imp id (·.2)) hk h hQ)
    · cases h
  | block i b hb =>
    intro code hok hnr fr fr' st st' e a w Q hk h hQ
    cases code <;> simp [okC] at hok
    obtain ⟨rfl, hok⟩ := hok
    simp only [noRf] at hnr
    refine wpIn_block ?_
    simp only [evC] at h
    split at h
    · rename_i i' fr1 st1 e1
      refine hb hok hnr hk e1 (fun ex a' w' hex hk' => ?_)
      cases ex <;> first | exact hex.elim | skip
      have hex : i' = _ := hex
      subst hex
      simp only [Exit.inBlock]
      split at h
      · rename_i he
        simp only [Option.some.injEq, Prod.mk.injEq] at h
        obtain ⟨rfl, rfl, rfl⟩ := h
        rw [if_pos he]
        exact hQ _ _ _ trivial hk'
      · rename_i he
        simp only [Option.some.injEq, Prod.mk.injEq] at h
        obtain ⟨rfl, rfl, rfl⟩ := h
        rw [if_neg he]
        exact hQ _ _ _ rfl hk'
    · rename_i hne
      refine hb hok hnr hk h (fun ex a' w' hex hk' => ?_)
      cases ex with
      | exit j => cases e <;> first | exact hex.elim | exact (hne _ _ _ h).elim
      | _ => exact hQ _ _ _ hex hk'
  | loop ks kb b hb =>
    intro code hok hnr fr fr' st st' e a w Q hk h hQ
    cases code <;> simp [okC] at hok
    rename_i cb
    simp only [noRf] at hnr
    simp only [evC] at h
    refine wpIn_loop_rounds k ?_
    have key : ∀ (j : Nat) (fr : Fr) (st : St) (a : Act) (w : World), Kf P E c0 st0 w0 nt fr st a w → loopN (fun fr st => evC E inv k b { ts := keepT fr.ts ks, bs := keepB fr.bs kb } st) j fr st = some (e, fr', st') → Code.roundsIn F n P cb Q j a w := by
      intro j
      induction j with
      | zero => intro fr st a w _ h; simp [loopN] at h
      | succ j ih =>
        intro fr st a w hk h
        simp only [loopN] at h
        rw [roundsIn_succ]
        obtain ⟨mk, hnd, hk⟩ := hk
        have hk1 : Kf P E c0 st0 w0 nt { ts := keepT fr.ts ks, bs := keepB fr.bs kb } st a w := ⟨mk, hnd, keep_ok ks kb hk⟩
        split at h
        · rename_i fr1 st1 e1
          refine hb hok hnr hk1 e1 (fun ex a' w' hex hk' => ?_)
          cases ex <;> first | exact hex.elim | skip
          exact ih _ _ _ _ hk' h
        · rename_i hne
          refine hb hok hnr hk1 h (fun ex a' w' hex hk' => ?_)
          cases ex with
          | normal => cases e <;> first | exact hex.elim | exact (hne _ _ h).elim
          | _ => exact hQ _ _ _ hex hk'
    exact key k fr st a w hk h
  | scope b hb =>
    intro code hok hnr fr fr' st st' e a w Q hk h hQ
    cases code <;> simp [okC] at hok
    simp only [noRf] at hnr
    simp only [evC] at h
    exact wpIn_scope (hb hok hnr hk h (fun ex a' w' hex hk' => noGoto_of hex (hQ _ _ _ hex hk')))
  | rfun x ps asg body _ _ =>
    intro code hok hnr fr fr' st st' e a w Q hk h hQ
    rcases hnr with rfl | hnr
    · exact rfun_ok hinv hok hk h hQ
    · simp [noRf] at hnr
end
end Go.Proofs.AM

namespace Go.Proofs.AM
open Go

/-- What is known of a call whose answer stands in the table. -/
def TabOk (P : Program) (E : Env) (f : Nat) (fs cs args : List AV) (r : AV) : Prop :=
  ∃ fn, P.funcs[f]? = some fn ∧ fn.body ≠ none ∧ fn.name ≠ "runtime.NumGoroutine" ∧
    ∀ st c w fs' cs' vs, HR P E c w st → VL c w fs fs' → VL c w cs cs' → VL c w args vs → CallsIn Fence.wide 0 P f (fs' ++ vs ++ cs').toArray w (Post P E c st w r st)
structure EnvOk (P : Program) (E : Env) : Prop where
  mix : P.follows .mixedOrders = true
  fn : ∀ f af, E.fns f = some af → ∃ fn, P.funcs[f]? = some fn ∧ okF P af fn = true
  tab : ∀ cl args r, E.tab cl args = some r → ∃ f fs cs, cl = .fn f fs cs ∧ TabOk P E f fs cs args r

section
variable {P : Program} {E : Env} {inv : Inv} {c0 : Cf} {st0 : St} {w0 : World} {mk : List Nat} {c : Cf} {st : St} {w : World} {lam : Nat → Nat} {bs : Bxs} {ts : List (Nat × TV)}
/-- A mark is come to. -/
theorem SR.unmark {r : Nat} (hs : SR P E c0 st0 w0 (r :: mk) c st w lam bs) (hr : r ∉ mk) : SR P E c0 st0 w0 mk c st (w.putObj r (.deferred none)) lam bs ∧ ∀ b, c.fz b → (w.putObj r (.deferred none)).heap[b]? = w.heap[b]? := by
  obtain ⟨m1, m2, m3, m4, m5⟩ := hs.md r (by simp)
  have ho : ∀ b, b ≠ r → (w.putObj r (.deferred none)).heap[b]? = w.heap[b]? := fun b hb => World.putObj_heap_other hb
  have hk : ∀ b, c.fz b → (w.putObj r (.deferred none)).heap[b]? = w.heap[b]? := fun b hb => ho b (fun e => m3 (e ▸ hb))
  have hle := Cf.le_refl c
  refine ⟨{ hr := ⟨hs.hr.dom, fun id v b k e => by rw [World.putObj_size]; exact hs.hr.lt id v b k e, fun id v b k e => (hs.hr.obj id v b k e).mono hle hk (fun hw => ho b (fun e' => m4 ⟨id, v, k, hw, e' ▸ e⟩)), hs.hr.inj, hs.hr.fzo, fun b hb => by rw [World.putObj_size]; exact hs.hr.fzl b hb,
      fun g cs e => ⟨(hs.hr.glob g cs e).1, (hs.hr.glob g cs e).2.mono hle hk (hk _ (hs.hr.glob g cs e).1)⟩, hs.hr.fut, hs.hr.tot⟩
            gd := ⟨hs.gd.le, fun b hb hn => (ho b (by omega)).trans (hs.gd.frame b hb hn), hs.gd.fz, hs.gd.own, by rw [World.putObj_size]; exact hs.gd.size, hs.gd.os, hs.gd.tape, hs.gd.output⟩
            bx := fun s cs e => let ⟨h1, h2, h3, h4, h5⟩ := hs.bx s cs e; ⟨h1, by rw [World.putObj_size]; exact h2, h3, h4, h5.mono hle hk (ho _ (m5 s cs e))⟩
            bd := hs.bd
            md := fun q hq => let ⟨h1, h2, h3, h4, h5⟩ := hs.md q (by simp [hq]); ⟨(ho q (fun e => hr (e ▸ hq))).trans h1, h2, h3, h4, h5⟩ }, hk⟩
theorem leaves_ok {F : Fence} {n : Nat} {fn : Func} {tmps : Array Value} {R : Ending → World → Prop} : ∀ {mk : List Nat} {w : World}, mk.Nodup → SR P E c0 st0 w0 mk c st w lam bs → TS c w lam ts tmps →
    (∀ w', SR P E c0 st0 w0 [] c st w' lam bs → TS c w' lam ts tmps → ∃ v, (results fn tmps).run P w' = .ok v w' ∧ R (.returned v) w') → LeavesInM F n P fn tmps R (marks mk) .returning w
  | [], w, _, hs, hts, h => h w hs hts
  | r :: mk, w, hnd, hs, hts, h => by
    have hnd' := List.nodup_cons.1 hnd
    obtain ⟨hs', hk⟩ := hs.unmark hnd'.1
    refine ⟨by simp, .inl ⟨r, w.putObj r (.deferred none), rfl, run_takeDeferred (hs.md r (by simp)).1, ?_⟩⟩
    exact leaves_ok hnd'.2 hs' (hts.mono (Cf.le_refl c) hk) h

/-! ### Results -/
theorem res_ok (hs : SR P E c0 st0 w0 mk c st w lam bs) {tmps : Array Value} (hts : TS c w lam ts tmps) {r : RX} {q : ResultVar} (hok : okR P r q = true) {v : AV} (h : resR E { ts, bs } st r = some v) :
    ∃ x, ((match q with | .tmp t => pure (tmps.getD t undef) | .cell a t => do loadVar t (← asAddr (tmps.getD a undef)) : Sem Value)).run P w = .ok x w ∧ VR c w v x := by
  cases r with
  | tmp t =>
    cases q <;> simp [okR] at hok
    subst hok
    simp only [resR] at h
    have hr := rdV_VR (a := { tmps := tmps, defers := [] }) hts (x := .t t) (y := .tmp t) (by simp [okX]) h
    refine ⟨_, rfl, ?_⟩
    simpa [Act.eval, Array.getD_eq_getD_getElem?] using hr
  | cell t ag m =>
    cases q <;> simp [okR] at hok
    rename_i u ty
    obtain ⟨rfl, hag⟩ := hok
    simp only [resR] at h
    split at h
    · rename_i p hp
      split at h
      · rename_i cs hcs
        have hno : rdT ts (.t t) = some p := by
          simp only [rdT]
          rw [hp]
          unfold noNo
          split
          · rename_i e; simp at e; subst e; simp [cellsAt] at hcs
          · rfl
        obtain ⟨x, hrun, htr⟩ := sim_load (a := { tmps := tmps, defers := [] }) (o := { (default : Oper) with op := .load ty (.tmp t) }) hs hts (ag := ag) (n := m) (x := .t t) (by simp [okOp, okX, hag]) hno hcs h
        obtain ⟨y, hy, hr⟩ := hts t p hp
        obtain ⟨ad, rfl, _⟩ := cellsAt_Reads hs hr hcs
        refine ⟨x, ?_, by cases htr; assumption⟩
        have e1 : (({ tmps := tmps, defers := [] } : Act).eval (.tmp t)) = .pointer (some ad) := eval_tmp hy
        have e2 : tmps.getD t undef = .pointer (some ad) := by simp [Array.getD_eq_getD_getElem?, hy]
        simp only [execOp, e1, Instr.loadAt, Instr.sureAddr, Sem.run_bind, Sem.run_pure, Result.andThen_ok] at hrun
        simp only [e2, asAddr, Sem.run_bind, Sem.run_pure, Result.andThen_ok]
        cases hl : (loadVar ty ad).run P w with
        | ok z w' =>
          rw [hl] at hrun
          simp at hrun
          obtain ⟨rfl, rfl⟩ := hrun
          rfl
        | halt z w' => rw [hl] at hrun; simp at hrun
      · cases h
    · cases h
theorem resL_ok (hs : SR P E c0 st0 w0 mk c st w lam bs) {tmps : Array Value} (hts : TS c w lam ts tmps) : ∀ {rs : List RX} {qs : List ResultVar} {vs : List AV}, okRs P rs qs = true → resL E { ts, bs } st rs = some vs →
    ∃ xs : List Value, (qs.mapM (fun | .tmp t => pure (tmps.getD t undef) | .cell a t => do loadVar t (← asAddr (tmps.getD a undef)) : ResultVar → Sem Value)).run P w = .ok xs w ∧ VL c w vs xs
  | [], [], vs, _, h => by simp [resL] at h; subst h; exact ⟨[], by simp, rfl, by simp⟩
  | [], _ :: _, _, h, _ => by simp [okRs] at h
  | _ :: _, [], _, h, _ => by simp [okRs] at h
  | r :: rs, q :: qs, vs, hok, h => by
    simp only [okRs, Bool.and_eq_true] at hok
    simp only [resL] at h
    split at h
    · rename_i v e
      split at h
      · rename_i vs' e2
        simp at h; subst h
        obtain ⟨x, h1, h2⟩ := res_ok hs hts hok.1 e
        obtain ⟨xs, h3, h4, h5⟩ := resL_ok hs hts hok.2 e2
        refine ⟨x :: xs, ?_, by simp [h4], fun k hk => ?_⟩
        · simp only [List.mapM_cons, Sem.run_bind, h1, Result.andThen_ok, h3, Sem.run_pure]
        · cases k with
          | zero => exact h2
          | succ k => exact h5 k (by simpa using hk)
      · cases h
    · cases h
theorem results_ok (hs : SR P E c0 st0 w0 mk c st w lam bs) {tmps : Array Value} (hts : TS c w lam ts tmps) {fn : Func} {rs : List RX} (hok : okRs P rs fn.results.toList = true) {vs : List AV} (h : resL E { ts, bs } st rs = some vs) : ∃ x, (results fn tmps).run P w = .ok x w ∧ VR c w (tupA vs) x := by
  obtain ⟨xs, h1, h2, h3⟩ := resL_ok hs hts hok h
  have hm : (fn.results.mapM (fun | .tmp t => pure (tmps.getD t undef) | .cell a t => do loadVar t (← asAddr (tmps.getD a undef)) : ResultVar → Sem Value)).run P w = .ok xs.toArray w := by
    have : fn.results = fn.results.toList.toArray := by simp
    rw [this, List.mapM_toArray]
    simp only [Sem.run_map, h1]
    rfl
  have hrun : (results fn tmps).run P w = .ok (if h : xs.toArray.size = 1 then xs.toArray[0] else .tuple xs.toArray) w := by
    unfold results
    rw [Sem.run_bind]
    exact congrArg (fun (q : Result (Array Value)) => q.andThen fun vs w' => Sem.run P (pure (if h : vs.size = 1 then vs[0] else Value.tuple vs)) w') hm
  refine ⟨_, hrun, ?_⟩
  match vs, xs, h2, h3 with
  | [], [], _, _ => exact .tup [] [] rfl (by simp)
  | [v], [x], _, h3 => exact h3 0 (Nat.succ_pos _)
  | u :: v :: vs, x :: y :: xs, h2, h3 =>
    have : ¬ (x :: y :: xs).toArray.size = 1 := by simp
    rw [dif_neg this]
    exact .tup _ _ h2 h3

/-! ### Entering -/
theorem zipA_look : ∀ (l : List AV) (i t : Nat) (v : TV), lookT t (zipA i l) = some v → ∃ (h : t - i < l.length), i ≤ t ∧ v = .v (l[t - i]'h)
  | [], i, t, v, h => by simp [zipA, lookT] at h
  | a :: l, i, t, v, h => by
    simp only [zipA] at h
    rcases lookT_cons h with ⟨rfl, rfl⟩ | ⟨hne, h⟩
    · exact ⟨by simp, Nat.le_refl _, by simp⟩
    · obtain ⟨h1, h2, h3⟩ := zipA_look l (i + 1) t v h
      have e : t - i = (t - (i + 1)) + 1 := by omega
      refine ⟨by simp; omega, by omega, ?_⟩
      rw [h3]
      congr 1
      simp only [e, List.getElem_cons_succ]
theorem VL.append {as bs : List AV} {vs us : List Value} (h : VL c w as vs) (k : VL c w bs us) : VL c w (as ++ bs) (vs ++ us) := by
  refine ⟨by simp [h.1, k.1], fun j hj => ?_⟩
  by_cases hlt : j < as.length
  · rw [List.getElem_append_left hlt, getD_left (by rw [h.1]; exact hlt)]
    exact h.2 j hlt
  · rw [List.getElem_append_right (by omega), getD_right (by rw [h.1]; omega)]
    have := k.2 (j - as.length) (by simp at hj; omega)
    rw [h.1]; exact this
theorem SR.enter (hr : HR P E c w st) (l : Nat) (lam : Nat → Nat) : SR P E c st w [] c { st with low := l } w lam [] :=
  { hr := ⟨hr.dom, hr.lt, hr.obj, hr.inj, hr.fzo, hr.fzl, hr.glob, hr.fut, hr.tot⟩, gd := ⟨Cf.le_refl c, fun _ _ _ => rfl, fun _ h => .inl h, fun _ h => .inl h, Nat.le_refl _, rfl, rfl, rfl⟩, bx := fun s cs e => by simp [lookB] at e, bd := fun s s' cs cs' e => by simp [lookB] at e, md := fun r h => by cases h }

theorem fn_sim (hE : EnvOk P E) (hinv : SimInv P E inv) (hks : KSI inv) {k : Nat} {raw : Bool} {f : Nat} {fs cs args : List AV} {st st' : St} {r : AV} (h : bodyA E raw (.fn f fs cs) args st (evC E inv k) = some (r, st')) :
    ∃ fn, P.funcs[f]? = some fn ∧ fn.body ≠ none ∧ fn.name ≠ "runtime.NumGoroutine" ∧
    ∀ c w fs' cs' vs, HR P E c w st → VL c w fs fs' → VL c w cs cs' → VL c w args vs → CallsIn Fence.wide 0 P f (fs' ++ vs ++ cs').toArray w (Post P E c st w r st') := by
  simp only [bodyA] at h
  split at h
  case h_2 => cases h
  rename_i af haf
  split at h
  case isFalse => cases h
  rename_i hnp
  obtain ⟨fn, hfn, hok⟩ := hE.fn f af haf
  simp only [okF, Bool.and_eq_true, decide_eq_true_eq, bne_iff_ne, ne_eq] at hok
  obtain ⟨⟨⟨hbody, hres⟩, hle⟩, hname⟩ := hok
  split at hbody
  case h_2 => cases hbody
  rename_i code hcode
  refine ⟨fn, hfn, by rw [hcode]; simp, hname, ?_⟩
  intro c w fs' cs' vs hr hfs hcs hvs
  have hall := (hfs.append hvs).append hcs
  have hlen : (fs' ++ vs ++ cs').length = af.np := by rw [hall.1, hnp]
  split at h
  · cases h
  · rename_i e fr st1 hne hev
    split at h
    case h_2 => cases h
    rename_i vs' hvs'
    simp only [Option.some.injEq] at h
    refine callsIn_of_wp_marks hfn hcode trivial ?_
    have hTS : TS c w (fun _ => 0) (zipA 0 (fs ++ args ++ cs)) ((fs' ++ vs ++ cs').toArray ++ Array.replicate (fn.ntmps - (fs' ++ vs ++ cs').toArray.size) undef) := by
      intro t v e
      obtain ⟨h1, _, rfl⟩ := zipA_look _ _ _ _ e
      simp only [Nat.sub_zero] at h1 ⊢
      refine ⟨(fs' ++ vs ++ cs').getD t undef, ?_, .v (hall.2 t h1)⟩
      have hlt : t < (fs' ++ vs ++ cs').length := by rw [hall.1]; exact h1
      rw [Array.getElem?_append_left (by simpa using hlt)]
      rw [List.getElem?_toArray, List.getD_eq_getElem?_getD, List.getElem?_eq_getElem hlt]
      rfl
    refine code_ok (c0 := c) (st0 := st) (w0 := w) hE.mix (.inl rfl) hinv hks hbody (.inl rfl) ⟨[], List.nodup_nil, c, fun _ => 0, SR.enter hr st.heap.length _, hTS, ?_, rfl⟩ hev (fun ex a' w' hex hk' => ?_)
    · simp only [Array.size_append, List.size_toArray, Array.size_replicate]
      omega
    · obtain ⟨mk, hnd, c1, lam, hs, hts, hn, hds⟩ := hk'
      have hks1 : KS { st with low := st.heap.length } st1 := evC_KS hks hev
      have key : LeavesInM Fence.wide 0 P fn a'.tmps (Post P E c st w r st') (marks mk) .returning w' := by
        refine leaves_ok hnd hs hts (fun w2 hs2 hts2 => ?_)
        obtain ⟨x, hx1, hx2⟩ := results_ok (ts := fr.ts) (bs := fr.bs) hs2 hts2 hres hvs'
        obtain ⟨c', k1, k2, k3⟩ := finish_ok hr hs2.hr hs2.gd hks1 hx2 h
        exact ⟨x, hx1, c', k1, k2, k3⟩
      cases ex with
      | normal => simp only [bodyPostM, hds]; exact key
      | ret => simp only [bodyPostM, hds]; exact key
      | exit i => cases e <;> first | exact hex.elim | exact (hne _ rfl).elim
      | _ => cases e <;> exact hex.elim
  · cases h
end
end Go.Proofs.AM

namespace Go.Proofs.AM
open Go

section
variable {P : Program} {E : Env} {inv : Inv} {c0 : Cf} {st0 : St} {w0 : World} {mk : List Nat} {c : Cf} {st : St} {w : World} {lam : Nat → Nat} {bs : Bxs} {ts : List (Nat × TV)}
theorem SR.reLow {l : Nat} (hs : SR P E c0 st0 w0 mk c st w lam bs) : SR P E c0 st0 w0 mk c { st with low := l } w lam bs :=
  { hr := ⟨hs.hr.dom, hs.hr.lt, hs.hr.obj, hs.hr.inj, hs.hr.fzo, hs.hr.fzl, hs.hr.glob, hs.hr.fut, hs.hr.tot⟩, gd := ⟨hs.gd.le, hs.gd.frame, hs.gd.fz, hs.gd.own, hs.gd.size, hs.gd.os, hs.gd.tape, hs.gd.output⟩, bx := hs.bx, bd := hs.bd, md := hs.md }
/-- The loop's record turns. -/
theorem loop_set (hs : SR P E c0 st0 w0 mk c st w lam bs) {l b k : Nat} {bz bz' : Bool} {ps : List Nat} {asg body : AC} {t0 : List (Nat × TV)} (ho : st.heap[l]? = some (.loop bz ps asg body t0)) (hb : c.bt l 0 = some (b, k)) {rec rec' : Loop} (hh : w.heap[b]? = some (.loop rec))
    (h1 : rec'.state = (if bz' then .busy else .ready)) (h2 : rec'.pending = none) (h3 : rec'.params = rec.params) (h4 : rec'.tmps = rec.tmps) (h5 : rec'.assign = rec.assign) (h6 : rec'.body = rec.body) :
    SR P E c0 st0 w0 mk c { st with heap := st.heap.set l (.loop bz' ps asg body t0) } (w.putObj b (.loop rec')) lam bs ∧ ∀ y, c.fz y → (w.putObj b (.loop rec')).heap[y]? = w.heap[y]? := by
  have hwn : own st l 0 := by unfold own; rw [ho]
  have hfz : ¬ c.fz b := fun h => hs.hr.fzo b h ⟨l, 0, k, hwn, hb⟩
  have hk : ∀ y, c.fz y → (w.putObj b (.loop rec')).heap[y]? = w.heap[y]? := fun y hy => World.putObj_heap_other (fun e => hfz (e ▸ hy))
  have hblt := hs.hr.lt _ _ _ _ hb
  have hid := hs.hr.dom _ _ _ hb
  have hself := Cf.put_self hb
  have hobj := hs.hr.obj _ _ _ _ hb
  rw [ho] at hobj
  obtain ⟨r, hr1, q1, q2, q3, q4, q5, q6, q7, q8, q9⟩ := hobj rfl
  rw [hh] at hr1
  simp only [Option.some.injEq, Obj.loop.injEq] at hr1
  subst hr1
  have hle := Cf.le_refl c
  obtain ⟨hs', _⟩ := hs.wr (o := .loop bz' ps asg body t0) (ver' := 0) (b' := b) (k' := k) (w' := w.putObj b (.loop rec')) hwn hb (.inr hb) (.inl rfl) (by rw [World.putObj_size]; exact hblt) (fun x _ hx => World.putObj_heap_other hx)
    (by rw [World.putObj_size]; exact Nat.le_refl _) rfl rfl rfl (by intro v; simp [own, mods, hid])
    (by
      rw [hself]
      exact fun _ => ⟨rec', World.putObj_heap_same hblt, h1, h2, by rw [h3]; exact q3, by rw [h4, h5]; exact q4, by rw [h4, h6]; exact q5, q6, q7, by rw [h4]; exact q8, fun t v e => by
        obtain ⟨x, hx, hr⟩ := q9 t v e
        exact ⟨x, by rw [h4]; exact hx, fun lam => (hr lam).mono hle hk⟩⟩) (by simp)
  rw [hself] at hs'
  exact ⟨hs'.reLow (l := st.low), hk⟩
theorem putPs_ok : ∀ {ps : List Nat} {as : List AV} {vs : List Value} {ts ts' : List (Nat × TV)} {tmps : Array Value}, putPs ts ps as = some ts' → VL c w as vs → (∀ p ∈ ps, p < tmps.size) → TS c w lam ts tmps →
    ps.length = as.length ∧ TS c w lam ts' ((ps.zip vs).foldl (fun tmps (q : Nat × Value) => tmps.setIfInBounds q.1 q.2) tmps) ∧ ((ps.zip vs).foldl (fun tmps (q : Nat × Value) => tmps.setIfInBounds q.1 q.2) tmps).size = tmps.size
  | [], [], vs, ts, ts', tmps, h, hv, _, hts => by
    simp [putPs] at h
    subst h
    exact ⟨rfl, by simpa using hts, by simp⟩
  | [], _ :: _, _, _, _, _, h, _, _, _ => by simp [putPs] at h
  | _ :: _, [], _, _, _, _, h, _, _, _ => by simp [putPs] at h
  | p :: ps, a :: as, vs, ts, ts', tmps, h, hv, hp, hts => by
    simp only [putPs] at h
    cases vs with
    | nil => have := hv.1; simp at this
    | cons x vs =>
      have hx : VR c w a x := hv.2 0 (Nat.succ_pos _)
      have hv' : VL c w as vs := ⟨by have := hv.1; simpa using this, fun k hk => hv.2 (k + 1) (Nat.succ_lt_succ hk)⟩
      obtain ⟨h1, h2, h3⟩ := putPs_ok h hv' (tmps := tmps.setIfInBounds p x) (fun q hq => by simp; exact hp q (by simp [hq])) (hts.put (.v hx) (hp p (by simp)))
      exact ⟨by simp [h1], h2, by simpa using h3⟩
theorem yl_sim (hE : EnvOk P E) (hinv : SimInv P E inv) (hks : KSI inv) {k : Nat} {raw : Bool} {l : Nat} {args : List AV} {st st' : St} {r : AV} (h : bodyA E raw (.yld l) args st (evC E inv k) = some (r, st')) :
    ∀ c w vs b kk, HR P E c w st → c.bt l 0 = some (b, kk) → VL c w args vs →
    ∃ rec : Loop, w.heap[b]? = some (.loop rec) ∧ vs.length = rec.params.size ∧ RoundIn Fence.wide 0 P b rec.fn ((rec.params.zip vs.toArray).foldl (fun tmps (t, a) => tmps.setIfInBounds t a) rec.tmps) rec.assign rec.body w (Post P E c st w r st') := by
  intro c w vs b kk hr hb hvs
  simp only [bodyA] at h
  split at h
  case h_2 => cases h
  rename_i ps asg body t0 ho
  split at h
  case h_2 => cases h
  rename_i ts' hps
  split at h
  case h_2 => cases h
  rename_i fr st1 hev1
  split at h
  case h_2 => cases h
  rename_i p1 a1 b1 t1 ho1
  split at h
  case h_2 => cases h
  rename_i fr2 st2 hev2
  split at h
  case h_2 => cases h
  rename_i p2 a2 b2 t2 ho2
  simp only [Option.some.injEq, Prod.mk.injEq] at h
  obtain ⟨rfl, rfl⟩ := h
  have hobj := hr.obj _ _ _ _ hb
  rw [ho] at hobj
  obtain ⟨rec, hh, q1, q2, q3, q4, q5, q6, q7, q8, q9⟩ := hobj rfl
  have hts0 : TS c w (fun _ => 0) t0 rec.tmps := fun t v e => let ⟨x, hx, hr⟩ := q9 t v e; ⟨x, hx, hr _⟩
  obtain ⟨hl, hts1, hsz⟩ := putPs_ok hps hvs q8 hts0
  have hfold : (rec.params.zip vs.toArray).foldl (fun tmps (t, a) => tmps.setIfInBounds t a) rec.tmps = (ps.zip vs).foldl (fun tmps (q : Nat × Value) => tmps.setIfInBounds q.1 q.2) rec.tmps := by
    rw [← Array.foldl_toList, Array.toList_zip, q3]
  refine ⟨rec, hh, by rw [hvs.1, ← hl, ← q3]; simp, ?_⟩
  rw [hfold]
  refine roundIn_of_wpIn trivial ?_
  have hFw : Fw (Fence.wide.inRound b) := .inr ⟨b, rfl⟩
  refine code_ok (c0 := c) (st0 := st) (w0 := w) (nt := rec.tmps.size) hE.mix hFw hinv hks q4 (.inr q6) (fr := { ts := ts', bs := [] }) (st := st) ⟨[], List.nodup_nil, c, fun _ => 0, SR.enter hr st.low _, hts1, hsz, rfl⟩ hev1 (fun ex a' w' hex hk' => ?_)
  cases ex <;> first | exact hex.elim | skip
  obtain ⟨mk, hnd, c1, lam, hs1, htsb, hn, hds⟩ := hk'
  have hb1 := hs1.gd.le.1 _ _ _ hb
  have hobj1 := hs1.hr.obj _ _ _ _ hb1
  rw [ho1] at hobj1
  obtain ⟨rec1, hh1, u1, u2, _⟩ := hobj1 rfl
  obtain ⟨hs2, hk2⟩ := loop_set (bz' := true) (rec' := { rec1 with state := .busy }) hs1 ho1 hb1 hh1 rfl u2 rfl rfl rfl rfl
  refine ⟨_, run_beginRound hh1 u1, ?_⟩
  refine code_ok (c0 := c) (st0 := st) (w0 := w) (nt := rec.tmps.size) hE.mix hFw hinv hks q5 (.inr q7) ⟨mk, hnd, c1, lam, hs2, htsb.mono (Cf.le_refl c1) hk2, hn, hds⟩ hev2 (fun ex a2 w2 hex hk' => ?_)
  cases ex <;> first | exact hex.elim | skip
  obtain ⟨mk2, _, c2, lam2, hs3, _, _, _⟩ := hk'
  have hb2 := hs3.gd.le.1 _ _ _ hb
  have hobj2 := hs3.hr.obj _ _ _ _ hb2
  rw [ho2] at hobj2
  obtain ⟨rec2, hh2, _⟩ := hobj2 rfl
  obtain ⟨hs4, _⟩ := loop_set (bz' := false) (rec' := { rec2 with state := .ready, pending := none }) hs3 ho2 hb2 hh2 rfl rfl rfl rfl rfl rfl
  exact ⟨_, _, run_endRound none hh2, c2, hs4.hr, hs4.gd, .bool true⟩
end

/-- **What the machine answers, the program answers.** -/
theorem sim_all {P : Program} {E : Env} (hE : EnvOk P E) : ∀ m, SimInv P E (evF E m)
  | 0 => { fn := fun _ _ _ _ _ _ _ _ h => by simp [evF] at h, yl := fun _ _ _ _ _ _ h => by simp [evF] at h }
  | m + 1 =>
    { fn := fun raw f fs cs args st r st' h => by
        simp only [evF] at h
        split at h
        · rename_i e
          simp only [Option.some.injEq, Prod.mk.injEq] at h
          obtain ⟨rfl, rfl⟩ := h
          obtain ⟨f', fs', cs', e', fn, h1, h2, h3, h4⟩ := hE.tab _ _ _ e
          cases e'
          exact ⟨fn, h1, h2, h3, fun c w => h4 st c w⟩
        · exact fn_sim hE (sim_all hE m) (evF_KS E m) (k := m) h
      yl := fun raw l args st r st' h => by
        simp only [evF] at h
        split at h
        · rename_i e
          obtain ⟨f', fs', cs', e', _⟩ := hE.tab _ _ _ e
          cases e'
        · exact yl_sim hE (sim_all hE m) (evF_KS E m) (k := m) (raw := raw) h }
end Go.Proofs.AM

namespace Go.Proofs.AM
open Go

def InvLe (inv inv' : Inv) : Prop := ∀ raw c args st r, inv raw c args st = some r → inv' raw c args st = some r
theorem InvLe.refl (inv : Inv) : InvLe inv inv := fun _ _ _ _ _ h => h

section
variable {E : Env} {inv inv' : Inv}
theorem ev_nc {d : Nat} {ts : List (Nat × TV)} {bs : Bxs} {st : St} {op : AOp} (h : isCall op = false) : ev E inv d ts bs st op = ev E inv' d ts bs st op := by
  cases op <;> first | rfl | simp [isCall] at h
theorem ev_le (hle : InvLe inv inv') {d : Nat} {ts : List (Nat × TV)} {bs : Bxs} {st : St} {op : AOp} {r : TV × Bxs × St} (h : ev E inv d ts bs st op = some r) : ev E inv' d ts bs st op = some r := by
  cases hc : isCall op with
  | false => rw [← ev_nc (inv := inv) hc]; exact h
  | true =>
    cases op <;> simp [isCall] at hc
    simp only [ev] at h ⊢
    split at h
    · rename_i e
      split at h
      · rename_i e1
        split at h
        · rename_i e2
          split at h
          · rename_i e3
            split at h
            · rename_i e4
              simp only [e1, e3, hle _ _ _ _ _ e4]
              exact h
            · cases h
          · cases h
        · cases h
      · cases h
    · cases h
theorem stepO_le (hle : InvLe inv inv') {o : AO} {fr : Fr} {st : St} {r : Fr × St} (h : stepO E inv o fr st = some r) : stepO E inv' o fr st = some r := by
  unfold stepO at h ⊢
  split at h
  · rename_i hw
    split at h
    · rename_i e
      simp only [ev_le hle e]
      exact h
    · cases h
  · exact h
  · cases h
theorem opsA_le (hle : InvLe inv inv') : ∀ {os : List AO} {fr : Fr} {st : St} {r : Fr × St}, opsA E inv os fr st = some r → opsA E inv' os fr st = some r
  | [], _, _, _, h => h
  | o :: os, fr, st, r, h => by
    simp only [opsA] at h ⊢
    split at h
    · rename_i e
      simp only [stepO_le hle e]
      exact opsA_le hle h
    · cases h
theorem opsT_le (hle : InvLe inv inv') : ∀ {os : List AO} {fr : Fr} {st : St} {r : List Tr × Fr × St}, opsT E inv os fr st = some r → opsT E inv' os fr st = some r
  | [], _, _, _, h => h
  | o :: os, fr, st, r, h => by
    simp only [opsT] at h ⊢
    split at h
    · rename_i e
      simp only [stepO_le hle e]
      split at h
      · rename_i e2
        simp only [opsT_le hle e2]
        exact h
      · cases h
    · cases h
theorem regionA_le (hle : InvLe inv inv') {os : List AO} {af : Option (List (List Nat))} {fr : Fr} {st : St} {r : Fr × St} (h : regionA E inv os af fr st = some r) : regionA E inv' os af fr st = some r := by
  unfold regionA at h ⊢
  split at h
  · exact opsA_le hle h
  · split at h
    · rename_i e
      simp only [opsT_le hle e]
      exact h
    · cases h

/-! ### Loops -/
theorem loopN_more {f : Fr → St → Out} : ∀ {k k' : Nat} {fr : Fr} {st : St} {r : Ex × Fr × St}, k ≤ k' → loopN f k fr st = some r → loopN f k' fr st = some r
  | 0, _, _, _, _, _, h => by simp [loopN] at h
  | k + 1, 0, _, _, _, hk, _ => by omega
  | k + 1, k' + 1, fr, st, r, hk, h => by
    simp only [loopN] at h ⊢
    split at h
    · exact loopN_more (by omega) h
    · exact h
open Classical in
noncomputable def loopE (f : Fr → St → Out) (fr : Fr) (st : St) : Out := if h : ∃ r k, loopN f k fr st = some r then some h.choose else none
theorem loopE_of {f : Fr → St → Out} {k : Nat} {fr : Fr} {st : St} {r : Ex × Fr × St} (h : loopN f k fr st = some r) : loopE f fr st = some r := by
  have hex : ∃ r k, loopN f k fr st = some r := ⟨r, k, h⟩
  unfold loopE
  rw [dif_pos hex]
  obtain ⟨k', hk'⟩ := hex.choose_spec
  have h1 := loopN_more (Nat.le_max_left k k') h
  have h2 := loopN_more (Nat.le_max_right k k') hk'
  rw [h1] at h2
  exact h2.symm
theorem loopE_inv {f : Fr → St → Out} {fr : Fr} {st : St} {r : Ex × Fr × St} (h : loopE f fr st = some r) : ∃ k, loopN f k fr st = some r := by
  unfold loopE at h
  split at h
  · rename_i hex
    simp only [Option.some.injEq] at h
    subst h
    exact hex.choose_spec
  · cases h
theorem loopE_eq (f : Fr → St → Out) (fr : Fr) (st : St) : loopE f fr st = match f fr st with | some (.norm, fr', st') => loopE f fr' st' | r => r := by
  apply Option.ext
  intro r
  constructor
  · intro h
    obtain ⟨k, h⟩ := loopE_inv h
    cases k with
    | zero => simp [loopN] at h
    | succ k =>
      simp only [loopN] at h
      split at h
      · rename_i e
        simp only [e]
        exact loopE_of h
      · rename_i hne
        rw [h]
        split
        · rename_i e; exact (hne _ _ (h.trans e)).elim
        · rfl
  · intro h
    split at h
    · rename_i e
      obtain ⟨k, h⟩ := loopE_inv h
      exact loopE_of (k := k + 1) (by simp only [loopN, e]; exact h)
    · rename_i hne
      refine loopE_of (k := 1) ?_
      simp only [loopN]
      rw [h]

/-! ### Code -/
noncomputable def codeG (E : Env) (inv : Inv) : AC → Fr → St → Out
  | .skip, fr, st => some (.norm, fr, st)
  | .ret, fr, st => some (.ret, fr, st)
  | .exit id, fr, st => some (.exit id, fr, st)
  | .region ops after ks kb ps, fr, st => match regionA E inv ops after fr st with
    | some (fr1, st1) => match pubA ps fr1 st1 with
      | some (fr', st') => some (.norm, { ts := keepT fr'.ts ks, bs := keepB fr'.bs kb }, st')
      | none => none
    | none => none
  | .seq a b, fr, st => match codeG E inv a fr st with
    | some (.norm, fr', st') => codeG E inv b fr' st'
    | r => r
  | .cond c a b, fr, st => match rdV fr.ts c with
    | some (.bool true) => codeG E inv a fr st
    | some (.bool false) => codeG E inv b fr st
    | _ => none
  | .block id b, fr, st => match codeG E inv b fr st with
    | some (.exit id', fr', st') => if id' = id then some (.norm, fr', st') else some (.exit id', fr', st')
    | r => r
  | .loop ks kb b, fr, st => loopE (fun fr st => codeG E inv b { ts := keepT fr.ts ks, bs := keepB fr.bs kb } st) fr st
  | .scope b, fr, st => codeG E inv b fr st
  | .rfun x ps asg body, fr, st => match rdV fr.ts x with
    | some (.fn f fs cs) => if fr.bs.isEmpty then
        match inv false (.fn f (fs ++ [.yld st.heap.length]) cs) [] (alloc st (.loop false ps asg body (noLocs fr.ts))) with
        | some (_, st') => match st'.heap[st.heap.length]? with
          | some (.loop false ..) => some (.norm, fr, mods st' st.heap.length .gone)
          | _ => none
        | none => none
      else none
    | _ => none
theorem loopN_imp {f g : Fr → St → Out} (h : ∀ fr st r, f fr st = some r → g fr st = some r) : ∀ {k : Nat} {fr : Fr} {st : St} {r : Ex × Fr × St}, loopN f k fr st = some r → loopN g k fr st = some r
  | 0, _, _, _, hl => by simp [loopN] at hl
  | k + 1, fr, st, r, hl => by
    simp only [loopN] at hl ⊢
    split at hl
    · rename_i e
      simp only [h _ _ _ e]
      exact loopN_imp h hl
    · rename_i hne
      rw [h _ _ _ hl]
      split
      · rename_i e; exact (hne _ _ (hl.trans e)).elim
      · rfl
theorem evC_codeG (hle : InvLe inv inv') {k : Nat} : ∀ {ac : AC} {fr : Fr} {st : St} {r : Ex × Fr × St}, evC E inv k ac fr st = some r → codeG E inv' ac fr st = some r := by
  intro ac
  induction ac with
  | skip => intro fr st r h; exact h
  | ret => intro fr st r h; exact h
  | exit id => intro fr st r h; exact h
  | region ops af ks kb ps =>
    intro fr st r h
    simp only [evC, codeG] at h ⊢
    split at h
    · rename_i e
      simp only [regionA_le hle e]
      exact h
    · cases h
  | seq a b ha hb =>
    intro fr st r h
    simp only [evC, codeG] at h ⊢
    split at h
    · rename_i e
      simp only [ha e]
      exact hb h
    · rename_i hne
      rw [ha h]
      split
      · rename_i e; exact (hne _ _ (h.trans e)).elim
      · rfl
  | cond c a b ha hb =>
    intro fr st r h
    simp only [evC, codeG] at h ⊢
    split at h
    · rename_i e; first | exact ha h | (simp only [e]; exact ha h)
    · rename_i e; first | exact hb h | (simp only [e]; exact hb h)
    · cases h
  | block id b hb =>
    intro fr st r h
    simp only [evC, codeG] at h ⊢
    split at h
    · rename_i e
      simp only [hb e]
      exact h
    · rename_i hne
      rw [hb h]
      split
      · rename_i e; exact (hne _ _ _ (h.trans e)).elim
      · rfl
  | loop ks kb b hb =>
    intro fr st r h
    simp only [evC, codeG] at h ⊢
    exact loopE_of (loopN_imp (fun fr st r h => hb h) h)
  | scope b hb =>
    intro fr st r h
    simp only [evC, codeG] at h ⊢
    exact hb h
  | rfun x ps asg body _ _ =>
    intro fr st r h
    simp only [evC, codeG] at h ⊢
    split at h
    · rename_i e0
      split at h
      · rename_i hb
        split at h
        · rename_i e
          try simp only [e0]
          rw [if_pos hb]
          simp only [hle _ _ _ _ _ e]
          exact h
        · cases h
      · cases h
    · cases h

/-! ### Enough fuel -/
theorem max_ge {p : Nat → Prop} {q : Nat → Prop} (hp : ∃ m, ∀ m', m ≤ m' → p m') (hq : ∃ m, ∀ m', m ≤ m' → q m') : ∃ m, ∀ m', m ≤ m' → p m' ∧ q m' :=
  let ⟨a, ha⟩ := hp; let ⟨b, hb⟩ := hq; ⟨max a b, fun m' h => ⟨ha m' (by omega), hb m' (by omega)⟩⟩
variable {I : Nat → Inv}
/-- The limit of answers. -/
structure Lim (I : Nat → Inv) (inv : Inv) : Prop where
  ge : ∀ raw c args st r, inv raw c args st = some r → ∃ m, ∀ m', m ≤ m' → I m' raw c args st = some r
theorem ev_lim (hl : Lim I inv) {d : Nat} {ts : List (Nat × TV)} {bs : Bxs} {st : St} {op : AOp} {r : TV × Bxs × St} (h : ev E inv d ts bs st op = some r) : ∃ m, ∀ m', m ≤ m' → ev E (I m') d ts bs st op = some r := by
  cases hc : isCall op with
  | false => exact ⟨0, fun m' _ => by rw [ev_nc (inv' := inv) hc]; exact h⟩
  | true =>
    cases op <;> simp [isCall] at hc
    simp only [ev] at h ⊢
    split at h
    · rename_i e
      split at h
      · rename_i e1
        split at h
        · rename_i e2
          split at h
          · rename_i e3
            split at h
            · rename_i e4
              obtain ⟨m, hm⟩ := hl.ge _ _ _ _ _ e4
              refine ⟨m, fun m' hm' => ?_⟩
              simp only [e1, e3, hm m' hm']
              exact h
            · cases h
          · cases h
        · cases h
      · cases h
    · cases h
theorem stepO_lim (hl : Lim I inv) {o : AO} {fr : Fr} {st : St} {r : Fr × St} (h : stepO E inv o fr st = some r) : ∃ m, ∀ m', m ≤ m' → stepO E (I m') o fr st = some r := by
  unfold stepO at h ⊢
  split at h
  · rename_i hw
    split at h
    · rename_i e
      obtain ⟨m, hm⟩ := ev_lim hl e
      exact ⟨m, fun m' hm' => by simp only [hm m' hm']; exact h⟩
    · cases h
  · exact ⟨0, fun _ _ => h⟩
  · cases h
theorem opsA_lim (hl : Lim I inv) : ∀ {os : List AO} {fr : Fr} {st : St} {r : Fr × St}, opsA E inv os fr st = some r → ∃ m, ∀ m', m ≤ m' → opsA E (I m') os fr st = some r
  | [], _, _, _, h => ⟨0, fun _ _ => h⟩
  | o :: os, fr, st, r, h => by
    simp only [opsA] at h ⊢
    split at h
    · rename_i e
      obtain ⟨m, hm⟩ := max_ge (stepO_lim hl e) (opsA_lim hl h)
      exact ⟨m, fun m' hm' => by simp only [(hm m' hm').1]; exact (hm m' hm').2⟩
    · cases h
theorem opsT_lim (hl : Lim I inv) : ∀ {os : List AO} {fr : Fr} {st : St} {r : List Tr × Fr × St}, opsT E inv os fr st = some r → ∃ m, ∀ m', m ≤ m' → opsT E (I m') os fr st = some r
  | [], _, _, _, h => ⟨0, fun _ _ => h⟩
  | o :: os, fr, st, r, h => by
    simp only [opsT] at h ⊢
    split at h
    · rename_i e
      split at h
      · rename_i e2
        obtain ⟨m, hm⟩ := max_ge (stepO_lim hl e) (opsT_lim hl e2)
        exact ⟨m, fun m' hm' => by simp only [(hm m' hm').1, (hm m' hm').2]; exact h⟩
      · cases h
    · cases h
theorem regionA_lim (hl : Lim I inv) {os : List AO} {af : Option (List (List Nat))} {fr : Fr} {st : St} {r : Fr × St} (h : regionA E inv os af fr st = some r) : ∃ m, ∀ m', m ≤ m' → regionA E (I m') os af fr st = some r := by
  unfold regionA at h ⊢
  split at h
  · exact opsA_lim hl h
  · split at h
    · rename_i e
      obtain ⟨m, hm⟩ := opsT_lim hl e
      exact ⟨m, fun m' hm' => by simp only [hm m' hm']; exact h⟩
    · cases h
theorem loopN_lim {g : Fr → St → Out} {f : Nat → Fr → St → Out} (h : ∀ fr st r, g fr st = some r → ∃ m, ∀ m', m ≤ m' → f m' fr st = some r) : ∀ {k : Nat} {fr : Fr} {st : St} {r : Ex × Fr × St}, loopN g k fr st = some r → ∃ m, ∀ m', m ≤ m' → loopN (f m') k fr st = some r
  | 0, _, _, _, hl => by simp [loopN] at hl
  | k + 1, fr, st, r, hl => by
    simp only [loopN] at hl ⊢
    split at hl
    · rename_i e
      obtain ⟨m, hm⟩ := max_ge (h _ _ _ e) (loopN_lim h hl)
      exact ⟨m, fun m' hm' => by simp only [(hm m' hm').1]; exact (hm m' hm').2⟩
    · rename_i hne
      obtain ⟨m, hm⟩ := h _ _ _ hl
      refine ⟨m, fun m' hm' => ?_⟩
      rw [hm m' hm']
      split
      · rename_i e; exact (hne _ _ (hl.trans e)).elim
      · rfl
theorem codeG_lim (hl : Lim I inv) : ∀ {ac : AC} {fr : Fr} {st : St} {r : Ex × Fr × St}, codeG E inv ac fr st = some r → ∃ m, ∀ m', m ≤ m' → evC E (I m') m' ac fr st = some r := by
  intro ac
  induction ac with
  | skip => intro fr st r h; exact ⟨0, fun _ _ => h⟩
  | ret => intro fr st r h; exact ⟨0, fun _ _ => h⟩
  | exit id => intro fr st r h; exact ⟨0, fun _ _ => h⟩
  | region ops af ks kb ps =>
    intro fr st r h
    simp only [evC, codeG] at h ⊢
    split at h
    · rename_i e
      obtain ⟨m, hm⟩ := regionA_lim hl e
      exact ⟨m, fun m' hm' => by simp only [hm m' hm']; exact h⟩
    · cases h
  | seq a b ha hb =>
    intro fr st r h
    simp only [evC, codeG] at h ⊢
    split at h
    · rename_i e
      obtain ⟨m, hm⟩ := max_ge (ha e) (hb h)
      exact ⟨m, fun m' hm' => by simp only [(hm m' hm').1]; exact (hm m' hm').2⟩
    · rename_i hne
      obtain ⟨m, hm⟩ := ha h
      refine ⟨m, fun m' hm' => ?_⟩
      rw [hm m' hm']
      split
      · rename_i e; exact (hne _ _ (h.trans e)).elim
      · rfl
  | cond c a b ha hb =>
    intro fr st r h
    simp only [evC, codeG] at h ⊢
    split at h
    · rename_i e; first | exact ha h | (simp only [e]; exact ha h)
    · rename_i e; first | exact hb h | (simp only [e]; exact hb h)
    · cases h
  | block id b hb =>
    intro fr st r h
    simp only [evC, codeG] at h ⊢
    split at h
    · rename_i e
      obtain ⟨m, hm⟩ := hb e
      exact ⟨m, fun m' hm' => by simp only [hm m' hm']; exact h⟩
    · rename_i hne
      obtain ⟨m, hm⟩ := hb h
      refine ⟨m, fun m' hm' => ?_⟩
      rw [hm m' hm']
      split
      · rename_i e; exact (hne _ _ _ (h.trans e)).elim
      · rfl
  | loop ks kb b hb =>
    intro fr st r h
    simp only [evC, codeG] at h ⊢
    obtain ⟨k, h⟩ := loopE_inv h
    obtain ⟨m, hm⟩ := loopN_lim (f := fun m' fr st => evC E (I m') m' b { ts := keepT fr.ts ks, bs := keepB fr.bs kb } st) (fun fr st r h => hb h) h
    exact ⟨max m k, fun m' hm' => loopN_more (by omega) (hm m' (by omega))⟩
  | scope b hb =>
    intro fr st r h
    simp only [evC, codeG] at h ⊢
    exact hb h
  | rfun x ps asg body _ _ =>
    intro fr st r h
    simp only [evC, codeG] at h ⊢
    split at h
    · rename_i e0
      split at h
      · rename_i hb
        split at h
        · rename_i e
          obtain ⟨m, hm⟩ := hl.ge _ _ _ _ _ e
          refine ⟨m, fun m' hm' => ?_⟩
          try simp only [e0]
          rw [if_pos hb]
          simp only [hm m' hm']
          exact h
        · cases h
      · cases h
    · cases h
/-! ### Calls -/
theorem bodyA_imp {run run' : AC → Fr → St → Out} (h : ∀ ac fr st r, run ac fr st = some r → run' ac fr st = some r) {raw : Bool} {c : Cal} {args : List AV} {st : St} {r : AV × St} (hb : bodyA E raw c args st run = some r) : bodyA E raw c args st run' = some r := by
  unfold bodyA at hb ⊢
  split at hb
  · split at hb
    · rename_i e0
      split at hb
      · rename_i hn
        split at hb
        · cases hb
        · rename_i hne e
          try simp only [e0]
          rw [if_pos hn, h _ _ _ _ e]
          split
          · rename_i e'; simp only [Option.some.injEq, Prod.mk.injEq] at e'; exact (hne _ e'.1).elim
          · rename_i e'; simp only [Option.some.injEq, Prod.mk.injEq] at e'; obtain ⟨_, rfl, rfl⟩ := e'; exact hb
          · rename_i e'; cases e'
        · cases hb
      · cases hb
    · cases hb
  · split at hb
    · rename_i e0
      split at hb
      · rename_i e1
        split at hb
        · rename_i e2
          split at hb
          · rename_i e3
            split at hb
            · rename_i e4
              simp only [e0, e1, h _ _ _ _ e2, e3, h _ _ _ _ e4]
              exact hb
            · cases hb
          · cases hb
        · cases hb
      · cases hb
    · cases hb
theorem evC_le (hle : InvLe inv inv') {k k' : Nat} (hk : k ≤ k') : ∀ {ac : AC} {fr : Fr} {st : St} {r : Ex × Fr × St}, evC E inv k ac fr st = some r → evC E inv' k' ac fr st = some r := by
  intro ac
  induction ac with
  | skip => intro fr st r h; exact h
  | ret => intro fr st r h; exact h
  | exit id => intro fr st r h; exact h
  | region ops af ks kb ps =>
    intro fr st r h
    simp only [evC] at h ⊢
    split at h
    · rename_i e
      simp only [regionA_le hle e]
      exact h
    · cases h
  | seq a b ha hb =>
    intro fr st r h
    simp only [evC] at h ⊢
    split at h
    · rename_i e
      simp only [ha e]
      exact hb h
    · rename_i hne
      rw [ha h]
      split
      · rename_i e; exact (hne _ _ (h.trans e)).elim
      · rfl
  | cond c a b ha hb =>
    intro fr st r h
    simp only [evC] at h ⊢
    split at h
    · rename_i e; first | exact ha h | (simp only [e]; exact ha h)
    · rename_i e; first | exact hb h | (simp only [e]; exact hb h)
    · cases h
  | block id b hb =>
    intro fr st r h
    simp only [evC] at h ⊢
    split at h
    · rename_i e
      simp only [hb e]
      exact h
    · rename_i hne
      rw [hb h]
      split
      · rename_i e; exact (hne _ _ _ (h.trans e)).elim
      · rfl
  | loop ks kb b hb =>
    intro fr st r h
    simp only [evC] at h ⊢
    exact loopN_more hk (loopN_imp (fun fr st r h => hb h) h)
  | scope b hb =>
    intro fr st r h
    simp only [evC] at h ⊢
    exact hb h
  | rfun x ps asg body _ _ =>
    intro fr st r h
    simp only [evC] at h ⊢
    split at h
    · rename_i e0
      split at h
      · rename_i hb
        split at h
        · rename_i e
          try simp only [e0]
          rw [if_pos hb]
          simp only [hle _ _ _ _ _ e]
          exact h
        · cases h
      · cases h
    · cases h
end
theorem evF_step (E : Env) : ∀ m, InvLe (evF E m) (evF E (m + 1))
  | 0 => fun _ _ _ _ _ h => by simp [evF] at h
  | m + 1 => fun raw c args st r h => by
    simp only [evF] at h
    show (match E.tab c args with | some r => some (r, st) | none => bodyA E raw c args st (evC E (evF E (m + 1)) (m + 1))) = some r
    cases e : E.tab c args with
    | some r' => rw [e] at h; exact h
    | none =>
      rw [e] at h
      exact bodyA_imp (run := evC E (evF E m) m) (run' := evC E (evF E (m + 1)) (m + 1)) (fun ac fr st r h => evC_le (evF_step E m) (Nat.le_succ m) h) h
theorem evF_le (E : Env) {m m' : Nat} (h : m ≤ m') : InvLe (evF E m) (evF E m') := by
  induction h with
  | refl => exact InvLe.refl _
  | step _ ih => exact fun raw c args st r h => evF_step E _ _ _ _ _ _ (ih _ _ _ _ _ h)
open Classical in
/-- What a call answers, with fuel enough. -/
noncomputable def callE (E : Env) : Inv := fun raw c args st => if h : ∃ r m, evF E m raw c args st = some r then some h.choose else none
theorem callE_of {E : Env} {m : Nat} {raw : Bool} {c : Cal} {args : List AV} {st : St} {r : AV × St} (h : evF E m raw c args st = some r) : callE E raw c args st = some r := by
  have hex : ∃ r m, evF E m raw c args st = some r := ⟨r, m, h⟩
  unfold callE
  rw [dif_pos hex]
  obtain ⟨k, hk⟩ := hex.choose_spec
  have h1 := evF_le E (Nat.le_max_left m k) _ _ _ _ _ h
  have h2 := evF_le E (Nat.le_max_right m k) _ _ _ _ _ hk
  rw [h1] at h2
  exact h2.symm
theorem callE_inv {E : Env} {raw : Bool} {c : Cal} {args : List AV} {st : St} {r : AV × St} (h : callE E raw c args st = some r) : ∃ m, evF E m raw c args st = some r := by
  unfold callE at h
  split at h
  · rename_i hex
    simp only [Option.some.injEq] at h
    subst h
    exact hex.choose_spec
  · cases h
theorem callE_lim (E : Env) : Lim (evF E) (callE E) := ⟨fun raw c args st r h => let ⟨m, hm⟩ := callE_inv h; ⟨m, fun _ hm' => evF_le E hm' _ _ _ _ _ hm⟩⟩
/-- Code, with fuel enough. -/
noncomputable def codeE (E : Env) : AC → Fr → St → Out := codeG E (callE E)
theorem bodyA_lim {E : Env} {raw : Bool} {c : Cal} {args : List AV} {st : St} {r : AV × St} (h : bodyA E raw c args st (codeE E) = some r) : ∃ m, bodyA E raw c args st (evC E (evF E m) m) = some r := by
  unfold bodyA at h ⊢
  split at h
  · split at h
    · rename_i e0
      split at h
      · rename_i hn
        split at h
        · cases h
        · rename_i hne e
          obtain ⟨m, hm⟩ := codeG_lim (callE_lim E) e
          refine ⟨m, ?_⟩
          try simp only [e0]
          rw [if_pos hn, hm m (Nat.le_refl _)]
          split
          · rename_i e'; simp only [Option.some.injEq, Prod.mk.injEq] at e'; exact (hne _ e'.1).elim
          · rename_i e'; simp only [Option.some.injEq, Prod.mk.injEq] at e'; obtain ⟨_, rfl, rfl⟩ := e'; exact h
          · rename_i e'; cases e'
        · cases h
      · cases h
    · cases h
  · split at h
    · rename_i e0
      split at h
      · rename_i e1
        split at h
        · rename_i e2
          split at h
          · rename_i e3
            split at h
            · rename_i e4
              obtain ⟨m, hm⟩ := max_ge (codeG_lim (callE_lim E) e2) (codeG_lim (callE_lim E) e4)
              obtain ⟨g1, g2⟩ := hm m (Nat.le_refl _)
              exact ⟨m, by simp only [e0, e1, g1, e3, g2]; exact h⟩
            · cases h
          · cases h
        · cases h
      · cases h
    · cases h
/-- **A call is its function's body, or what the table says.** -/
theorem callE_eq (E : Env) (raw : Bool) (c : Cal) (args : List AV) (st : St) : callE E raw c args st = match E.tab c args with | some r => some (r, st) | none => bodyA E raw c args st (codeE E) := by
  apply Option.ext
  intro r
  cases e : E.tab c args with
  | some r' =>
    constructor
    · intro h
      obtain ⟨m, hm⟩ := callE_inv h
      cases m with
      | zero => simp [evF] at hm
      | succ m => simp only [evF, e] at hm; exact hm
    · intro h
      exact callE_of (m := 1) (by simp only [evF, e]; exact h)
  | none =>
    constructor
    · intro h
      obtain ⟨m, hm⟩ := callE_inv h
      cases m with
      | zero => simp [evF] at hm
      | succ m =>
        simp only [evF, e] at hm
        exact bodyA_imp (run := evC E (evF E m) m) (fun ac fr st r h => evC_codeG (fun _ _ _ _ _ h => callE_of h) h) hm
    · intro h
      obtain ⟨m, hm⟩ := bodyA_lim h
      exact callE_of (m := m + 1) (by simp only [evF, e]; exact hm)
end Go.Proofs.AM

namespace Go.Proofs.AM
open Go

/-- Values that say nothing of the heap. -/
def clo : Nat → AV → Bool
  | 0, v => v.scal
  | d + 1, v => match v with
    | .lst _ _ _ cs => cs.all (clo d)
    | .pl cs => cs.all (clo d)
    | .agg cs => cs.all (clo d)
    | .tup cs => cs.all (clo d)
    | .fn _ fs cs => fs.all (clo d) && cs.all (clo d)
    | .gref _ _ => true
    | v => v.scal
theorem all_get {p : AV → Bool} {l : List AV} (h : l.all p = true) (k : Nat) (hk : k < l.length) : p (l[k]'hk) = true := (List.all_eq_true.1 h) _ (List.getElem_mem _)
section
variable {P : Program} {E : Env} {c c' : Cf} {st : St} {w : World}
theorem VR.clo (hf : ∀ b, c.fz b → c'.fz b) : ∀ (d : Nat) {v : AV} {x : Value}, AM.clo d v = true → VR c w v x → VR c' w v x
  | 0, v, x, h, hv => by
    cases hv <;> simp [AM.clo, AV.scal] at h
    · exact .bool _
    · exact .int _ _
    · exact .nilf
    · exact .nilm
    · exact .nilp
  | d + 1, v, x, h, hv => by
    cases hv with
    | bool b => exact .bool b
    | int k n => exact .int k n
    | nilf => exact .nilf
    | nilm => exact .nilm
    | nilp => exact .nilp
    | gref g o => exact .gref g o
    | sl es id ver off n cap b k hb hcap hmx hoff => simp [AM.clo, AV.scal] at h
    | ref id ver off b k hb => simp [AM.clo, AV.scal] at h
    | map id b k hb => simp [AM.clo, AV.scal] at h
    | yld id b k hb => simp [AM.clo, AV.scal] at h
    | lst nl ex n cs a cap cv hnl hcap hmx hex hp hc hr =>
      simp only [AM.clo] at h
      exact .lst nl ex n cs a cap cv hnl hcap hmx hex hp (fun k hk => let ⟨ad, e, h0, h1, h2⟩ := hc k hk; ⟨ad, e, hf _ h0, h1, h2⟩) (fun k hk => VR.clo hf d (all_get h k hk) (hr k hk))
    | pl cs ad cv hc hr =>
      simp only [AM.clo] at h
      exact .pl cs ad cv (fun k hk => let ⟨h0, h1, h2⟩ := hc k hk; ⟨hf _ h0, h1, h2⟩) (fun k hk => VR.clo hf d (all_get h k hk) (hr k hk))
    | agg cs cs' hl h1 hr =>
      simp only [AM.clo] at h
      exact .agg cs cs' hl h1 (fun k hk => VR.clo hf d (all_get h k hk) (hr k hk))
    | tup cs cs' hl hr =>
      simp only [AM.clo] at h
      exact .tup cs cs' hl (fun k hk => VR.clo hf d (all_get h k hk) (hr k hk))
    | fn f fs cs fs' cs' h1 h2 hr1 hr2 =>
      simp only [AM.clo, Bool.and_eq_true] at h
      exact .fn f fs cs fs' cs' h1 h2 (fun k hk => VR.clo hf d (all_get h.1 k hk) (hr1 k hk)) (fun k hk => VR.clo hf d (all_get h.2 k hk) (hr2 k hk))
theorem VL.clo (hf : ∀ b, c.fz b → c'.fz b) {d : Nat} {as : List AV} {vs : List Value} (h : as.all (AM.clo d) = true) (hv : VL c w as vs) : VL c' w as vs := ⟨hv.1, fun k hk => VR.clo hf d (all_get h k hk) (hv.2 k hk)⟩
theorem CL.clo (hf : ∀ b, c.fz b → c'.fz b) {d : Nat} {as : List AV} {vs : List Value} (h : as.all (AM.clo d) = true) (hv : CL c w as vs) : CL c' w as vs := ⟨hv.len, hv.one, fun k hk => VR.clo hf d (all_get h k hk) (hv.rel k hk)⟩
def empty : St := ⟨[], 0⟩
/-- **What a closed call answers at the empty heap, it answers at every heap.** -/
theorem frame {inv : Inv} (hinv : SimInv P E inv) {d : Nat} (hg : ∀ g cs, E.glob g = some cs → cs.all (AM.clo d) = true) {raw : Bool} {f : Nat} {fs cs args : List AV} {r : AV} {l : Nat} (h : inv raw (.fn f fs cs) args empty = some (r, ⟨[], l⟩))
    (h1 : fs.all (AM.clo d) = true) (h2 : cs.all (AM.clo d) = true) (h3 : args.all (AM.clo d) = true) (h4 : AM.clo d r = true) : TabOk P E f fs cs args r := by
  obtain ⟨fn, a1, a2, a3, hsim⟩ := hinv.fn _ _ _ _ _ _ _ _ h
  refine ⟨fn, a1, a2, a3, fun st c w fs' cs' vs hr hfs hcs hvs => ?_⟩
  let c0 : Cf := { bt := fun _ _ => none, fz := c.fz }
  have hf : ∀ b, c.fz b → c0.fz b := fun _ h => h
  have hr0 : HR P E c0 w empty :=
    { dom := fun _ _ _ h => by cases h
      lt := fun _ _ _ _ h => by cases h
      obj := fun _ _ _ _ h => by cases h
      inj := fun _ _ _ _ _ _ _ _ _ h => by cases h
      fzo := fun _ _ ⟨_, _, _, _, h⟩ => by cases h
      fzl := hr.fzl
      glob := fun g cs e => by
        obtain ⟨k1, cur, e', fr, hh, vs, rest, hc, hl⟩ := hr.glob g cs e
        exact ⟨k1, cur, e', fr, hh, vs, rest, hc, CL.clo hf (hg g cs e) hl⟩
      fut := fun _ _ _ h => by cases h
      tot := fun id ver h => by simp [cur, empty] at h }
  refine (hsim c0 w fs' cs' vs hr0 (VL.clo hf h1 hfs) (VL.clo hf h2 hcs) (VL.clo hf h3 hvs)).mono fun e w' he => ?_
  cases e with
  | panicked _ => exact he.elim
  | outgrown => exact he.elim
  | returned v =>
    obtain ⟨c1, hr1, g1, hv1⟩ := he
    have hno : ∀ b, ¬ Owned c0 empty b := fun b ⟨_, _, _, _, h⟩ => by cases h
    have hfr : ∀ b, b < w.heap.size → w'.heap[b]? = w.heap[b]? := fun b hb => g1.frame b hb (hno b)
    have hfz1 : ∀ b, c1.fz b → c.fz b ∨ w.heap.size ≤ b := fun b hb => by
      rcases g1.fz b hb with h | h | h
      · exact .inl h
      · exact absurd h (hno b)
      · exact .inr h
    have hle : c.le { bt := c.bt, fz := fun b => c.fz b ∨ c1.fz b } := ⟨fun _ _ _ h => h, fun _ h => .inl h⟩
    have hk : ∀ b, c.fz b → w'.heap[b]? = w.heap[b]? := fun b hb => hfr b (hr.fzl b hb)
    refine ⟨{ bt := c.bt, fz := fun b => c.fz b ∨ c1.fz b }, { dom := hr.dom, lt := fun id v b k e => Nat.lt_of_lt_of_le (hr.lt id v b k e) g1.size, obj := fun id v b k e => (hr.obj id v b k e).mono hle hk (fun _ => hfr b (hr.lt id v b k e)), inj := hr.inj, fzo := fun b hb ho => ?_, fzl := fun b hb => ?_, glob := fun g cs e => ⟨.inl (hr.glob g cs e).1, (hr.glob g cs e).2.mono hle hk (hk _ (hr.glob g cs e).1)⟩, fut := hr.fut, tot := hr.tot },
      { le := hle, frame := fun b hb _ => hfr b hb, fz := fun b hb => ?_, own := fun b ho => .inl ho, size := g1.size, os := g1.os, tape := g1.tape, output := g1.output }, VR.clo (c' := { bt := c.bt, fz := fun b => c.fz b ∨ c1.fz b }) (fun b hb => .inr hb) d h4 hv1⟩
    · have ho' : Owned c st b := ho
      rcases hb with hb | hb
      · exact hr.fzo b hb ho'
      · rcases hfz1 b hb with h | h
        · exact hr.fzo b h ho'
        · obtain ⟨id, v, k, _, e⟩ := ho'
          have := hr.lt _ _ _ _ e
          omega
    · rcases hb with hb | hb
      · exact Nat.lt_of_lt_of_le (hr.fzl b hb) g1.size
      · exact hr1.fzl b hb
    · rcases hb with hb | hb
      · exact .inl hb
      · rcases hfz1 b hb with h | h
        · exact .inl h
        · exact .inr (.inr h)
end
/-- What is known of a call leans on the globals alone. -/
theorem HR.congr {P : Program} {E E' : Env} (hg : E.glob = E'.glob) {c : Cf} {w : World} {st : St} (h : HR P E c w st) : HR P E' c w st :=
  ⟨h.dom, h.lt, h.obj, h.inj, h.fzo, h.fzl, fun g cs e => h.glob g cs (by rw [hg]; exact e), h.fut, h.tot⟩
theorem TabOk.congr {P : Program} {E E' : Env} (hg : E.glob = E'.glob) {f : Nat} {fs cs args : List AV} {r : AV} (h : TabOk P E f fs cs args r) : TabOk P E' f fs cs args r := by
  obtain ⟨fn, h1, h2, h3, h4⟩ := h
  refine ⟨fn, h1, h2, h3, fun st c w fs' cs' vs hr k1 k2 k3 => (h4 st c w fs' cs' vs (hr.congr hg.symm) k1 k2 k3).mono fun e w' he => ?_⟩
  cases e with
  | returned v => obtain ⟨c', g1, g2, g3⟩ := he; exact ⟨c', g1.congr hg, g2, g3⟩
  | panicked _ => exact he.elim
  | outgrown => exact he.elim
end Go.Proofs.AM

namespace Go.Proofs.AM
open Go

section
variable (E : Env)
theorem codeE_skip (fr : Fr) (st : St) : codeE E .skip fr st = some (.norm, fr, st) := rfl
theorem codeE_ret (fr : Fr) (st : St) : codeE E .ret fr st = some (.ret, fr, st) := rfl
theorem codeE_exit (id : Nat) (fr : Fr) (st : St) : codeE E (.exit id) fr st = some (.exit id, fr, st) := rfl
theorem codeE_region (ops : List AO) (after : Option (List (List Nat))) (ks kb ps : List Nat) (fr : Fr) (st : St) : codeE E (.region ops after ks kb ps) fr st = match regionA E (callE E) ops after fr st with
    | some (fr1, st1) => match pubA ps fr1 st1 with
      | some (fr', st') => some (.norm, { ts := keepT fr'.ts ks, bs := keepB fr'.bs kb }, st')
      | none => none
    | none => none := rfl
theorem codeE_seq (a b : AC) (fr : Fr) (st : St) : codeE E (.seq a b) fr st = match codeE E a fr st with | some (.norm, fr', st') => codeE E b fr' st' | r => r := rfl
theorem codeE_cond (c : AX) (a b : AC) (fr : Fr) (st : St) : codeE E (.cond c a b) fr st = match rdV fr.ts c with
    | some (.bool true) => codeE E a fr st
    | some (.bool false) => codeE E b fr st
    | _ => none := rfl
theorem codeE_block (id : Nat) (b : AC) (fr : Fr) (st : St) : codeE E (.block id b) fr st = match codeE E b fr st with
    | some (.exit id', fr', st') => if id' = id then some (.norm, fr', st') else some (.exit id', fr', st')
    | r => r := rfl
theorem codeE_loop (ks kb : List Nat) (b : AC) (fr : Fr) (st : St) : codeE E (.loop ks kb b) fr st = loopE (fun fr st => codeE E b { ts := keepT fr.ts ks, bs := keepB fr.bs kb } st) fr st := rfl
theorem codeE_scope (b : AC) (fr : Fr) (st : St) : codeE E (.scope b) fr st = codeE E b fr st := rfl
/-- A loop's rounds, told by what they come to. -/
theorem loopE_norm {f : Fr → St → Out} {fr fr' : Fr} {st st' : St} (h : f fr st = some (.norm, fr', st')) : loopE f fr st = loopE f fr' st' := by
  rw [loopE_eq, h]
theorem loopE_out {f : Fr → St → Out} {fr fr' : Fr} {st st' : St} {e : Ex} (h : f fr st = some (e, fr', st')) (he : e ≠ .norm) : loopE f fr st = some (e, fr', st') := by
  rw [loopE_eq, h]
  cases e with
  | norm => exact absurd rfl he
  | _ => rfl
end

/-! ### From the outside -/
section
variable {P : Program} {E : Env}
/-- What lies there when the call begins is written by nobody. -/
def Cf.all (w : World) : Cf := { bt := fun _ _ => none, fz := fun b => b < w.heap.size }
theorem HR.all {w : World} (hg : ∀ g cs, E.glob g = some cs → g < w.heap.size ∧ FrzR (Cf.all w) w g cs) : HR P E (Cf.all w) w empty where
  dom _ _ _ h := by cases h
  lt _ _ _ _ h := by cases h
  obj _ _ _ _ h := by cases h
  inj _ _ _ _ _ _ _ _ _ h := by cases h
  fzo _ _ h := by obtain ⟨_, _, _, _, h⟩ := h; cases h
  fzl _ h := h
  glob g cs e := hg g cs e
  fut _ _ _ h := by cases h
  tot id ver h := by simp [cur, empty] at h
/-- **The whole call.** -/
theorem whole (hE : EnvOk P E) {w : World} (hg : ∀ g cs, E.glob g = some cs → g < w.heap.size ∧ FrzR (Cf.all w) w g cs) {f : Nat} {as : List AV} {vs : List Value} (hv : VL (Cf.all w) w as vs) {r : AV} {st' : St} (h : callE E false (.fn f [] []) as empty = some (r, st')) :
    Calls P f vs.toArray w (fun e w' => ∃ v, e = .returned v ∧ (∃ c', VR c' w' r v) ∧ (∀ b, b < w.heap.size → w'.heap[b]? = w.heap[b]?) ∧ w.heap.size ≤ w'.heap.size ∧ w'.os = w.os ∧ w'.tape = w.tape ∧ w'.output = w.output) := by
  obtain ⟨m, hm⟩ := callE_inv h
  obtain ⟨fn, _, _, _, hsim⟩ := (sim_all hE m).fn _ _ _ _ _ _ _ _ hm
  have := hsim (Cf.all w) w [] [] vs (HR.all hg) ⟨rfl, by simp⟩ ⟨rfl, by simp⟩ hv
  simp only [List.nil_append, List.append_nil] at this
  refine callsIn_wide.1 (this.mono fun e w' he => ?_)
  cases e with
  | panicked _ => exact he.elim
  | outgrown => exact he.elim
  | returned v =>
    obtain ⟨c', _, g, hr⟩ := he
    exact ⟨v, rfl, ⟨c', hr⟩, fun b hb => g.frame b hb (fun ⟨_, _, _, _, h⟩ => by cases h), g.size, g.os, g.tape, g.output⟩
end
end Go.Proofs.AM
