/-
  The relation of the whole state, and the operations that change nothing.
-/
import Derived.Test.YtkifeiienlkmcaaDoorAmB
import Derived.IntWalk
set_option linter.all false
namespace Go.Proofs.AM
open Go

def FrzR (c : Cf) (w : World) (b : Nat) (cs : List AV) : Prop :=
  ∃ (cur : Array Value) (e : TypeId) (fr : Nat × Nat), w.heap[b]? = some (.cells cur e fr) ∧ ∃ vs rest, cur = (vs ++ rest).toArray ∧ CL c w cs vs
def LoopR (P : Program) (c : Cf) (w : World) (b : Nat) (busy : Bool) (ps : List Nat) (asg body : AC) (ts : List (Nat × TV)) : Prop :=
  ∃ r : Loop, w.heap[b]? = some (.loop r) ∧ r.state = (if busy then .busy else .ready) ∧ r.pending = none ∧ r.params.toList = ps ∧ okC P r.tmps.size asg r.assign = true ∧ okC P r.tmps.size body r.body = true ∧ noRf asg = true ∧ noRf body = true ∧
    (∀ p ∈ ps, p < r.tmps.size) ∧ (∀ t v, lookT t ts = some v → ∃ x, r.tmps[t]? = some x ∧ ∀ lam, TR c w lam v x)
def ObjR (P : Program) (c : Cf) (w : World) (b k ver : Nat) : Option AObj → Prop
  | some (.cells v gr cs) => v = ver → BlkR c w b cs ∧ GrowR w b k gr
  | some (.frz v cs) => v = ver → c.fz b ∧ FrzR c w b cs
  | some (.map es) => ver = 0 → MapR c w b es
  | some (.loop busy ps asg body ts) => ver = 0 → LoopR P c w b busy ps asg body ts
  | some .gone => True
  | none => True
/-- Is a version an object's present one? -/
def cur (st : St) (id ver : Nat) : Prop :=
  match st.heap[id]? with
  | some (.cells v _ _) => v = ver
  | some (.frz v _) => v = ver
  | some (.map _) => ver = 0
  | some (.loop ..) => ver = 0
  | _ => False
theorem own_cur {st : St} {id ver : Nat} (h : own st id ver) : cur st id ver := by
  unfold own at h
  unfold cur
  split at h <;> simp_all
structure HR (P : Program) (E : Env) (c : Cf) (w : World) (st : St) : Prop where
  dom : ∀ id ver x, c.bt id ver = some x → id < st.heap.length
  lt : ∀ id ver b k, c.bt id ver = some (b, k) → b < w.heap.size
  obj : ∀ id ver b k, c.bt id ver = some (b, k) → ObjR P c w b k ver (st.heap[id]?)
  inj : ∀ id ver id' ver' b k k', own st id ver → own st id' ver' → c.bt id ver = some (b, k) → c.bt id' ver' = some (b, k') → id = id'
  fzo : ∀ b, c.fz b → ¬ Owned c st b
  fzl : ∀ b, c.fz b → b < w.heap.size
  glob : ∀ g cs, E.glob g = some cs → c.fz g ∧ FrzR c w g cs
  fut : ∀ id ver x, c.bt id ver = some x → ∀ v gr cs, st.heap[id]? = some (.cells v gr cs) → ver ≤ v
  tot : ∀ id ver, cur st id ver → ∃ x, c.bt id ver = some x
/-- What a stretch of the run leaves alone. -/
structure Gd (c : Cf) (st : St) (w : World) (c' : Cf) (st' : St) (w' : World) : Prop where
  le : c.le c'
  frame : ∀ b, b < w.heap.size → ¬ Owned c st b → w'.heap[b]? = w.heap[b]?
  fz : ∀ b, c'.fz b → c.fz b ∨ Owned c st b ∨ w.heap.size ≤ b
  own : ∀ b, Owned c' st' b → Owned c st b ∨ w.heap.size ≤ b
  size : w.heap.size ≤ w'.heap.size
  os : w'.os = w.os
  tape : w'.tape = w.tape
  output : w'.output = w.output
theorem Gd.refl (c : Cf) (st : St) (w : World) : Gd c st w c st w := ⟨Cf.le_refl c, fun _ _ _ => rfl, fun _ h => .inl h, fun _ h => .inl h, Nat.le_refl _, rfl, rfl, rfl⟩
theorem Gd.trans {c c' c'' : Cf} {st st' st'' : St} {w w' w'' : World} (h : Gd c st w c' st' w') (k : Gd c' st' w' c'' st'' w'') : Gd c st w c'' st'' w'' where
  le := Cf.le_trans h.le k.le
  frame b hb ho := by
    rw [k.frame b (Nat.lt_of_lt_of_le hb h.size) (fun ho' => (h.own b ho').elim ho (fun hl => by omega)), h.frame b hb ho]
  fz b hb := by
    rcases k.fz b hb with h1 | h1 | h1
    · exact h.fz b h1
    · rcases h.own b h1 with h2 | h2
      · exact .inr (.inl h2)
      · exact .inr (.inr h2)
    · exact .inr (.inr (Nat.le_trans h.size h1))
  own b hb := by
    rcases k.own b hb with h1 | h1
    · exact h.own b h1
    · exact .inr (Nat.le_trans h.size h1)
  size := Nat.le_trans h.size k.size
  os := k.os.trans h.os
  tape := k.tape.trans h.tape
  output := k.output.trans h.output
/-- Blocks that nobody writes any more stay. -/
theorem HR.keeps {P : Program} {E : Env} {c c' : Cf} {w w' : World} {st st' : St} (h : HR P E c w st) (g : Gd c st w c' st' w') : ∀ b, c.fz b → w'.heap[b]? = w.heap[b]? :=
  fun b hb => g.frame b (h.fzl b hb) (h.fzo b hb)

structure SR (P : Program) (E : Env) (c0 : Cf) (st0 : St) (w0 : World) (mk : List Nat) (c : Cf) (st : St) (w : World) (lam : Nat → Nat) (bs : Bxs) : Prop where
  hr : HR P E c w st
  gd : Gd c0 st0 w0 c st w
  bx : ∀ s cs, lookB s bs = some cs → w0.heap.size ≤ lam s ∧ lam s < w.heap.size ∧ ¬ c.fz (lam s) ∧ ¬ Owned c st (lam s) ∧ BlkR c w (lam s) cs
  bd : ∀ s s' cs cs', lookB s bs = some cs → lookB s' bs = some cs' → lam s = lam s' → s = s'
  md : ∀ r ∈ mk, w.heap[r]? = some (.deferred (some [])) ∧ w0.heap.size ≤ r ∧ ¬ c.fz r ∧ ¬ Owned c st r ∧ ∀ s cs, lookB s bs = some cs → lam s ≠ r

/-! ### Small things -/
theorem BlkR.mono {c c' : Cf} {w w' : World} (hle : c.le c') (hw : ∀ b, c.fz b → w'.heap[b]? = w.heap[b]?) {b : Nat} (hb : w'.heap[b]? = w.heap[b]?) {cs : List AV} (h : BlkR c w b cs) : BlkR c' w' b cs := by
  obtain ⟨cur, e, hh, vs, rest, hc, hl⟩ := h
  exact ⟨cur, e, hb.trans hh, vs, rest, hc, hl.mono hle hw⟩
theorem FrzR.mono {c c' : Cf} {w w' : World} (hle : c.le c') (hw : ∀ b, c.fz b → w'.heap[b]? = w.heap[b]?) {b : Nat} (hb : w'.heap[b]? = w.heap[b]?) {cs : List AV} (h : FrzR c w b cs) : FrzR c' w' b cs := by
  obtain ⟨cur, e, fr, hh, vs, rest, hc, hl⟩ := h
  exact ⟨cur, e, fr, hb.trans hh, vs, rest, hc, hl.mono hle hw⟩
theorem GrowR.mono {w w' : World} {b k : Nat} (hb : w'.heap[b]? = w.heap[b]?) {gr : Option (Nat × Nat)} (h : GrowR w b k gr) : GrowR w' b k gr := by
  cases gr with
  | none => trivial
  | some x =>
    obtain ⟨e, es⟩ := x
    obtain ⟨h0, cur, hh, hs, hm⟩ := h
    exact ⟨h0, cur, hb.trans hh, hs, hm⟩
theorem MapR.mono {c c' : Cf} {w w' : World} (hle : c.le c') (hw : ∀ b, c.fz b → w'.heap[b]? = w.heap[b]?) {b : Nat} (hb : w'.heap[b]? = w.heap[b]?) {es : List (List AV × AV)} (h : MapR c w b es) : MapR c' w' b es := by
  obtain ⟨ms, clock, hh, hl, hr⟩ := h
  exact ⟨ms, clock, hb.trans hh, hl, fun k hk => let ⟨m, e, h1, vs, h2, h3⟩ := hr k hk; ⟨m, e, h1.mono hle hw, vs, h2, h3.mono hle hw⟩⟩
theorem LoopR.mono {P : Program} {c c' : Cf} {w w' : World} (hle : c.le c') (hw : ∀ b, c.fz b → w'.heap[b]? = w.heap[b]?) {b : Nat} (hb : w'.heap[b]? = w.heap[b]?) {busy : Bool} {ps : List Nat} {asg body : AC} {ts : List (Nat × TV)}
    (h : LoopR P c w b busy ps asg body ts) : LoopR P c' w' b busy ps asg body ts := by
  obtain ⟨r, hh, h1, h2, h3, h4, h5, h8, h9, h6, h7⟩ := h
  exact ⟨r, hb.trans hh, h1, h2, h3, h4, h5, h8, h9, h6, fun t v e => let ⟨x, hx, hr⟩ := h7 t v e; ⟨x, hx, fun lam => (hr lam).mono hle hw⟩⟩
/-- An object stays what it is, if its block does, or if it is a version that is gone. -/
theorem ObjR.mono {P : Program} {c c' : Cf} {w w' : World} (hle : c.le c') (hw : ∀ b, c.fz b → w'.heap[b]? = w.heap[b]?) {b k ver id : Nat} {st : St} (hb : own st id ver → w'.heap[b]? = w.heap[b]?)
    (h : ObjR P c w b k ver (st.heap[id]?)) : ObjR P c' w' b k ver (st.heap[id]?) := by
  unfold own at hb
  cases ho : st.heap[id]? with
  | none => trivial
  | some o =>
    rw [ho] at h hb
    cases o with
    | cells v gr cs => exact fun e => let ⟨h1, h2⟩ := h e; ⟨h1.mono hle hw (hb e), h2.mono (hb e)⟩
    | frz v cs => exact fun e => let ⟨h1, h2⟩ := h e; ⟨hle.2 _ h1, h2.mono hle hw (hw _ h1)⟩
    | map es => exact fun e => (h e).mono hle hw (hb e)
    | loop busy ps asg body ts => exact fun e => (h e).mono hle hw (hb e)
    | gone => trivial

theorem add_add (a : Addr) (i j : Nat) : (a.add i).add j = a.add (i + j) := by
  unfold Addr.add
  split <;> split <;> split <;> simp_all <;> omega
theorem add_block (a : Addr) (i : Nat) : (a.add i).block = a.block := by unfold Addr.add; split <;> rfl
theorem add_flat (b o i : Nat) : (⟨b, o, none⟩ : Addr).add i = ⟨b, o + i, none⟩ := by unfold Addr.add; split <;> simp_all

/-- Cells that are read from an address on. -/
def Reads (c : Cf) (w : World) (ad : Addr) (cs : List AV) : Prop :=
  ∃ vs, CL c w cs vs ∧ ∀ k v, vs[k]? = some v → w.cell? (ad.add k) = some v
theorem Reads.of_blk {c : Cf} {w : World} {b : Nat} {cs : List AV} {cur : Array Value} {e : TypeId} {fr : Nat × Nat} (hh : w.heap[b]? = some (.cells cur e fr)) {vs rest : List Value} (hc : cur = (vs ++ rest).toArray)
    (hl : CL c w cs vs) (off : Nat) : Reads c w ⟨b, off, none⟩ (cs.drop off) := by
  refine ⟨vs.drop off, hl.drop off, fun k v hk => ?_⟩
  rw [add_flat]
  rw [List.getElem?_drop] at hk
  have : (vs ++ rest)[off + k]? = some v := by rw [List.getElem?_append_left (List.getElem?_eq_some_iff.1 hk).1]; exact hk
  simp [World.cell?, hh, hc, this]
theorem Reads.take {c : Cf} {w : World} {ad : Addr} {cs : List AV} (h : Reads c w ad cs) (n : Nat) : Reads c w ad (cs.take n) := by
  obtain ⟨vs, hl, hc⟩ := h
  exact ⟨vs.take n, hl.take n, fun k v hk => hc k v (by rw [List.getElem?_take] at hk; split at hk <;> simp_all)⟩
theorem Reads.drop {c : Cf} {w : World} {ad : Addr} {cs : List AV} (h : Reads c w ad cs) (n : Nat) : Reads c w (ad.add n) (cs.drop n) := by
  obtain ⟨vs, hl, hc⟩ := h
  exact ⟨vs.drop n, hl.drop n, fun k v hk => by rw [add_add]; exact hc _ v (by rw [List.getElem?_drop] at hk; exact hk)⟩

/-! ### Operands -/
section
variable {P : Program} {E : Env} {c : Cf} {w : World} {lam : Nat → Nat} {ts : List (Nat × TV)} {a : Act}
theorem okV_VR {v : AV} {x : Value} (h : okV v x = true) : VR c w v x := by
  unfold okV at h
  split at h
  · simp at h; subst h; exact .bool _
  · simp at h; obtain ⟨rfl, rfl⟩ := h; exact .int _ _
  · exact .lst (some true) true 0 [] none 0 (fun _ => undef) (by simp) (Nat.le_refl _) (Nat.zero_le _) (fun _ => rfl) (by simp) (by simp) (by simp)
  · exact .nilf
  · exact .nilm
  · exact .nilp
  · cases h
theorem okV_one {v : AV} {x : Value} (h : okV v x = true) : x.oneCell' = true := by
  unfold okV at h
  split at h <;> first | rfl | cases h
theorem okVs_CL : ∀ {vs : List AV} {xs : List Value}, okVs vs xs = true → CL c w vs xs
  | [], [], _ => CL.nil c w
  | v :: vs, x :: xs, h => by
    simp [okVs] at h
    exact CL.cons (okV_VR h.1) (okV_one h.1) (okVs_CL h.2)
  | [], _ :: _, h => by simp [okVs] at h
  | _ :: _, [], h => by simp [okVs] at h
theorem eval_tmp {t : Nat} {x : Value} (h : a.tmps[t]? = some x) : a.eval (.tmp t) = x := by
  simp [Act.eval, Array.getD_eq_getD_getElem?, h]
theorem rdT_TR (hts : TS c w lam ts a.tmps) {x : AX} {y : Operand} (hx : okX x y = true) {tv : TV} (h : rdT ts x = some tv) : TR c w lam tv (a.eval y) := by
  cases x <;> cases y <;> simp [okX] at hx
  · rename_i n _
    subst hx
    have h' : lookT n ts = some tv := by
      simp only [rdT] at h
      unfold noNo at h
      split at h
      · cases h
      · exact h
    obtain ⟨v, hv, hr⟩ := hts _ _ h'
    rw [eval_tmp hv]; exact hr
  · simp [rdT] at h; subst h
    exact .v (okV_VR hx)
  · simp [rdT] at h; subst h; subst hx
    exact .v (.gref _ _)
  · simp [rdT] at h; subst h; subst hx
    exact .v (.fn _ [] [] [] [] rfl rfl (by simp) (by simp))
theorem rdV_VR (hts : TS c w lam ts a.tmps) {x : AX} {y : Operand} (hx : okX x y = true) {v : AV} (h : rdV ts x = some v) : VR c w v (a.eval y) := by
  unfold rdV at h
  split at h
  · rename_i u e
    simp at h; subst h
    have := rdT_TR hts hx e
    cases this; assumption
  · cases h
theorem rdI_int (hts : TS c w lam ts a.tmps) {x : AX} {y : Operand} (hx : okX x y = true) {n : Int} (h : rdI ts x = some n) : ∃ k, a.eval y = .int k n := by
  unfold rdI at h
  split at h
  · rename_i k m e
    simp at h; subst h
    have := rdV_VR hts hx e
    generalize a.eval y = z at this ⊢
    cases this
    exact ⟨_, rfl⟩
  · cases h
theorem rdVs_rel (hts : TS c w lam ts a.tmps) : ∀ {xs : List AX} {ys : List Operand} {vs : List AV}, okXs xs ys = true → rdVs ts xs = some vs →
    (ys.map a.eval).length = vs.length ∧ ∀ k (h : k < vs.length), VR c w (vs[k]'h) ((ys.map a.eval).getD k undef)
  | [], [], vs, _, h => by simp [rdVs] at h; subst h; simp
  | x :: xs, y :: ys, vs, hok, h => by
    simp [okXs] at hok
    simp only [rdVs] at h
    split at h
    · rename_i v e
      split at h
      · rename_i us e'
        simp at h; subst h
        obtain ⟨h1, h2⟩ := rdVs_rel hts hok.2 e'
        refine ⟨by simp at h1 ⊢; exact h1, fun k hk => ?_⟩
        cases k with
        | zero => exact rdV_VR hts hok.1 e
        | succ k => exact h2 k (Nat.lt_of_succ_lt_succ hk)
      · cases h
    · cases h
  | [], _ :: _, _, h, _ => by simp [okXs] at h
  | _ :: _, [], _, h, _ => by simp [okXs] at h
end
end Go.Proofs.AM

namespace Go.Proofs.AM
open Go

section
variable {P : Program} {E : Env} {c0 : Cf} {st0 : St} {w0 : World} {mk : List Nat} {c : Cf} {st : St} {w : World} {lam : Nat → Nat} {bs : Bxs} {ts : List (Nat × TV)} {a : Act}

theorem sizeIs_info {t n : Nat} (h : sizeIs P t n = true) : ∃ i, P.info? t = some i ∧ i.size = n := by
  unfold sizeIs at h
  split at h
  · rename_i i e; exact ⟨i, e, by simpa using h⟩
  · cases h
theorem run_sizeOf {t n : Nat} (h : sizeIs P t n = true) (w : World) : (Go.sizeOf t).run P w = .ok n w := by
  obtain ⟨i, e, hs⟩ := sizeIs_info h
  simp [Go.sizeOf, typeInfo, e, hs]
theorem aggIs_size {t n : Nat} {ag : Bool} (h : aggIs P t ag n = true) : sizeIs P t n = true := by
  unfold aggIs at h; simp at h; exact h.1
theorem aggIs_one {t n : Nat} (h : aggIs P t false n = true) : n = 1 := by
  unfold aggIs at h
  simp only [Bool.and_eq_true] at h
  have h := h.2
  split at h <;> simp at h
  exact h
theorem run_isAgg {t n : Nat} {ag : Bool} (h : aggIs P t ag n = true) (w : World) : (isAgg t).run P w = .ok ag w := by
  unfold aggIs at h
  simp only [Bool.and_eq_true] at h
  have h := h.2
  split at h
  · rename_i fs e; subst h; simp [isAgg, run_underlying e]
  · rename_i x y e; subst h; simp [isAgg, run_underlying e]
  · rename_i d h1 h2 e
    simp at h
    obtain ⟨rfl, _⟩ := h
    simp only [isAgg, Sem.run_bind, run_underlying e, Result.andThen_ok]
    cases d <;> first | rfl | (exact absurd rfl (h1 _)) | (exact absurd rfl (h2 _ _))
  · cases h

theorem ofCells_agg {n : Nat} {cs : List AV} {v : AV} {vs : List Value} (h : ofCells true n cs = some v) (hl : CL c w cs vs) : n ≤ vs.length ∧ VR c w v (.agg (vs.take n).toArray) := by
  unfold ofCells at h
  split at h
  · rename_i hn
    simp at h; subst h
    have := hl.take n
    exact ⟨by rw [hl.len]; exact hn, .agg _ _ this.len this.one this.rel⟩
  · cases h
theorem ofCells_one {n : Nat} {cs : List AV} {v : AV} {vs : List Value} (h : ofCells false n cs = some v) (hl : CL c w cs vs) : ∃ x rest, vs = x :: rest ∧ VR c w v x ∧ x.oneCell' = true := by
  unfold ofCells at h
  split at h
  · simp only [Bool.false_eq_true, if_false] at h
    split at h
    · rename_i u r
      split at h
      · simp at h; subst h
        obtain ⟨x, xs, rfl, h1, h2, _⟩ := hl.uncons
        exact ⟨x, xs, rfl, h1, h2⟩
      · cases h
    · cases h
  · cases h
theorem run_part {t n off : Nat} {ag : Bool} (hok : aggIs P t ag n = true) {cs : List AV} {v : AV} {vs : List Value} (h : ofCells ag n (cs.drop off) = some v) (hl : CL c w cs vs) (w1 : World) :
    ∃ x, (part t vs.toArray off).run P w1 = .ok x w1 ∧ VR c w v x ∧ x.cells.size = n := by
  have hz := run_sizeOf (aggIs_size hok) w1
  cases ag with
  | true =>
    obtain ⟨hn, hr⟩ := ofCells_agg h (hl.drop off)
    refine ⟨_, ?_, hr, ?_⟩
    · simp [part, run_isAgg hok, hz]
    · simp at hn
      simp [Value.cells]; omega
  | false =>
    obtain ⟨x, rest, hx, hr, h1⟩ := ofCells_one h (hl.drop off)
    have e1 := aggIs_one hok
    subst e1
    have hg : vs.toArray[off]? = some x := by
      have : (vs.drop off)[0]? = some x := by rw [hx]; rfl
      simpa using this
    refine ⟨x, ?_, hr, ?_⟩
    · simp [part, run_isAgg hok]
      have hg' : vs[off]? = some x := by simpa using hg
      simp [hg']
    · cases x <;> simp [Value.cells, Value.oneCell'] at h1 ⊢

theorem cellsAt_Reads (hs : SR P E c0 st0 w0 mk c st w lam bs) {tv : TV} {x : Value} (ht : TR c w lam tv x) {cs : List AV} (h : cellsAt E.glob bs st tv = some cs) : ∃ ad, x = .pointer (some ad) ∧ Reads c w ad cs := by
  unfold cellsAt at h
  split at h
  · rename_i id ver off
    cases ht; rename_i hv; cases hv
    rename_i b k hb
    have ho := hs.hr.obj _ _ _ _ hb
    split at h
    · rename_i v gr cs' e
      rw [e] at ho
      split at h
      · rename_i hv
        simp at h; subst h
        obtain ⟨⟨cur, e', hh, vs, rest, hc, hl⟩, _⟩ := ho hv
        exact ⟨_, rfl, Reads.of_blk hh hc hl off⟩
      · cases h
    · rename_i v cs' e
      rw [e] at ho
      split at h
      · rename_i hv
        simp at h; subst h
        obtain ⟨_, cur, e', fr, hh, vs, rest, hc, hl⟩ := ho hv
        exact ⟨_, rfl, Reads.of_blk hh hc hl off⟩
      · cases h
    · cases h
  · rename_i g off
    cases ht; rename_i hv; cases hv
    split at h
    · rename_i cs' e
      simp at h; subst h
      obtain ⟨_, cur, e', fr, hh, vs, rest, hc, hl⟩ := hs.hr.glob _ _ e
      exact ⟨_, rfl, Reads.of_blk hh hc hl off⟩
    · cases h
  · rename_i cs'
    simp at h; subst h
    cases ht; rename_i hv; cases hv
    rename_i ad cv hc hr
    refine ⟨ad, rfl, (List.range cs'.length).map cv, ⟨by simp, ?_, ?_⟩, ?_⟩
    · intro v hv
      simp at hv
      obtain ⟨k, hk, rfl⟩ := hv
      exact (hc k hk).2.2
    · intro k hk
      have e : ((List.range cs'.length).map cv).getD k undef = cv k := by simp [List.getD_eq_getElem?_getD, List.getElem?_map, List.getElem?_range hk]
      rw [e]; exact hr k hk
    · intro k v hk
      simp [List.getElem?_map] at hk
      obtain ⟨j, hj, rfl⟩ := hk
      obtain ⟨h1, rfl⟩ := List.getElem?_eq_some_iff.1 hj
      simp at h1 ⊢
      exact (hc k h1).2.1
  · rename_i s off
    cases ht
    split at h
    · rename_i cs' e
      simp at h; subst h
      obtain ⟨_, _, _, _, cur, e', hh, vs, rest, hc, hl⟩ := hs.bx _ _ e
      exact ⟨_, rfl, Reads.of_blk hh hc hl off⟩
    · cases h
  · cases h

/-- What a pure operation gives. -/
def Pure1 (P : Program) (a : Act) (c : Cf) (w : World) (lam : Nat → Nat) (o : Oper) (tv : TV) : Prop := ∃ x, (execOp a.eval o).run P w = .ok (.value x) w ∧ TR c w lam tv x

theorem sim_mov (hts : TS c w lam ts a.tmps) {o : Oper} {x : AX} (hok : okOp P (.mov x) o.op = true) {tv : TV} (h : rdT ts x = some tv) : Pure1 P a c w lam o tv := by
  unfold Pure1 execOp
  cases ho : o.op <;> rw [ho] at hok <;> simp [okOp] at hok
  all_goals exact ⟨_, rfl, rdT_TR hts hok h⟩

theorem rdV_bool (hts : TS c w lam ts a.tmps) {x : AX} {y : Operand} (hx : okX x y = true) {b : Bool} (h : rdV ts x = some (.bool b)) : a.eval y = .bool b := by
  have := rdV_VR hts hx h
  generalize a.eval y = z at this ⊢
  cases this; rfl
theorem sim_pick (hts : TS c w lam ts a.tmps) {o : Oper} {x y z : AX} (hok : okOp P (.pick x y z) o.op = true) {b : Bool} (hb : rdV ts x = some (.bool b)) {tv : TV} (h : rdT ts (if b then y else z) = some tv) : Pure1 P a c w lam o tv := by
  unfold Pure1 execOp
  cases ho : o.op <;> rw [ho] at hok <;> simp [okOp] at hok
  have e := rdV_bool hts hok.1.1 hb
  simp only [Sem.run_bind, e, asBool, Sem.run_pure, Result.andThen_ok]
  cases b
  · exact ⟨_, rfl, rdT_TR hts hok.2 h⟩
  · exact ⟨_, rfl, rdT_TR hts hok.1.2 h⟩

theorem sim_load (hs : SR P E c0 st0 w0 mk c st w lam bs) (hts : TS c w lam ts a.tmps) {o : Oper} {ag : Bool} {n : Nat} {x : AX} (hok : okOp P (.load ag n x) o.op = true) {p : TV} (hp : rdT ts x = some p) {cs : List AV}
    (hc : cellsAt E.glob bs st p = some cs) {v : AV} (h : ofCells ag n cs = some v) : Pure1 P a c w lam o (.v v) := by
  unfold Pure1 execOp
  cases ho : o.op <;> rw [ho] at hok <;> simp [okOp] at hok
  rename_i t y
  obtain ⟨ad, e, vs, hl, hr⟩ := cellsAt_Reads hs (rdT_TR hts hok.1 hp) hc
  have hz := run_sizeOf (aggIs_size hok.2) w
  cases ag with
  | true =>
    obtain ⟨hn, hv⟩ := ofCells_agg h hl
    have hlc := run_loadCells_list (P := P) (w := w) ad (vs.take n) (fun j u hj => hr j u (by rw [List.getElem?_take] at hj; split at hj <;> simp_all))
    have hlen : (vs.take n).length = n := by simp; omega
    rw [hlen] at hlc
    refine ⟨_, ?_, .v hv⟩
    simp [Instr.loadAt, Instr.sureAddr, e, loadVar, run_isAgg hok.2, hz, hlc]
  | false =>
    obtain ⟨u, rest, rfl, hv, _⟩ := ofCells_one h hl
    have hcell := hr 0 u rfl
    simp [Addr.add] at hcell
    refine ⟨u, ?_, .v hv⟩
    simp [Instr.loadAt, Instr.sureAddr, e, loadVar, run_isAgg hok.2, hcell]

theorem addP_TR {tv q : TV} {x : Value} (ht : TR c w lam tv x) {off : Nat} (h : addP off tv = some q) : ∃ ad, x = .pointer (some ad) ∧ TR c w lam q (.pointer (some (ad.add off))) := by
  unfold addP at h
  split at h
  · simp at h; subst h
    cases ht; rename_i hv; cases hv; rename_i b k hb
    exact ⟨_, rfl, by rw [add_flat]; exact .v (.ref _ _ _ b k hb)⟩
  · simp at h; subst h
    cases ht; rename_i hv; cases hv
    exact ⟨_, rfl, by rw [add_flat]; exact .v (.gref _ _)⟩
  · rename_i cs
    simp at h; subst h
    cases ht; rename_i hv; cases hv; rename_i ad cv hc hr
    refine ⟨_, rfl, .v (.pl _ _ (fun k => cv (off + k)) (fun k hk => ?_) (fun k hk => ?_))⟩
    · simp at hk
      obtain ⟨h1, h2, h3⟩ := hc (off + k) (by omega)
      exact ⟨by rw [add_block]; exact h1, by rw [add_add]; exact h2, h3⟩
    · rw [List.getElem_drop]; exact hr _ _
  · simp at h; subst h
    cases ht
    exact ⟨_, rfl, by rw [add_flat]; exact .loc _ _⟩
  · cases h
theorem sim_faddr (hts : TS c w lam ts a.tmps) {o : Oper} {off : Nat} {x : AX} (hok : okOp P (.faddr off x) o.op = true) {p q : TV} (hp : rdT ts x = some p) (h : addP off p = some q) : Pure1 P a c w lam o q := by
  unfold Pure1 execOp
  cases ho : o.op <;> rw [ho] at hok <;> simp [okOp] at hok
  rename_i t y i
  obtain ⟨hx, hok⟩ := hok
  obtain ⟨ad, e, hq⟩ := addP_TR (rdT_TR hts hx hp) h
  split at hok
  · rename_i fs hu
    split at hok
    · rename_i f hf
      simp at hok
      obtain ⟨hoff, hok⟩ := hok
      split at hok
      · rename_i j hj
        refine ⟨_, ?_, hq⟩
        have hne : j.size ≠ 0 := by simpa using hok
        simp [Instr.fieldAt, run_underlying hu, hf, Instr.sureAddr, e, fieldPlace, Go.sizeOf, typeInfo, hj, hne, hoff]
      · cases hok
    · cases hok
  · cases hok

theorem elemIs_info {t es : Nat} (h : elemIs P t es = true) : ∃ e, P.underlying t = some (.slice e) ∧ sizeIs P e es = true := by
  unfold elemIs at h
  split at h
  · rename_i e hu; exact ⟨e, hu, h⟩
  · cases h
theorem VR.lst_inv {nl : Option Bool} {ex : Bool} {n : Nat} {cs : List AV} {x : Value} (h : VR c w (.lst nl ex n cs) x) :
    ∃ ad cap, x = .slice ad n cap ∧ (∀ y, nl = some y → ad.isNone = y) ∧ n ≤ cap ∧ cap ≤ maxLen ∧ (ex = true → cap = n) ∧ (0 < n → ad.isSome = true) ∧ (∀ q, ad = some q → (0 < cs.length → c.fz q.block) ∧ Reads c w q cs) ∧ (ad = none → cs = []) := by
  cases h with
  | lst nl ex n cs ad cap cv hnl hcap hmx hex hp hc hr =>
    refine ⟨ad, cap, rfl, hnl, hcap, hmx, hex, hp, fun q hq => ⟨fun h0 => ?_, (List.range cs.length).map cv, ⟨by simp, ?_, ?_⟩, ?_⟩, fun hq => ?_⟩
    · obtain ⟨q', e, hf, _⟩ := hc 0 h0
      rw [hq] at e; cases e; exact hf
    · intro v hv
      simp at hv
      obtain ⟨k, hk, rfl⟩ := hv
      obtain ⟨_, _, _, _, h1⟩ := hc k hk
      exact h1
    · intro k hk
      have e : ((List.range cs.length).map cv).getD k undef = cv k := by simp [List.getD_eq_getElem?_getD, List.getElem?_map, List.getElem?_range hk]
      rw [e]; exact hr k hk
    · intro k v hk
      simp [List.getElem?_map] at hk
      obtain ⟨j, hj, rfl⟩ := hk
      obtain ⟨h1, rfl⟩ := List.getElem?_eq_some_iff.1 hj
      simp at h1 ⊢
      obtain ⟨q', e, _, h2, _⟩ := hc k h1
      rw [hq] at e; cases e; exact h2
    · match cs, hc with
      | [], _ => rfl
      | _ :: _, hc =>
        obtain ⟨q', e, _⟩ := hc 0 (Nat.succ_pos _)
        rw [hq] at e; cases e
/-- A pointer into cells that nobody writes any more. -/
theorem VR.of_reads {q : Addr} {cs : List AV} (hf : 0 < cs.length → c.fz q.block) (hr : Reads c w q cs) : VR c w (.pl cs) (.pointer (some q)) := by
  obtain ⟨vs, hl, hc⟩ := hr
  refine .pl cs q (fun k => vs.getD k undef) (fun k hk => ⟨hf (by omega), ?_, ?_⟩) (fun k hk => hl.rel k hk)
  · have : k < vs.length := by rw [hl.len]; exact hk
    exact hc k _ (by simp [List.getD_eq_getElem?_getD, List.getElem?_eq_getElem this])
  · have : k < vs.length := by rw [hl.len]; exact hk
    simp only [List.getD_eq_getElem?_getD, List.getElem?_eq_getElem this, Option.getD_some]
    exact hl.one _ (List.getElem_mem _)
theorem iaddrA_TR {es : Nat} {v : AV} {x : Value} (hv : VR c w v x) {i : Int} {q : TV} (h : iaddrA es v i = some q) : ∃ ad n cap, x = .slice (some ad) n cap ∧ 0 ≤ i ∧ i < n ∧ TR c w lam q (.pointer (some (ad.add (i.toNat * es)))) := by
  unfold iaddrA at h
  split at h
  · rename_i nl ex n cs
    split at h
    · rename_i hi
      simp at h; subst h
      obtain ⟨ad, cap, rfl, _, _, _, _, hp, hr, _⟩ := hv.lst_inv
      have hn : 0 < n := by omega
      have hsome := hp hn
      cases ad with
      | none => simp at hsome
      | some ad =>
        obtain ⟨hf, hr⟩ := hr ad rfl
        exact ⟨ad, n, cap, rfl, hi.1, hi.2, .v (VR.of_reads (fun h0 => by rw [add_block]; exact hf (by simp at h0; omega)) (hr.drop _))⟩
    · cases h
  · split at h
    · rename_i es' id ver off n cap hi
      simp at h; subst h
      cases hv
      rename_i b k hb hcap hmx hoff
      refine ⟨_, _, _, rfl, hi.2.1, hi.2.2, ?_⟩
      rw [add_flat]
      exact .v (.ref _ _ _ b k hb)
    · cases h
  · cases h
theorem sim_iaddr (hts : TS c w lam ts a.tmps) {o : Oper} {es : Nat} {x i : AX} (hok : okOp P (.iaddr es x i) o.op = true) {v : AV} (hv : rdV ts x = some v) {j : Int} (hj : rdI ts i = some j) {q : TV} (h : iaddrA es v j = some q) : Pure1 P a c w lam o q := by
  unfold Pure1 execOp
  cases ho : o.op <;> rw [ho] at hok <;> simp [okOp] at hok
  rename_i t y z
  obtain ⟨e, hu, hz⟩ := elemIs_info hok.2
  obtain ⟨ad, n, cap, ex, h0, h1, hq⟩ := iaddrA_TR (lam := lam) (rdV_VR hts hok.1.1 hv) h
  obtain ⟨k, ei⟩ := rdI_int hts hok.1.2 hj
  refine ⟨_, ?_, hq⟩
  simp [Instr.indexAt, ei, asIntOf, run_underlying hu, ex, h0, h1, run_sizeOf hz]
theorem sim_aaddr (hts : TS c w lam ts a.tmps) {o : Oper} {es len : Nat} {x i : AX} (hok : okOp P (.aaddr es len x i) o.op = true) {p q : TV} (hp : rdT ts x = some p) {j : Int} (hj : rdI ts i = some j) (h0 : 0 ≤ j) (h1 : j < len)
    (h : addP (j.toNat * es) p = some q) : Pure1 P a c w lam o q := by
  unfold Pure1 execOp
  cases ho : o.op <;> rw [ho] at hok <;> simp [okOp] at hok
  rename_i t y z
  obtain ⟨ad, e, hq⟩ := addP_TR (rdT_TR hts hok.1.1 hp) h
  obtain ⟨k, ei⟩ := rdI_int hts hok.1.2 hj
  have hok := hok.2
  split at hok
  · rename_i n e' hu
    simp at hok
    obtain ⟨rfl, hz⟩ := hok
    refine ⟨_, ?_, hq⟩
    simp [Instr.indexAt, ei, asIntOf, run_underlying hu, Instr.sureAddr, e, h0, h1, run_sizeOf hz]
  · cases hok
theorem VR.agg_inv {cs : List AV} {x : Value} (h : VR c w (.agg cs) x) : ∃ vs, x = .agg vs.toArray ∧ CL c w cs vs := by
  cases h; exact ⟨_, rfl, ⟨‹_›, ‹_›, ‹_›⟩⟩
theorem sim_field (hts : TS c w lam ts a.tmps) {o : Oper} {ag : Bool} {off n : Nat} {x : AX} (hok : okOp P (.field ag off n x) o.op = true) {cs : List AV} (hv : rdV ts x = some (.agg cs)) {v : AV} (h : ofCells ag n (cs.drop off) = some v) :
    Pure1 P a c w lam o (.v v) := by
  unfold Pure1 execOp
  cases ho : o.op <;> rw [ho] at hok <;> simp [okOp] at hok
  rename_i t y i
  obtain ⟨hx, hok⟩ := hok
  obtain ⟨vs, e, hl⟩ := (rdV_VR hts hx hv).agg_inv
  split at hok
  · rename_i fs hu
    split at hok
    · rename_i f hf
      simp at hok
      obtain ⟨u, hr, hvr, _⟩ := run_part hok.2 h hl w
      refine ⟨u, ?_, .v hvr⟩
      rw [← hok.1] at hr
      simp [Instr.field, run_underlying hu, hf, asAgg, e, hr]
    · cases hok
  · cases hok
theorem sim_index (hts : TS c w lam ts a.tmps) {o : Oper} {ag : Bool} {es len : Nat} {x i : AX} (hok : okOp P (.index ag es len x i) o.op = true) {cs : List AV} (hv : rdV ts x = some (.agg cs)) {j : Int} (hj : rdI ts i = some j) (h0 : 0 ≤ j) (h1 : j < len)
    {v : AV} (h : ofCells ag es (cs.drop (j.toNat * es)) = some v) : Pure1 P a c w lam o (.v v) := by
  unfold Pure1 execOp
  cases ho : o.op <;> rw [ho] at hok <;> simp [okOp] at hok
  rename_i t y z
  obtain ⟨vs, e, hl⟩ := (rdV_VR hts hok.1.1 hv).agg_inv
  obtain ⟨k, ei⟩ := rdI_int hts hok.1.2 hj
  have hok := hok.2
  split at hok
  · rename_i n e' hu
    simp at hok
    obtain ⟨rfl, hag⟩ := hok
    obtain ⟨u, hr, hvr, _⟩ := run_part hag h hl w
    refine ⟨u, ?_, .v hvr⟩
    simp [Instr.index, ei, asIntOf, run_underlying hu, e, h0, h1, run_sizeOf (aggIs_size hag), hr]
  · cases hok
theorem sim_un (hts : TS c w lam ts a.tmps) {o : Oper} {op : UnOp} {x : AX} (hok : okOp P (.un op x) o.op = true) {v r : AV} (hv : rdV ts x = some v) (h : unA op v = some r) : Pure1 P a c w lam o (.v r) := by
  unfold Pure1 execOp
  cases ho : o.op <;> rw [ho] at hok <;> simp [okOp] at hok
  rename_i op' ty y
  obtain ⟨rfl, hx⟩ := hok
  have hvr := rdV_VR hts hx hv
  dsimp only
  generalize a.eval y = z at hvr ⊢
  cases hvr <;> simp only [unA] at h
  all_goals first | (cases h; done) | skip
  · cases op <;> simp at h
    subst h
    exact ⟨_, rfl, .v (.bool _)⟩
  · cases op <;> simp at h
    subst h
    refine ⟨_, ?_, .v (.int _ _)⟩
    simp [Op.unary, Op.intArith]
theorem sim_bin (hts : TS c w lam ts a.tmps) {o : Oper} {op : BinOp} {x y : AX} (hok : okOp P (.bin op x y) o.op = true) {u v r : AV} (hu : rdV ts x = some u) (hv : rdV ts y = some v) (h : binA op u v = some r) : Pure1 P a c w lam o (.v r) := by
  unfold Pure1 execOp
  cases ho : o.op <;> rw [ho] at hok <;> simp [okOp] at hok
  rename_i op' ty x' y' ty'
  obtain ⟨⟨rfl, hx⟩, hy⟩ := hok
  have hur := rdV_VR hts hx hu
  have hvr := rdV_VR hts hy hv
  dsimp only
  generalize ea : a.eval x' = z at hur ⊢
  generalize eb : a.eval y' = z' at hvr ⊢
  unfold binA at h
  split at h
  · rename_i k m k' n
    cases hur; cases hvr
    split at h
    · unfold shift at h
      split at h
      · cases h
      · rename_i hn
        simp at h; subst h
        refine ⟨_, ?_, .v (.int _ _)⟩
        simp [eqGuard_shl, binOp_shl, Op.shift, hn]
    · unfold shift at h
      split at h
      · cases h
      · rename_i hn
        simp at h; subst h
        refine ⟨_, ?_, .v (.int _ _)⟩
        simp [eqGuard_shr, binOp_shr, Op.shift, hn]
    · split at h
      · rename_i hne1 hne2 hk
        subst hk
        unfold arith at h
        split at h
        all_goals first
          | (cases h; done)
          | (simp at h; subst h; exact ⟨_, by simp [eqGuard_at_int, binOp_add, binOp_sub, binOp_mul, binOp_and, binOp_or, binOp_xor, binOp_andNot, binOp_eql, binOp_neq, binOp_lss, binOp_leq, binOp_gtr, binOp_geq, Op.intArith, Op.intBits]; rfl, .v (by constructor)⟩)
          | (split at h
             · cases h
             · rename_i hz
               simp at h; subst h; exact ⟨_, by simp [eqGuard_at_int, binOp_quo, binOp_rem, Op.intDiv, hz]; rfl, .v (by constructor)⟩)
      · cases h
  · cases h
theorem sim_eqb (hts : TS c w lam ts a.tmps) {o : Oper} {neq : Bool} {x y : AX} (hok : okOp P (.eqb neq x y) o.op = true) {p q : Bool} (hu : rdV ts x = some (.bool p)) (hv : rdV ts y = some (.bool q)) :
    Pure1 P a c w lam o (.v (.bool (if neq then !(p == q) else p == q))) := by
  unfold Pure1 execOp
  cases ho : o.op <;> rw [ho] at hok <;> simp [okOp] at hok
  rename_i op' ty x' y' ty'
  obtain ⟨⟨⟨hop, hx⟩, hy⟩, ht⟩ := hok
  have e1 := rdV_bool hts hx hu
  have e2 := rdV_bool hts hy hv
  split at ht
  · rename_i hub
    have he : (Op.equal ty (.bool p) (.bool q)).run P w = .ok (p == q) w := run_equalIn_bool' w 9999 ty p q hub
    refine ⟨_, ?_, .v (.bool _)⟩
    subst hop
    cases neq <;> simp [e1, e2, eqGuard_at_bool, binOp, he]
  · cases ht
theorem sim_len (hts : TS c w lam ts a.tmps) {o : Oper} {x : AX} (hok : okOp P (.len x) o.op = true) {v r : AV} (hv : rdV ts x = some v) (h : lenA v = some r) : Pure1 P a c w lam o (.v r) := by
  unfold Pure1 execOp
  cases ho : o.op <;> rw [ho] at hok <;> simp [okOp] at hok
  rename_i cl
  obtain ⟨⟨hc, hx⟩, ht⟩ := hok
  obtain ⟨cal, args, tys⟩ := cl
  simp only at hc hx ht
  split at hc
  · obtain ⟨⟨args⟩⟩ := args
    · simp [okXs] at hx
    · rename_i y ys
      cases ys with
      | cons _ _ => simp [okXs] at hx
      | nil =>
        simp [okXs] at hx
        have hvr := rdV_VR hts hx hv
        split at ht
        · rename_i t et
          split at ht
          · rename_i e hu
            generalize ea : a.eval y = z at hvr
            unfold lenA at h
            split at h
            · simp at h; subst h
              cases hvr
              exact ⟨_, by simp [resolve, invoke, builtin, Builtin.len_, et, ea, run_underlying hu, goInt], .v (.int _ _)⟩
            · simp at h; subst h
              cases hvr
              exact ⟨_, by simp [resolve, invoke, builtin, Builtin.len_, et, ea, run_underlying hu, goInt], .v (.int _ _)⟩
            · cases h
          · cases ht
        · cases ht
  · cases hc
end
end Go.Proofs.AM
